/-
  Go functions as Lean functions, by a program of this repo.
-/
import Derived.Test.YtagebdhlgnlcnaaGreatDoorOwn0
import Derived.Test.YtagebdhlgnlcnaaGreatDoorLib2
import Derived.Test.YtagebdhlgnlcnaaGreatDoorProg
import Derived.Test.YtagebdhlgnlcnaaGreatDoorLib5
namespace Go.Proofs.YtagebdhlgnlcnaaGreatDoor
open Go Go.Ab
set_option linter.unusedVariables false
set_option maxRecDepth 100000
mutual
def go_ref01_Decimal : Nat → Int → Option (List UInt8)
 | 0, _ => none
 | n + 1, a0 =>
   pIf (decide (a0 < 0))
     ((go_ref01_Decimal n (IntKind.i64.wrap (0 - a0))).bind fun y0 =>
     (cat [45] y0).bind fun x1 =>
     some x1)
     (go_ref01_Decimal_L0 n a0 [])
def go_ref01_Decimal_L0 : Nat → Int → (List UInt8) → Option (List UInt8)
 | 0, _, _ => none
 | n + 1, a0, a1 =>
   (rem .i64 a0 10).bind fun x2 =>
   (strI [(IntKind.u8.wrap (IntKind.i64.wrap (48 + x2)))]).bind fun x3 =>
   (cat x3 a1).bind fun x4 =>
   (quo .i64 a0 10).bind fun x5 =>
   pIf (x5 == 0)
     (some x4)
     (go_ref01_Decimal_L0 n x5 x4)
end
def k_ref01_Decimal : LSh := ⟨[(2, (.d .str))], [], 0, 23⟩
noncomputable def I_ref01_Decimal : FI dat := FI.of dat 56 23 0 [(.d (.int .i64))] [] [(.d .str)] [] true k_ref01_Decimal (R := List UInt8) (fun x => x.1) (fun r => (r, ())) (fun n x => go_ref01_Decimal n x.1)
 (fun n => [(0, ⟨⟨[(0, (.d (.int .i64))), (3, (.d .str))], [], 0, 23⟩, fun x => go_ref01_Decimal_L0 n x.1 x.2.1⟩)]) (ann [(13, 0)] (Tryz.f56.body.getD .skip) 0).1
noncomputable def t_ref01_Decimal : List (FI dat) := [I_ref01_Decimal] ++ []
theorem g_ref01_Decimal : (I_ref01_Decimal).Good Tryz.prog dat (tb t_ref01_Decimal) := FI.of_good (hD := dat_ok _) Tryz.func56 Tryz.ntmps56 Tryz.call56 (by kernel_rfl) (of_decide_eq_true (by kernel_rfl)) (by kernel_rfl) (fun n => by kernel_rfl) (fun x => by kernel_rfl) (fun _ => rfl) ⟨fun _ => rfl, trivial⟩
 (fun n => fun x => (go_ref01_Decimal.eq_2 x.1 n).trans (by kernel_rfl))
 (fun n => ⟨fun x => (go_ref01_Decimal_L0.eq_2 x.1 x.2.1 n).trans (by kernel_rfl),
  trivial⟩)
 (fun x => .inl rfl)
theorem r_ref01_Decimal : OkL Tryz.prog [I_ref01_Decimal] := ring_ok (dat_ok _) (bs := []) trivial ⟨g_ref01_Decimal, trivial⟩
theorem ok_ref01_Decimal : FOk Tryz.prog I_ref01_Decimal := r_ref01_Decimal.1
def go_ref01_Text : Nat → GRatio → Option ((List UInt8) × Int)
 | 0, _ => none
 | n + 1, a0 =>
   (go_ref01_Check n a0).bind fun y0 =>
   pIf (y0 != 0)
     ((go_ref01_Check n a0).bind fun y1 =>
     some ([], y1))
     (pIf (a0.den == 1)
       ((go_ref01_Decimal n a0.num).bind fun y2 =>
       some (y2, 0))
       ((go_ref01_Decimal n a0.num).bind fun y3 =>
       (cat y3 [47]).bind fun x4 =>
       (go_ref01_Decimal n a0.den).bind fun y5 =>
       (cat x4 y5).bind fun x6 =>
       some (x6, 0)))
def k_ref01_Text : LSh := ⟨[(2, (.d .str)), (3, (.d (.int .i64)))], [], 0, 23⟩
noncomputable def I_ref01_Text : FI dat := FI.of dat 36 23 0 [(.d (.st 1))] [] [(.d .str), (.d (.int .i64))] [] true k_ref01_Text (R := (List UInt8) × Int) (fun x => (x.1, x.2.1)) (fun r => (r.1, r.2, ())) (fun n x => go_ref01_Text n x.1)
 (fun n => []) (ann [] (Tryz.f36.body.getD .skip) 0).1
noncomputable def t_ref01_Text : List (FI dat) := [I_ref01_Check, I_ref01_Decimal]
theorem g_ref01_Text : (I_ref01_Text).Good Tryz.prog dat (tb t_ref01_Text) := FI.of_good (hD := dat_ok _) Tryz.func36 Tryz.ntmps36 Tryz.call36 (by kernel_rfl) (of_decide_eq_true (by kernel_rfl)) (by kernel_rfl) (fun n => by kernel_rfl) (fun x => by kernel_rfl) (fun _ => rfl) trivial
 (fun n => fun x => (go_ref01_Text.eq_2 x.1 n).trans (by kernel_rfl))
 (fun n => trivial)
 (fun x => .inl rfl)
theorem r_ref01_Text : OkL Tryz.prog [I_ref01_Text] := one_ok (dat_ok _) (bs := [I_ref01_Check, I_ref01_Decimal]) ⟨ok_ref01_Check, ok_ref01_Decimal, trivial⟩ g_ref01_Text
theorem ok_ref01_Text : FOk Tryz.prog I_ref01_Text := r_ref01_Text.1
mutual
def go_ref03_Written : Nat → GValue → Option (List UInt8)
 | 0, _ => none
 | n + 1, a0 =>
   pIf (a0.kind == 1)
     ((go_ref01_Text n a0.num).bind fun y0 =>
     some y0.1)
     (pIf (a0.kind == 2)
       (pIf a0.truth
         (some [116, 114, 117, 101])
         (some [102, 97, 108, 115, 101]))
       (pIf (a0.kind == 3)
         (go_ref03_Written_L0 n 0 [34] a0.re)
         (go_ref03_Written_L3 n 0 [91] a0.re)))
def go_ref03_Written_L0 : Nat → Int → (List UInt8) → GValue → Option (List UInt8)
 | 0, _, _, _ => none
 | n + 1, a0, a1, a2 =>
   pIf (decide (a0 < (a2.str.length : Int)))
     ((ix a2.str a0).bind fun x1 =>
     pIf ((x1.toNat : Int) == 34)
       (go_ref03_Written_L1 n a0 a1 true a2.re)
       ((ix a2.str a0).bind fun x2 =>
       go_ref03_Written_L1 n a0 a1 ((x2.toNat : Int) == 92) a2.re))
     ((cat a1 [34]).bind fun x3 =>
     some x3)
def go_ref03_Written_L1 : Nat → Int → (List UInt8) → Bool → GValue → Option (List UInt8)
 | 0, _, _, _, _ => none
 | n + 1, a0, a1, a2, a3 =>
   pIf a2
     ((cat a1 [92]).bind fun x6 =>
     go_ref03_Written_L2 n a0 x6 a3.re)
     (go_ref03_Written_L2 n a0 a1 a3.re)
def go_ref03_Written_L2 : Nat → Int → (List UInt8) → GValue → Option (List UInt8)
 | 0, _, _, _ => none
 | n + 1, a0, a1, a2 =>
   (sub a2.str a0 (IntKind.i64.wrap (a0 + 1))).bind fun x10 =>
   (cat a1 x10).bind fun x11 =>
   go_ref03_Written_L0 n (IntKind.i64.wrap (a0 + 1)) x11 a2.re
def go_ref03_Written_L3 : Nat → Int → (List UInt8) → GValue → Option (List UInt8)
 | 0, _, _, _ => none
 | n + 1, a0, a1, a2 =>
   pIf (decide (a0 < (a2.list.length : Int)))
     (pIf (decide (a0 > 0))
       ((cat a1 [44, 32]).bind fun x4 =>
       go_ref03_Written_L4 n a0 x4 a2.re)
       (go_ref03_Written_L4 n a0 a1 a2.re))
     ((cat a1 [93]).bind fun x5 =>
     some x5)
def go_ref03_Written_L4 : Nat → Int → (List UInt8) → GValue → Option (List UInt8)
 | 0, _, _, _ => none
 | n + 1, a0, a1, a2 =>
   (ix a2.list a0).bind fun x7 =>
   (go_ref03_Written n x7.re).bind fun y8 =>
   (cat a1 y8).bind fun x9 =>
   go_ref03_Written_L3 n (IntKind.i64.wrap (a0 + 1)) x9 a2.re
end
def k_ref03_Written : LSh := ⟨[(2, (.d .str))], [], 0, 78⟩
noncomputable def I_ref03_Written : FI dat := FI.of dat 19 78 0 [(.d (.st 2))] [] [(.d .str)] [] true k_ref03_Written (R := List UInt8) (fun x => x.1) (fun r => (r, ())) (fun n x => go_ref03_Written n x.1)
 (fun n => [(0, ⟨⟨[(6, (.d (.int .i64))), (1, (.ptr 0 0)), (5, (.d .str))], [(.st 2)], 0, 78⟩, fun x => go_ref03_Written_L0 n x.1 x.2.1 x.2.2.1⟩), (1, ⟨⟨[(1, (.ptr 0 0)), (6, (.d (.int .i64))), (5, (.d .str)), (44, (.d .bool))], [(.st 2)], 0, 78⟩, fun x => go_ref03_Written_L1 n x.1 x.2.1 x.2.2.1 x.2.2.2.1⟩), (2, ⟨⟨[(1, (.ptr 0 0)), (6, (.d (.int .i64))), (5, (.d .str))], [(.st 2)], 0, 78⟩, fun x => go_ref03_Written_L2 n x.1 x.2.1 x.2.2.1⟩), (3, ⟨⟨[(8, (.d (.int .i64))), (1, (.ptr 0 0)), (7, (.d .str))], [(.st 2)], 0, 78⟩, fun x => go_ref03_Written_L3 n x.1 x.2.1 x.2.2.1⟩), (4, ⟨⟨[(1, (.ptr 0 0)), (8, (.d (.int .i64))), (7, (.d .str))], [(.st 2)], 0, 78⟩, fun x => go_ref03_Written_L4 n x.1 x.2.1 x.2.2.1⟩)]) (ann [(37, 0), (49, 1), (52, 2), (64, 3), (79, 4)] (Tryz.f19.body.getD .skip) 0).1
noncomputable def t_ref03_Written : List (FI dat) := [I_ref03_Written] ++ [I_ref01_Text]
theorem g_ref03_Written : (I_ref03_Written).Good Tryz.prog dat (tb t_ref03_Written) := FI.of_good (hD := dat_ok _) Tryz.func19 Tryz.ntmps19 Tryz.call19 (by kernel_rfl) (of_decide_eq_true (by kernel_rfl)) (by kernel_rfl) (fun n => by kernel_rfl) (fun x => by kernel_rfl) (fun _ => rfl) ⟨fun _ => rfl, fun _ => rfl, fun _ => rfl, fun _ => rfl, fun _ => rfl, trivial⟩
 (fun n => fun x => (go_ref03_Written.eq_2 x.1 n).trans (by kernel_rfl))
 (fun n => ⟨fun x => (go_ref03_Written_L0.eq_2 x.1 x.2.1 x.2.2.1 n).trans (by kernel_rfl),
  fun x => (go_ref03_Written_L1.eq_2 x.1 x.2.1 x.2.2.1 x.2.2.2.1 n).trans (by kernel_rfl),
  fun x => (go_ref03_Written_L2.eq_2 x.1 x.2.1 x.2.2.1 n).trans (by kernel_rfl),
  fun x => (go_ref03_Written_L3.eq_2 x.1 x.2.1 x.2.2.1 n).trans (by kernel_rfl),
  fun x => (go_ref03_Written_L4.eq_2 x.1 x.2.1 x.2.2.1 n).trans (by kernel_rfl),
  trivial⟩)
 (fun x => .inl rfl)
theorem r_ref03_Written : OkL Tryz.prog [I_ref03_Written] := ring_ok (dat_ok _) (bs := [I_ref01_Text]) ⟨ok_ref01_Text, trivial⟩ ⟨g_ref03_Written, trivial⟩
theorem ok_ref03_Written : FOk Tryz.prog I_ref03_Written := r_ref03_Written.1
mutual
def go_ref45_decimal : Nat → Int → Option (List UInt8)
 | 0, _ => none
 | n + 1, a0 =>
   (rem .i64 a0 10).bind fun x0 =>
   (rem .i64 a0 10).bind fun x1 =>
   (sub [48, 49, 50, 51, 52, 53, 54, 55, 56, 57] x0 (IntKind.i64.wrap (x1 + 1))).bind fun x2 =>
   (quo .i64 a0 10).bind fun x3 =>
   go_ref45_decimal_L0 n x3 x2 [48, 49, 50, 51, 52, 53, 54, 55, 56, 57]
def go_ref45_decimal_L0 : Nat → Int → (List UInt8) → (List UInt8) → Option (List UInt8)
 | 0, _, _, _ => none
 | n + 1, a0, a1, a2 =>
   pIf (decide (a0 > 0))
     ((rem .i64 a0 10).bind fun x4 =>
     (rem .i64 a0 10).bind fun x5 =>
     (sub a2 x4 (IntKind.i64.wrap (x5 + 1))).bind fun x6 =>
     (cat x6 a1).bind fun x7 =>
     (quo .i64 a0 10).bind fun x8 =>
     go_ref45_decimal_L0 n x8 x7 a2)
     (some a1)
end
def k_ref45_decimal : LSh := ⟨[(2, (.d .str))], [], 0, 28⟩
noncomputable def I_ref45_decimal : FI dat := FI.of dat 21 28 0 [(.d (.int .i64))] [] [(.d .str)] [] true k_ref45_decimal (R := List UInt8) (fun x => x.1) (fun r => (r, ())) (fun n x => go_ref45_decimal n x.1)
 (fun n => [(0, ⟨⟨[(0, (.d (.int .i64))), (4, (.d .str)), (3, (.d .str))], [], 0, 28⟩, fun x => go_ref45_decimal_L0 n x.1 x.2.1 x.2.2.1⟩)]) (ann [(10, 0)] (Tryz.f21.body.getD .skip) 0).1
noncomputable def t_ref45_decimal : List (FI dat) := []
theorem g_ref45_decimal : (I_ref45_decimal).Good Tryz.prog dat (tb t_ref45_decimal) := FI.of_good (hD := dat_ok _) Tryz.func21 Tryz.ntmps21 Tryz.call21 (by kernel_rfl) (of_decide_eq_true (by kernel_rfl)) (by kernel_rfl) (fun n => by kernel_rfl) (fun x => by kernel_rfl) (fun _ => rfl) ⟨fun _ => rfl, trivial⟩
 (fun n => fun x => (go_ref45_decimal.eq_2 x.1 n).trans (by kernel_rfl))
 (fun n => ⟨fun x => (go_ref45_decimal_L0.eq_2 x.1 x.2.1 x.2.2.1 n).trans (by kernel_rfl),
  trivial⟩)
 (fun x => .inl rfl)
theorem r_ref45_decimal : OkL Tryz.prog [I_ref45_decimal] := one_ok (dat_ok _) (bs := []) trivial g_ref45_decimal
theorem ok_ref45_decimal : FOk Tryz.prog I_ref45_decimal := r_ref45_decimal.1
mutual
def go_ref45_Text : Nat → (List GTally) → Option ((List UInt8) × Int)
 | 0, _ => none
 | n + 1, a0 =>
   (go_ref45_Check n a0).bind fun y0 =>
   pIf (y0 != 0)
     ((go_ref45_Check n a0).bind fun y1 =>
     some ([], y1))
     (go_ref45_Text_L0 n 0 a0 [])
def go_ref45_Text_L0 : Nat → Int → (List GTally) → (List UInt8) → Option ((List UInt8) × Int)
 | 0, _, _, _ => none
 | n + 1, a0, a1, a2 =>
   pIf (decide (a0 < (a1.length : Int)))
     ((ix a1 a0).bind fun x2 =>
     (go_ref03_Str n x2.name).bind fun y3 =>
     (go_ref03_Written n y3.re).bind fun y4 =>
     (cat a2 y4).bind fun x5 =>
     (cat x5 [32]).bind fun x6 =>
     (ix a1 a0).bind fun x7 =>
     (go_ref45_decimal n x7.count).bind fun y8 =>
     (cat x6 y8).bind fun x9 =>
     (cat x9 [32]).bind fun x10 =>
     (ix a1 a0).bind fun x11 =>
     (go_ref45_decimal n x11.volume).bind fun y12 =>
     (cat x10 y12).bind fun x13 =>
     (cat x13 [10]).bind fun x14 =>
     go_ref45_Text_L0 n (IntKind.i64.wrap (a0 + 1)) a1 x14)
     (pIf (decide ((a2.length : Int) > 20000))
       (some ([], 4))
       (some (a2, 0)))
end
def k_ref45_Text : LSh := ⟨[(2, (.d .str)), (3, (.d (.int .i64)))], [], 0, 47⟩
noncomputable def I_ref45_Text : FI dat := FI.of dat 6 47 0 [(.d (.sl (.st 0)))] [] [(.d .str), (.d (.int .i64))] [] true k_ref45_Text (R := (List UInt8) × Int) (fun x => (x.1, x.2.1)) (fun r => (r.1, r.2, ())) (fun n x => go_ref45_Text n x.1)
 (fun n => [(0, ⟨⟨[(5, (.d (.int .i64))), (0, (.d (.sl (.st 0)))), (4, (.d .str))], [], 0, 47⟩, fun x => go_ref45_Text_L0 n x.1 x.2.1 x.2.2.1⟩)]) (ann [(16, 0)] (Tryz.f6.body.getD .skip) 0).1
noncomputable def t_ref45_Text : List (FI dat) := [I_ref45_Check, I_ref03_Str, I_ref03_Written, I_ref45_decimal]
theorem g_ref45_Text : (I_ref45_Text).Good Tryz.prog dat (tb t_ref45_Text) := FI.of_good (hD := dat_ok _) Tryz.func6 Tryz.ntmps6 Tryz.call6 (by kernel_rfl) (of_decide_eq_true (by kernel_rfl)) (by kernel_rfl) (fun n => by kernel_rfl) (fun x => by kernel_rfl) (fun _ => rfl) ⟨fun _ => rfl, trivial⟩
 (fun n => fun x => (go_ref45_Text.eq_2 x.1 n).trans (by kernel_rfl))
 (fun n => ⟨fun x => (go_ref45_Text_L0.eq_2 x.1 x.2.1 x.2.2.1 n).trans (by kernel_rfl),
  trivial⟩)
 (fun x => .inl rfl)
theorem r_ref45_Text : OkL Tryz.prog [I_ref45_Text] := one_ok (dat_ok _) (bs := [I_ref45_Check, I_ref03_Str, I_ref03_Written, I_ref45_decimal]) ⟨ok_ref45_Check, ok_ref03_Str, ok_ref03_Written, ok_ref45_decimal, trivial⟩ g_ref45_Text
theorem ok_ref45_Text : FOk Tryz.prog I_ref45_Text := r_ref45_Text.1
def go_internal_stringslite_Cut : Nat → (List UInt8) → (List UInt8) → Option ((List UInt8) × (List UInt8) × Bool)
 | 0, _, _ => none
 | n + 1, a0, a1 =>
   (go_internal_stringslite_Index n a0 a1).bind fun y0 =>
   pIf (decide (y0 ≥ 0))
     ((sub a0 0 y0).bind fun x1 =>
     (sub a0 (IntKind.i64.wrap (y0 + (a1.length : Int))) (a0.length : Int)).bind fun x2 =>
     some (x1, x2, true))
     (some (a0, [], false))
def k_internal_stringslite_Cut : LSh := ⟨[(4, (.d .str)), (5, (.d .str)), (6, (.d .bool))], [], 0, 23⟩
noncomputable def I_internal_stringslite_Cut : FI dat := FI.of dat 37 23 0 [(.d .str), (.d .str)] [] [(.d .str), (.d .str), (.d .bool)] [] true k_internal_stringslite_Cut (R := (List UInt8) × (List UInt8) × Bool) (fun x => (x.1, x.2.1, x.2.2.1)) (fun r => (r.1, r.2.1, r.2.2, ())) (fun n x => go_internal_stringslite_Cut n x.1 x.2.1)
 (fun n => []) (ann [] (Tryz.f37.body.getD .skip) 0).1
noncomputable def t_internal_stringslite_Cut : List (FI dat) := [I_internal_stringslite_Index]
theorem g_internal_stringslite_Cut : (I_internal_stringslite_Cut).Good Tryz.prog dat (tb t_internal_stringslite_Cut) := FI.of_good (hD := dat_ok _) Tryz.func37 Tryz.ntmps37 Tryz.call37 (by kernel_rfl) (of_decide_eq_true (by kernel_rfl)) (by kernel_rfl) (fun n => by kernel_rfl) (fun x => by kernel_rfl) (fun _ => rfl) trivial
 (fun n => fun x => (go_internal_stringslite_Cut.eq_2 x.1 x.2.1 n).trans (by kernel_rfl))
 (fun n => trivial)
 (fun x => .inl rfl)
theorem r_internal_stringslite_Cut : OkL Tryz.prog [I_internal_stringslite_Cut] := one_ok (dat_ok _) (bs := [I_internal_stringslite_Index]) ⟨ok_internal_stringslite_Index, trivial⟩ g_internal_stringslite_Cut
theorem ok_internal_stringslite_Cut : FOk Tryz.prog I_internal_stringslite_Cut := r_internal_stringslite_Cut.1
def go_strings_Cut : Nat → (List UInt8) → (List UInt8) → Option ((List UInt8) × (List UInt8) × Bool)
 | 0, _, _ => none
 | n + 1, a0, a1 =>
   (go_internal_stringslite_Cut n a0 a1).bind fun y0 =>
   some (y0.1, y0.2.1, y0.2.2)
def k_strings_Cut : LSh := ⟨[(4, (.d .str)), (5, (.d .str)), (6, (.d .bool))], [], 0, 13⟩
noncomputable def I_strings_Cut : FI dat := FI.of dat 22 13 0 [(.d .str), (.d .str)] [] [(.d .str), (.d .str), (.d .bool)] [] true k_strings_Cut (R := (List UInt8) × (List UInt8) × Bool) (fun x => (x.1, x.2.1, x.2.2.1)) (fun r => (r.1, r.2.1, r.2.2, ())) (fun n x => go_strings_Cut n x.1 x.2.1)
 (fun n => []) (ann [] (Tryz.f22.body.getD .skip) 0).1
noncomputable def t_strings_Cut : List (FI dat) := [I_internal_stringslite_Cut]
theorem g_strings_Cut : (I_strings_Cut).Good Tryz.prog dat (tb t_strings_Cut) := FI.of_good (hD := dat_ok _) Tryz.func22 Tryz.ntmps22 Tryz.call22 (by kernel_rfl) (of_decide_eq_true (by kernel_rfl)) (by kernel_rfl) (fun n => by kernel_rfl) (fun x => by kernel_rfl) (fun _ => rfl) trivial
 (fun n => fun x => (go_strings_Cut.eq_2 x.1 x.2.1 n).trans (by kernel_rfl))
 (fun n => trivial)
 (fun x => .inl rfl)
theorem r_strings_Cut : OkL Tryz.prog [I_strings_Cut] := one_ok (dat_ok _) (bs := [I_internal_stringslite_Cut]) ⟨ok_internal_stringslite_Cut, trivial⟩ g_strings_Cut
theorem ok_strings_Cut : FOk Tryz.prog I_strings_Cut := r_strings_Cut.1
mutual
def go_internal_bytealg_LastIndexByteString : Nat → (List UInt8) → Int → Option Int
 | 0, _, _ => none
 | n + 1, a0, a1 =>
   go_internal_bytealg_LastIndexByteString_L0 n (IntKind.i64.wrap ((a0.length : Int) - 1)) a1 a0
def go_internal_bytealg_LastIndexByteString_L0 : Nat → Int → Int → (List UInt8) → Option Int
 | 0, _, _, _ => none
 | n + 1, a0, a1, a2 =>
   pIf (decide (a0 ≥ 0))
     ((ix a2 a0).bind fun x0 =>
     pIf ((x0.toNat : Int) == a1)
       (some a0)
       (go_internal_bytealg_LastIndexByteString_L0 n (IntKind.i64.wrap (a0 - 1)) a1 a2))
     (some (-1))
end
def k_internal_bytealg_LastIndexByteString : LSh := ⟨[(4, (.d (.int .i64)))], [], 0, 19⟩
noncomputable def I_internal_bytealg_LastIndexByteString : FI dat := FI.of dat 38 19 0 [(.d .str), (.d (.int .u8))] [] [(.d (.int .i64))] [] true k_internal_bytealg_LastIndexByteString (R := Int) (fun x => x.1) (fun r => (r, ())) (fun n x => go_internal_bytealg_LastIndexByteString n x.1 x.2.1)
 (fun n => [(0, ⟨⟨[(5, (.d (.int .i64))), (1, (.d (.int .u8))), (0, (.d .str))], [], 0, 19⟩, fun x => go_internal_bytealg_LastIndexByteString_L0 n x.1 x.2.1 x.2.2.1⟩)]) (ann [(6, 0)] (Tryz.f38.body.getD .skip) 0).1
noncomputable def t_internal_bytealg_LastIndexByteString : List (FI dat) := []
theorem g_internal_bytealg_LastIndexByteString : (I_internal_bytealg_LastIndexByteString).Good Tryz.prog dat (tb t_internal_bytealg_LastIndexByteString) := FI.of_good (hD := dat_ok _) Tryz.func38 Tryz.ntmps38 Tryz.call38 (by kernel_rfl) (of_decide_eq_true (by kernel_rfl)) (by kernel_rfl) (fun n => by kernel_rfl) (fun x => by kernel_rfl) (fun _ => rfl) ⟨fun _ => rfl, trivial⟩
 (fun n => fun x => (go_internal_bytealg_LastIndexByteString.eq_2 x.1 x.2.1 n).trans (by kernel_rfl))
 (fun n => ⟨fun x => (go_internal_bytealg_LastIndexByteString_L0.eq_2 x.1 x.2.1 x.2.2.1 n).trans (by kernel_rfl),
  trivial⟩)
 (fun x => .inl rfl)
theorem r_internal_bytealg_LastIndexByteString : OkL Tryz.prog [I_internal_bytealg_LastIndexByteString] := one_ok (dat_ok _) (bs := []) trivial g_internal_bytealg_LastIndexByteString
theorem ok_internal_bytealg_LastIndexByteString : FOk Tryz.prog I_internal_bytealg_LastIndexByteString := r_internal_bytealg_LastIndexByteString.1
def go_strings_LastIndexByte : Nat → (List UInt8) → Int → Option Int
 | 0, _, _ => none
 | n + 1, a0, a1 =>
   (go_internal_bytealg_LastIndexByteString n a0 a1).bind fun y0 =>
   some y0
def k_strings_LastIndexByte : LSh := ⟨[(4, (.d (.int .i64)))], [], 0, 8⟩
noncomputable def I_strings_LastIndexByte : FI dat := FI.of dat 23 8 0 [(.d .str), (.d (.int .u8))] [] [(.d (.int .i64))] [] true k_strings_LastIndexByte (R := Int) (fun x => x.1) (fun r => (r, ())) (fun n x => go_strings_LastIndexByte n x.1 x.2.1)
 (fun n => []) (ann [] (Tryz.f23.body.getD .skip) 0).1
noncomputable def t_strings_LastIndexByte : List (FI dat) := [I_internal_bytealg_LastIndexByteString]
theorem g_strings_LastIndexByte : (I_strings_LastIndexByte).Good Tryz.prog dat (tb t_strings_LastIndexByte) := FI.of_good (hD := dat_ok _) Tryz.func23 Tryz.ntmps23 Tryz.call23 (by kernel_rfl) (of_decide_eq_true (by kernel_rfl)) (by kernel_rfl) (fun n => by kernel_rfl) (fun x => by kernel_rfl) (fun _ => rfl) trivial
 (fun n => fun x => (go_strings_LastIndexByte.eq_2 x.1 x.2.1 n).trans (by kernel_rfl))
 (fun n => trivial)
 (fun x => .inl rfl)
theorem r_strings_LastIndexByte : OkL Tryz.prog [I_strings_LastIndexByte] := one_ok (dat_ok _) (bs := [I_internal_bytealg_LastIndexByteString]) ⟨ok_internal_bytealg_LastIndexByteString, trivial⟩ g_strings_LastIndexByte
theorem ok_strings_LastIndexByte : FOk Tryz.prog I_strings_LastIndexByte := r_strings_LastIndexByte.1
def go_internal_stringslite_HasPrefix : Nat → (List UInt8) → (List UInt8) → Option Bool
 | 0, _, _ => none
 | n + 1, a0, a1 =>
   pIf (decide ((a0.length : Int) ≥ (a1.length : Int)))
     ((sub a0 0 (a1.length : Int)).bind fun x0 =>
     some (x0 == a1))
     (some false)
def k_internal_stringslite_HasPrefix : LSh := ⟨[(4, (.d .bool))], [], 0, 18⟩
noncomputable def I_internal_stringslite_HasPrefix : FI dat := FI.of dat 97 18 0 [(.d .str), (.d .str)] [] [(.d .bool)] [] true k_internal_stringslite_HasPrefix (R := Bool) (fun x => x.1) (fun r => (r, ())) (fun n x => go_internal_stringslite_HasPrefix n x.1 x.2.1)
 (fun n => []) (ann [] (Tryz.f97.body.getD .skip) 0).1
noncomputable def t_internal_stringslite_HasPrefix : List (FI dat) := []
theorem g_internal_stringslite_HasPrefix : (I_internal_stringslite_HasPrefix).Good Tryz.prog dat (tb t_internal_stringslite_HasPrefix) := FI.of_good (hD := dat_ok _) Tryz.func97 Tryz.ntmps97 Tryz.call97 (by kernel_rfl) (of_decide_eq_true (by kernel_rfl)) (by kernel_rfl) (fun n => by kernel_rfl) (fun x => by kernel_rfl) (fun _ => rfl) trivial
 (fun n => fun x => (go_internal_stringslite_HasPrefix.eq_2 x.1 x.2.1 n).trans (by kernel_rfl))
 (fun n => trivial)
 (fun x => .inl rfl)
theorem r_internal_stringslite_HasPrefix : OkL Tryz.prog [I_internal_stringslite_HasPrefix] := one_ok (dat_ok _) (bs := []) trivial g_internal_stringslite_HasPrefix
theorem ok_internal_stringslite_HasPrefix : FOk Tryz.prog I_internal_stringslite_HasPrefix := r_internal_stringslite_HasPrefix.1
end Go.Proofs.YtagebdhlgnlcnaaGreatDoor


namespace Go.Proofs.YtagebdhlgnlcnaaGreatDoor
open Go Go.Ab
set_option linter.unusedVariables false
set_option maxRecDepth 100000
def go_strings_HasPrefix : Nat → (List UInt8) → (List UInt8) → Option Bool
 | 0, _, _ => none
 | n + 1, a0, a1 =>
   (go_internal_stringslite_HasPrefix n a0 a1).bind fun y0 =>
   some y0
def k_strings_HasPrefix : LSh := ⟨[(4, (.d .bool))], [], 0, 8⟩
noncomputable def I_strings_HasPrefix : FI dat := FI.of dat 81 8 0 [(.d .str), (.d .str)] [] [(.d .bool)] [] true k_strings_HasPrefix (R := Bool) (fun x => x.1) (fun r => (r, ())) (fun n x => go_strings_HasPrefix n x.1 x.2.1)
 (fun n => []) (ann [] (Tryz.f81.body.getD .skip) 0).1
noncomputable def t_strings_HasPrefix : List (FI dat) := [I_internal_stringslite_HasPrefix]
theorem g_strings_HasPrefix : (I_strings_HasPrefix).Good Tryz.prog dat (tb t_strings_HasPrefix) := FI.of_good (hD := dat_ok _) Tryz.func81 Tryz.ntmps81 Tryz.call81 (by kernel_rfl) (of_decide_eq_true (by kernel_rfl)) (by kernel_rfl) (fun n => by kernel_rfl) (fun x => by kernel_rfl) (fun _ => rfl) trivial
 (fun n => fun x => (go_strings_HasPrefix.eq_2 x.1 x.2.1 n).trans (by kernel_rfl))
 (fun n => trivial)
 (fun x => .inl rfl)
theorem r_strings_HasPrefix : OkL Tryz.prog [I_strings_HasPrefix] := one_ok (dat_ok _) (bs := [I_internal_stringslite_HasPrefix]) ⟨ok_internal_stringslite_HasPrefix, trivial⟩ g_strings_HasPrefix
theorem ok_strings_HasPrefix : FOk Tryz.prog I_strings_HasPrefix := r_strings_HasPrefix.1
def go_value_reader_skip : Nat → (List UInt8) → GReader → Option (Bool × GReader)
 | 0, _, _ => none
 | n + 1, a0, a1 =>
   (sub a1.s a1.at_ (a1.s.length : Int)).bind fun x0 =>
   (go_strings_HasPrefix n x0 a0).bind fun y1 =>
   pIf (!y1)
     (some (false, a1))
     (some (true, (GReader.mk a1.s (IntKind.i64.wrap (a1.at_ + (a0.length : Int))) a1.ok)))
def k_value_reader_skip : LSh := ⟨[(4, (.d .bool))], [(.st 3)], 1, 26⟩
noncomputable def I_value_reader_skip : FI dat := FI.of dat 58 26 1 [(.ptr 0 0), (.d .str)] [(.st 3)] [(.d .bool)] [(.st 3)] false k_value_reader_skip (R := Bool × GReader) (fun x => (x.1, x.2.1)) (fun r => (r.1, r.2, ())) (fun n x => go_value_reader_skip n x.1 x.2.1)
 (fun n => []) (ann [] (Tryz.f58.body.getD .skip) 0).1
noncomputable def t_value_reader_skip : List (FI dat) := [I_strings_HasPrefix]
theorem g_value_reader_skip : (I_value_reader_skip).Good Tryz.prog dat (tb t_value_reader_skip) := FI.of_good (hD := dat_ok _) Tryz.func58 Tryz.ntmps58 Tryz.call58 (by kernel_rfl) (of_decide_eq_true (by kernel_rfl)) (by kernel_rfl) (fun n => by kernel_rfl) (fun x => by kernel_rfl) (fun _ => rfl) trivial
 (fun n => fun x => (go_value_reader_skip.eq_2 x.1 x.2.1 n).trans (by kernel_rfl))
 (fun n => trivial)
 (fun x => .inr (by kernel_rfl))
theorem r_value_reader_skip : OkL Tryz.prog [I_value_reader_skip] := one_ok (dat_ok _) (bs := [I_strings_HasPrefix]) ⟨ok_strings_HasPrefix, trivial⟩ g_value_reader_skip
theorem ok_value_reader_skip : FOk Tryz.prog I_value_reader_skip := r_value_reader_skip.1
mutual
def go_value_reader_quoted : Nat → GReader → Option ((List UInt8) × GReader)
 | 0, _ => none
 | n + 1, a0 =>
   go_value_reader_quoted_L0 n a0 []
def go_value_reader_quoted_L0 : Nat → GReader → (List Int) → Option ((List UInt8) × GReader)
 | 0, _, _ => none
 | n + 1, a0, a1 =>
   pIf (decide (a0.at_ < (a0.s.length : Int)))
     ((ix a0.s a0.at_).bind fun x0 =>
     pIf ((x0.toNat : Int) == 34)
       ((go_strings_Builder_String n a1).bind fun y1 =>
       some (y1, (GReader.mk a0.s (IntKind.i64.wrap (a0.at_ + 1)) a0.ok)))
       (pIf ((x0.toNat : Int) == 92)
         (pIf ((IntKind.i64.wrap (a0.at_ + 1)) == (a0.s.length : Int))
           (go_value_reader_quoted_L1 n true (GReader.mk a0.s (IntKind.i64.wrap (a0.at_ + 1)) a0.ok) a1)
           ((ix a0.s (IntKind.i64.wrap (a0.at_ + 1))).bind fun x2 =>
           pIf ((x2.toNat : Int) != 34)
             ((ix a0.s (IntKind.i64.wrap (a0.at_ + 1))).bind fun x3 =>
             go_value_reader_quoted_L1 n ((x3.toNat : Int) != 92) (GReader.mk a0.s (IntKind.i64.wrap (a0.at_ + 1)) a0.ok) a1)
             (go_value_reader_quoted_L1 n false (GReader.mk a0.s (IntKind.i64.wrap (a0.at_ + 1)) a0.ok) a1)))
         (go_value_reader_quoted_L2 n (x0.toNat : Int) (GReader.mk a0.s (IntKind.i64.wrap (a0.at_ + 1)) a0.ok) a1)))
     (go_value_reader_quoted_L3 n a0)
def go_value_reader_quoted_L1 : Nat → Bool → GReader → (List Int) → Option ((List UInt8) × GReader)
 | 0, _, _, _ => none
 | n + 1, a0, a1, a2 =>
   pIf a0
     (go_value_reader_quoted_L3 n a1)
     ((ix a1.s a1.at_).bind fun x4 =>
     go_value_reader_quoted_L2 n (x4.toNat : Int) (GReader.mk a1.s (IntKind.i64.wrap (a1.at_ + 1)) a1.ok) a2)
def go_value_reader_quoted_L2 : Nat → Int → GReader → (List Int) → Option ((List UInt8) × GReader)
 | 0, _, _, _ => none
 | n + 1, a0, a1, a2 =>
   (go_strings_Builder_WriteByte n a0 a2).bind fun y5 =>
   go_value_reader_quoted_L0 n a1 y5
def go_value_reader_quoted_L3 : Nat → GReader → Option ((List UInt8) × GReader)
 | 0, _ => none
 | n + 1, a0 =>
   some ([], (GReader.mk a0.s a0.at_ false))
end
def k_value_reader_quoted : LSh := ⟨[(2, (.d .str))], [(.st 3)], 1, 91⟩
noncomputable def I_value_reader_quoted : FI dat := FI.of dat 59 91 1 [(.ptr 0 0)] [(.st 3)] [(.d .str)] [(.st 3)] false k_value_reader_quoted (R := (List UInt8) × GReader) (fun x => (x.1, x.2.1)) (fun r => (r.1, r.2, ())) (fun n x => go_value_reader_quoted n x.1)
 (fun n => [(0, ⟨⟨[(3, (.bp 1)), (0, (.ptr 0 0))], [(.st 3), (.bld 41 2), (.acc 5 (.int .u8) true)], 1, 91⟩, fun x => go_value_reader_quoted_L0 n x.1 x.2.1⟩), (1, ⟨⟨[(0, (.ptr 0 0)), (3, (.bp 1)), (69, (.d .bool))], [(.st 3), (.bld 41 2), (.acc 5 (.int .u8) true)], 1, 91⟩, fun x => go_value_reader_quoted_L1 n x.1 x.2.1 x.2.2.1⟩), (2, ⟨⟨[(3, (.bp 1)), (0, (.ptr 0 0)), (4, (.d (.int .u8)))], [(.st 3), (.bld 41 2), (.acc 5 (.int .u8) true)], 1, 91⟩, fun x => go_value_reader_quoted_L2 n x.1 x.2.1 x.2.2.1⟩), (3, ⟨⟨[(0, (.ptr 0 0))], [(.st 3)], 1, 91⟩, fun x => go_value_reader_quoted_L3 n x.1⟩)]) (ann [(6, 0), (33, 1), (40, 2), (41, 3)] (Tryz.f59.body.getD .skip) 0).1
noncomputable def t_value_reader_quoted : List (FI dat) := [I_strings_Builder_String, I_strings_Builder_WriteByte]
theorem g_value_reader_quoted : (I_value_reader_quoted).Good Tryz.prog dat (tb t_value_reader_quoted) := FI.of_good (hD := dat_ok _) Tryz.func59 Tryz.ntmps59 Tryz.call59 (by kernel_rfl) (of_decide_eq_true (by kernel_rfl)) (by kernel_rfl) (fun n => by kernel_rfl) (fun x => by kernel_rfl) (fun _ => rfl) ⟨fun _ => rfl, fun _ => rfl, fun _ => rfl, fun _ => rfl, trivial⟩
 (fun n => fun x => (go_value_reader_quoted.eq_2 x.1 n).trans (by kernel_rfl))
 (fun n => ⟨fun x => (go_value_reader_quoted_L0.eq_2 x.1 x.2.1 n).trans (by kernel_rfl),
  fun x => (go_value_reader_quoted_L1.eq_2 x.1 x.2.1 x.2.2.1 n).trans (by kernel_rfl),
  fun x => (go_value_reader_quoted_L2.eq_2 x.1 x.2.1 x.2.2.1 n).trans (by kernel_rfl),
  fun x => (go_value_reader_quoted_L3.eq_2 x.1 n).trans (by kernel_rfl),
  trivial⟩)
 (fun x => .inr (by kernel_rfl))
theorem r_value_reader_quoted : OkL Tryz.prog [I_value_reader_quoted] := one_ok (dat_ok _) (bs := [I_strings_Builder_String, I_strings_Builder_WriteByte]) ⟨ok_strings_Builder_String, ok_strings_Builder_WriteByte, trivial⟩ g_value_reader_quoted
theorem ok_value_reader_quoted : FOk Tryz.prog I_value_reader_quoted := r_value_reader_quoted.1
def go_strings_IndexByte : Nat → (List UInt8) → Int → Option Int
 | 0, _, _ => none
 | n + 1, a0, a1 =>
   (go_internal_stringslite_IndexByte n a0 a1).bind fun y0 =>
   some y0
def k_strings_IndexByte : LSh := ⟨[(4, (.d (.int .i64)))], [], 0, 8⟩
noncomputable def I_strings_IndexByte : FI dat := FI.of dat 60 8 0 [(.d .str), (.d (.int .u8))] [] [(.d (.int .i64))] [] true k_strings_IndexByte (R := Int) (fun x => x.1) (fun r => (r, ())) (fun n x => go_strings_IndexByte n x.1 x.2.1)
 (fun n => []) (ann [] (Tryz.f60.body.getD .skip) 0).1
noncomputable def t_strings_IndexByte : List (FI dat) := [I_internal_stringslite_IndexByte]
theorem g_strings_IndexByte : (I_strings_IndexByte).Good Tryz.prog dat (tb t_strings_IndexByte) := FI.of_good (hD := dat_ok _) Tryz.func60 Tryz.ntmps60 Tryz.call60 (by kernel_rfl) (of_decide_eq_true (by kernel_rfl)) (by kernel_rfl) (fun n => by kernel_rfl) (fun x => by kernel_rfl) (fun _ => rfl) trivial
 (fun n => fun x => (go_strings_IndexByte.eq_2 x.1 x.2.1 n).trans (by kernel_rfl))
 (fun n => trivial)
 (fun x => .inl rfl)
theorem r_strings_IndexByte : OkL Tryz.prog [I_strings_IndexByte] := one_ok (dat_ok _) (bs := [I_internal_stringslite_IndexByte]) ⟨ok_internal_stringslite_IndexByte, trivial⟩ g_strings_IndexByte
theorem ok_strings_IndexByte : FOk Tryz.prog I_strings_IndexByte := r_strings_IndexByte.1
def go_internal_stringslite_CutPrefix : Nat → (List UInt8) → (List UInt8) → Option ((List UInt8) × Bool)
 | 0, _, _ => none
 | n + 1, a0, a1 =>
   (go_internal_stringslite_HasPrefix n a0 a1).bind fun y0 =>
   pIf (!y0)
     (some (a0, false))
     ((sub a0 (a1.length : Int) (a0.length : Int)).bind fun x1 =>
     some (x1, true))
def k_internal_stringslite_CutPrefix : LSh := ⟨[(4, (.d .str)), (5, (.d .bool))], [], 0, 15⟩
noncomputable def I_internal_stringslite_CutPrefix : FI dat := FI.of dat 98 15 0 [(.d .str), (.d .str)] [] [(.d .str), (.d .bool)] [] true k_internal_stringslite_CutPrefix (R := (List UInt8) × Bool) (fun x => (x.1, x.2.1)) (fun r => (r.1, r.2, ())) (fun n x => go_internal_stringslite_CutPrefix n x.1 x.2.1)
 (fun n => []) (ann [] (Tryz.f98.body.getD .skip) 0).1
noncomputable def t_internal_stringslite_CutPrefix : List (FI dat) := [I_internal_stringslite_HasPrefix]
theorem g_internal_stringslite_CutPrefix : (I_internal_stringslite_CutPrefix).Good Tryz.prog dat (tb t_internal_stringslite_CutPrefix) := FI.of_good (hD := dat_ok _) Tryz.func98 Tryz.ntmps98 Tryz.call98 (by kernel_rfl) (of_decide_eq_true (by kernel_rfl)) (by kernel_rfl) (fun n => by kernel_rfl) (fun x => by kernel_rfl) (fun _ => rfl) trivial
 (fun n => fun x => (go_internal_stringslite_CutPrefix.eq_2 x.1 x.2.1 n).trans (by kernel_rfl))
 (fun n => trivial)
 (fun x => .inl rfl)
theorem r_internal_stringslite_CutPrefix : OkL Tryz.prog [I_internal_stringslite_CutPrefix] := one_ok (dat_ok _) (bs := [I_internal_stringslite_HasPrefix]) ⟨ok_internal_stringslite_HasPrefix, trivial⟩ g_internal_stringslite_CutPrefix
theorem ok_internal_stringslite_CutPrefix : FOk Tryz.prog I_internal_stringslite_CutPrefix := r_internal_stringslite_CutPrefix.1
def go_strings_CutPrefix : Nat → (List UInt8) → (List UInt8) → Option ((List UInt8) × Bool)
 | 0, _, _ => none
 | n + 1, a0, a1 =>
   (go_internal_stringslite_CutPrefix n a0 a1).bind fun y0 =>
   some (y0.1, y0.2)
def k_strings_CutPrefix : LSh := ⟨[(4, (.d .str)), (5, (.d .bool))], [], 0, 11⟩
noncomputable def I_strings_CutPrefix : FI dat := FI.of dat 82 11 0 [(.d .str), (.d .str)] [] [(.d .str), (.d .bool)] [] true k_strings_CutPrefix (R := (List UInt8) × Bool) (fun x => (x.1, x.2.1)) (fun r => (r.1, r.2, ())) (fun n x => go_strings_CutPrefix n x.1 x.2.1)
 (fun n => []) (ann [] (Tryz.f82.body.getD .skip) 0).1
noncomputable def t_strings_CutPrefix : List (FI dat) := [I_internal_stringslite_CutPrefix]
theorem g_strings_CutPrefix : (I_strings_CutPrefix).Good Tryz.prog dat (tb t_strings_CutPrefix) := FI.of_good (hD := dat_ok _) Tryz.func82 Tryz.ntmps82 Tryz.call82 (by kernel_rfl) (of_decide_eq_true (by kernel_rfl)) (by kernel_rfl) (fun n => by kernel_rfl) (fun x => by kernel_rfl) (fun _ => rfl) trivial
 (fun n => fun x => (go_strings_CutPrefix.eq_2 x.1 x.2.1 n).trans (by kernel_rfl))
 (fun n => trivial)
 (fun x => .inl rfl)
theorem r_strings_CutPrefix : OkL Tryz.prog [I_strings_CutPrefix] := one_ok (dat_ok _) (bs := [I_internal_stringslite_CutPrefix]) ⟨ok_internal_stringslite_CutPrefix, trivial⟩ g_strings_CutPrefix
theorem ok_strings_CutPrefix : FOk Tryz.prog I_strings_CutPrefix := r_strings_CutPrefix.1
mutual
def go_ratio_digits : Nat → (List UInt8) → Option (Int × Bool)
 | 0, _ => none
 | n + 1, a0 =>
   pIf ((a0.length : Int) == 0)
     (go_ratio_digits_L0 n a0 true)
     (pIf (decide ((a0.length : Int) > 10))
       (go_ratio_digits_L0 n a0 true)
       ((ix a0 0).bind fun x0 =>
       pIf ((x0.toNat : Int) == 48)
         (go_ratio_digits_L0 n a0 (decide ((a0.length : Int) > 1)))
         (go_ratio_digits_L0 n a0 false)))
def go_ratio_digits_L0 : Nat → (List UInt8) → Bool → Option (Int × Bool)
 | 0, _, _ => none
 | n + 1, a0, a1 =>
   pIf a1
     (some (0, false))
     (go_ratio_digits_L1 n 0 a0 0)
def go_ratio_digits_L1 : Nat → Int → (List UInt8) → Nat → Option (Int × Bool)
 | 0, _, _, _ => none
 | n + 1, a0, a1, a2 =>
   pIf (decide (a2 < a1.length))
     (pIf (decide (((decL a1 a2).1 : Int) < 48))
       (go_ratio_digits_L2 n ((decL a1 a2).1 : Int) a0 true a1 (a2 + (decL a1 a2).2))
       (go_ratio_digits_L2 n ((decL a1 a2).1 : Int) a0 (decide (((decL a1 a2).1 : Int) > 57)) a1 (a2 + (decL a1 a2).2)))
     (some (a0, true))
def go_ratio_digits_L2 : Nat → Int → Int → Bool → (List UInt8) → Nat → Option (Int × Bool)
 | 0, _, _, _, _, _ => none
 | n + 1, a0, a1, a2, a3, a4 =>
   pIf a2
     (some (0, false))
     (go_ratio_digits_L1 n (IntKind.i64.wrap ((IntKind.i64.wrap (10 * a1)) + (IntKind.i64.wrap (IntKind.i32.wrap (a0 - 48))))) a3 a4)
end
def k_ratio_digits : LSh := ⟨[(2, (.d (.int .i64))), (3, (.d .bool))], [], 0, 43⟩
noncomputable def I_ratio_digits : FI dat := FI.of dat 83 43 0 [(.d .str)] [] [(.d (.int .i64)), (.d .bool)] [] true k_ratio_digits (R := Int × Bool) (fun x => (x.1, x.2.1)) (fun r => (r.1, r.2, ())) (fun n x => go_ratio_digits n x.1)
 (fun n => [(0, ⟨⟨[(0, (.d .str)), (24, (.d .bool))], [], 0, 43⟩, fun x => go_ratio_digits_L0 n x.1 x.2.1⟩), (1, ⟨⟨[(4, (.d (.int .i64))), (26, (.ptr 0 0))], [.siter], 0, 43⟩, fun x => go_ratio_digits_L1 n x.1 x.2.1 x.2.2.1⟩), (2, ⟨⟨[(26, (.ptr 0 0)), (6, (.d (.int .i32))), (4, (.d (.int .i64))), (35, (.d .bool))], [.siter], 0, 43⟩, fun x => go_ratio_digits_L2 n x.1 x.2.1 x.2.2.1 x.2.2.2.1 x.2.2.2.2.1⟩)]) (ann [(5, 0), (16, 1), (29, 2)] (Tryz.f83.body.getD .skip) 0).1
noncomputable def t_ratio_digits : List (FI dat) := []
theorem g_ratio_digits : (I_ratio_digits).Good Tryz.prog dat (tb t_ratio_digits) := FI.of_good (hD := dat_ok _) Tryz.func83 Tryz.ntmps83 Tryz.call83 (by kernel_rfl) (of_decide_eq_true (by kernel_rfl)) (by kernel_rfl) (fun n => by kernel_rfl) (fun x => by kernel_rfl) (fun _ => rfl) ⟨fun _ => rfl, fun _ => rfl, fun _ => rfl, trivial⟩
 (fun n => fun x => (go_ratio_digits.eq_2 x.1 n).trans (by kernel_rfl))
 (fun n => ⟨fun x => (go_ratio_digits_L0.eq_2 x.1 x.2.1 n).trans (by kernel_rfl),
  fun x => (go_ratio_digits_L1.eq_2 x.1 x.2.1 x.2.2.1 n).trans (by kernel_rfl),
  fun x => (go_ratio_digits_L2.eq_2 x.1 x.2.1 x.2.2.1 x.2.2.2.1 x.2.2.2.2.1 n).trans (by kernel_rfl),
  trivial⟩)
 (fun x => .inl rfl)
theorem r_ratio_digits : OkL Tryz.prog [I_ratio_digits] := one_ok (dat_ok _) (bs := []) trivial g_ratio_digits
theorem ok_ratio_digits : FOk Tryz.prog I_ratio_digits := r_ratio_digits.1
mutual
def go_ratio_Parse : Nat → (List UInt8) → Option (Int × GRatio)
 | 0, _ => none
 | n + 1, a0 =>
   (go_strings_CutPrefix n a0 [45]).bind fun y0 =>
   (go_strings_Cut n y0.1 [47]).bind fun y1 =>
   pIf (!y1.2.2)
     (go_ratio_Parse_L0 n a0 y0.2 [49] y1.1 (GRatio.mk 0 0))
     (go_ratio_Parse_L0 n a0 y0.2 y1.2.1 y1.1 (GRatio.mk 0 0))
def go_ratio_Parse_L0 : Nat → (List UInt8) → Bool → (List UInt8) → (List UInt8) → GRatio → Option (Int × GRatio)
 | 0, _, _, _, _, _ => none
 | n + 1, a0, a1, a2, a3, a4 =>
   (go_ratio_digits n a3).bind fun y2 =>
   (go_ratio_digits n a2).bind fun y3 =>
   pIf a1
     (go_ratio_Parse_L1 n a0 y3.2 y2.2 y3.1 (IntKind.i64.wrap (0 - y2.1)) a4)
     (go_ratio_Parse_L1 n a0 y3.2 y2.2 y3.1 y2.1 a4)
def go_ratio_Parse_L1 : Nat → (List UInt8) → Bool → Bool → Int → Int → GRatio → Option (Int × GRatio)
 | 0, _, _, _, _, _, _ => none
 | n + 1, a0, a1, a2, a3, a4, a5 =>
   pIf (!a2)
     (go_ratio_Parse_L2 n a0 true a5 (GRatio.mk a4 a3))
     (pIf (!a1)
       (go_ratio_Parse_L2 n a0 true a5 (GRatio.mk a4 a3))
       ((go_ratio_Check n (GRatio.mk a4 a3)).bind fun y4 =>
       go_ratio_Parse_L2 n a0 (y4 != 0) a5 (GRatio.mk a4 a3)))
def go_ratio_Parse_L2 : Nat → (List UInt8) → Bool → GRatio → GRatio → Option (Int × GRatio)
 | 0, _, _, _, _ => none
 | n + 1, a0, a1, a2, a3 =>
   pIf a1
     (some (12, (GRatio.mk 0 0)))
     ((go_ratio_Text n a3).bind fun y5 =>
     pIf (!(y5.1 == a0))
       (some (12, (GRatio.mk 0 0)))
       (some (0, a3)))
end
def k_ratio_Parse : LSh := ⟨[(2, (.ptr 0 0)), (3, (.d (.int .i64)))], [(.st 1)], 0, 67⟩
noncomputable def I_ratio_Parse : FI dat := FI.of dat 61 67 0 [(.d .str)] [] [(.d (.st 1)), (.d (.int .i64))] [] true k_ratio_Parse (R := Int × GRatio) (fun x => (x.1, x.2.1)) (fun r => (r.2, r.1, ())) (fun n x => go_ratio_Parse n x.1)
 (fun n => [(0, ⟨⟨[(2, (.ptr 0 0)), (0, (.d .str)), (5, (.d .bool)), (7, (.d .str)), (6, (.d .str))], [(.st 1)], 0, 67⟩, fun x => go_ratio_Parse_L0 n x.1 x.2.1 x.2.2.1 x.2.2.2.1 x.2.2.2.2.1⟩), (1, ⟨⟨[(2, (.ptr 0 0)), (0, (.d .str)), (12, (.d .bool)), (10, (.d .bool)), (11, (.d (.int .i64))), (9, (.d (.int .i64)))], [(.st 1)], 0, 67⟩, fun x => go_ratio_Parse_L1 n x.1 x.2.1 x.2.2.1 x.2.2.2.1 x.2.2.2.2.1 x.2.2.2.2.2.1⟩), (2, ⟨⟨[(2, (.ptr 0 0)), (13, (.ptr 1 0)), (0, (.d .str)), (55, (.d .bool))], [(.st 1), (.st 1)], 0, 67⟩, fun x => go_ratio_Parse_L2 n x.1 x.2.1 x.2.2.1 x.2.2.2.1⟩)]) (ann [(12, 0), (22, 1), (27, 2)] (Tryz.f61.body.getD .skip) 0).1
noncomputable def t_ratio_Parse : List (FI dat) := [I_strings_CutPrefix, I_strings_Cut, I_ratio_digits, I_ratio_Check, I_ratio_Text]
theorem g_ratio_Parse : (I_ratio_Parse).Good Tryz.prog dat (tb t_ratio_Parse) := FI.of_good (hD := dat_ok _) Tryz.func61 Tryz.ntmps61 Tryz.call61 (by kernel_rfl) (of_decide_eq_true (by kernel_rfl)) (by kernel_rfl) (fun n => by kernel_rfl) (fun x => by kernel_rfl) (fun _ => rfl) ⟨fun _ => rfl, fun _ => rfl, fun _ => rfl, trivial⟩
 (fun n => fun x => (go_ratio_Parse.eq_2 x.1 n).trans (by kernel_rfl))
 (fun n => ⟨fun x => (go_ratio_Parse_L0.eq_2 x.1 x.2.1 x.2.2.1 x.2.2.2.1 x.2.2.2.2.1 n).trans (by kernel_rfl),
  fun x => (go_ratio_Parse_L1.eq_2 x.1 x.2.1 x.2.2.1 x.2.2.2.1 x.2.2.2.2.1 x.2.2.2.2.2.1 n).trans (by kernel_rfl),
  fun x => (go_ratio_Parse_L2.eq_2 x.1 x.2.1 x.2.2.1 x.2.2.2.1 n).trans (by kernel_rfl),
  trivial⟩)
 (fun x => .inl rfl)
theorem r_ratio_Parse : OkL Tryz.prog [I_ratio_Parse] := one_ok (dat_ok _) (bs := [I_strings_CutPrefix, I_strings_Cut, I_ratio_digits, I_ratio_Check, I_ratio_Text]) ⟨ok_strings_CutPrefix, ok_strings_Cut, ok_ratio_digits, ok_ratio_Check, ok_ratio_Text, trivial⟩ g_ratio_Parse
theorem ok_ratio_Parse : FOk Tryz.prog I_ratio_Parse := r_ratio_Parse.1
mutual
def go_value_reader_value : Nat → Int → GReader → Option (GReader × GValue)
 | 0, _, _ => none
 | n + 1, a0, a1 =>
   pIf (a0 == 0)
     (go_value_reader_value_L3 n (GReader.mk a1.s a1.at_ false) 0 0 0 false [] [])
     ((go_value_reader_skip n [116, 114, 117, 101] a1).bind fun y0 =>
     pIf y0.1
       (some (y0.2, (GValue.mk 2 (GRatio.mk 0 0) true [] [])))
       ((go_value_reader_skip n [102, 97, 108, 115, 101] y0.2).bind fun y1 =>
       pIf y1.1
         (some (y1.2, (GValue.mk 2 (GRatio.mk 0 0) false [] [])))
         ((go_value_reader_skip n [34] y1.2).bind fun y2 =>
         pIf y2.1
           ((go_value_reader_quoted n y2.2).bind fun y3 =>
           some (y3.2, (GValue.mk 3 (GRatio.mk 0 0) false y3.1 [])))
           ((go_value_reader_skip n [91, 93] y2.2).bind fun y4 =>
           pIf y4.1
             (some (y4.2, (GValue.mk 4 (GRatio.mk 0 0) false [] [])))
             ((go_value_reader_skip n [91] y4.2).bind fun y5 =>
             pIf y5.1
               (go_value_reader_value_L0 n a0 true y5.2 4 0 0 false [] 0 0 0 false [] [] [])
               (go_value_reader_value_L3 n y5.2 0 0 0 false [] []))))))
def go_value_reader_value_L0 : Nat → Int → Bool → GReader → Int → Int → Int → Bool → (List UInt8) → Int → Int → Int → Bool → (List UInt8) → (List GValue) → (List GValue) → Option (GReader × GValue)
 | 0, _, _, _, _, _, _, _, _, _, _, _, _, _, _, _ => none
 | n + 1, a0, a1, a2, a3, a4, a5, a6, a7, a8, a9, a10, a11, a12, a13, a14 =>
   pIf a1
     (go_value_reader_value_L1 n a0 a2.ok a2 a3 a4 a5 a6 a7 a8 a9 a10 a11 a12 a13 a14)
     (go_value_reader_value_L1 n a0 false a2 a3 a4 a5 a6 a7 a8 a9 a10 a11 a12 a13 a14)
def go_value_reader_value_L1 : Nat → Int → Bool → GReader → Int → Int → Int → Bool → (List UInt8) → Int → Int → Int → Bool → (List UInt8) → (List GValue) → (List GValue) → Option (GReader × GValue)
 | 0, _, _, _, _, _, _, _, _, _, _, _, _, _, _, _ => none
 | n + 1, a0, a1, a2, a3, a4, a5, a6, a7, a8, a9, a10, a11, a12, a13, a14 =>
   pIf a1
     ((go_value_reader_value n (IntKind.i64.wrap (a0 - 1)) a2).bind fun y8 =>
     (ext a13 [y8.2.re]).bind fun x9 =>
     (go_value_reader_skip n [44, 32] y8.1).bind fun y10 =>
     go_value_reader_value_L0 n a0 y10.1 y10.2 a3 a4 a5 a6 a7 a8 a9 a10 a11 a12 x9 a14)
     ((go_value_reader_skip n [93] a2).bind fun y11 =>
     pIf y11.1
       (go_value_reader_value_L2 n y11.2 a8 a9 a10 a11 a12 a3 a4 a5 a6 a7 a14 a13)
       (go_value_reader_value_L2 n (GReader.mk y11.2.s y11.2.at_ false) a8 a9 a10 a11 a12 a3 a4 a5 a6 a7 a14 a13))
def go_value_reader_value_L2 : Nat → GReader → Int → Int → Int → Bool → (List UInt8) → Int → Int → Int → Bool → (List UInt8) → (List GValue) → (List GValue) → Option (GReader × GValue)
 | 0, _, _, _, _, _, _, _, _, _, _, _, _, _ => none
 | n + 1, a0, a1, a2, a3, a4, a5, a6, a7, a8, a9, a10, a11, a12 =>
   some (a0, (GValue.mk a6 (GRatio.mk a7 a8) a9 a10 a12))
def go_value_reader_value_L3 : Nat → GReader → Int → Int → Int → Bool → (List UInt8) → (List GValue) → Option (GReader × GValue)
 | 0, _, _, _, _, _, _, _ => none
 | n + 1, a0, a1, a2, a3, a4, a5, a6 =>
   go_value_reader_value_L4 n a0.at_ a0 a1 a2 a3 a4 a5 a6
def go_value_reader_value_L4 : Nat → Int → GReader → Int → Int → Int → Bool → (List UInt8) → (List GValue) → Option (GReader × GValue)
 | 0, _, _, _, _, _, _, _, _ => none
 | n + 1, a0, a1, a2, a3, a4, a5, a6, a7 =>
   pIf (decide (a0 < (a1.s.length : Int)))
     ((ix a1.s a0).bind fun x6 =>
     (go_strings_IndexByte n [48, 49, 50, 51, 52, 53, 54, 55, 56, 57, 47, 45] (x6.toNat : Int)).bind fun y7 =>
     go_value_reader_value_L5 n a0 (decide (y7 ≥ 0)) a1 a2 a3 a4 a5 a6 a7)
     (go_value_reader_value_L5 n a0 false a1 a2 a3 a4 a5 a6 a7)
def go_value_reader_value_L5 : Nat → Int → Bool → GReader → Int → Int → Int → Bool → (List UInt8) → (List GValue) → Option (GReader × GValue)
 | 0, _, _, _, _, _, _, _, _, _ => none
 | n + 1, a0, a1, a2, a3, a4, a5, a6, a7, a8 =>
   pIf a1
     (go_value_reader_value_L4 n (IntKind.i64.wrap (a0 + 1)) a2 a3 a4 a5 a6 a7 a8)
     ((sub a2.s a2.at_ a0).bind fun x12 =>
     (go_ratio_Parse n x12).bind fun y13 =>
     pIf a2.ok
       (go_value_reader_value_L6 n a0 (GReader.mk a2.s a2.at_ (y13.1 == 0)) a3 a4 a5 a6 a7 y13.2 a8)
       (go_value_reader_value_L6 n a0 (GReader.mk a2.s a2.at_ false) a3 a4 a5 a6 a7 y13.2 a8))
def go_value_reader_value_L6 : Nat → Int → GReader → Int → Int → Int → Bool → (List UInt8) → GRatio → (List GValue) → Option (GReader × GValue)
 | 0, _, _, _, _, _, _, _, _, _ => none
 | n + 1, a0, a1, a2, a3, a4, a5, a6, a7, a8 =>
   some ((GReader.mk a1.s a0 a1.ok), (GValue.mk 1 a7 false [] []))
end
def k_value_reader_value : LSh := ⟨[(4, (.ptr 1 0))], [(.st 3), (.st 2)], 1, 122⟩
noncomputable def I_value_reader_value : FI dat := FI.of dat 39 122 1 [(.ptr 0 0), (.d (.int .i64))] [(.st 3)] [(.d (.st 2))] [(.st 3), (.st 2)] false k_value_reader_value (R := GReader × GValue) (fun x => (x.1, x.2.1)) (fun r => (r.2, r.1, r.2, ())) (fun n x => go_value_reader_value n x.1 x.2.1)
 (fun n => [(0, ⟨⟨[(0, (.ptr 0 0)), (5, (.ptr 1 0)), (1, (.d (.int .i64))), (4, (.ptr 2 0)), (6, (.d .bool))], [(.st 3), (.cells [(.d (.int .u8)), (.d (.int .i64)), (.d (.int .i64)), (.d .bool), (.d .str), (.own 3)]), (.cells [(.d (.int .u8)), (.d (.int .i64)), (.d (.int .i64)), (.d .bool), (.d .str), (.own 4)]), (.acc 47 (.st 2) true), (.acc 47 (.st 2) true)], 1, 122⟩, fun x => go_value_reader_value_L0 n x.1 x.2.1 x.2.2.1 x.2.2.2.1 x.2.2.2.2.1 x.2.2.2.2.2.1 x.2.2.2.2.2.2.1 x.2.2.2.2.2.2.2.1 x.2.2.2.2.2.2.2.2.1 x.2.2.2.2.2.2.2.2.2.1 x.2.2.2.2.2.2.2.2.2.2.1 x.2.2.2.2.2.2.2.2.2.2.2.1 x.2.2.2.2.2.2.2.2.2.2.2.2.1 x.2.2.2.2.2.2.2.2.2.2.2.2.2.1 x.2.2.2.2.2.2.2.2.2.2.2.2.2.2.1⟩), (1, ⟨⟨[(0, (.ptr 0 0)), (5, (.ptr 1 0)), (1, (.d (.int .i64))), (4, (.ptr 2 0)), (44, (.d .bool))], [(.st 3), (.cells [(.d (.int .u8)), (.d (.int .i64)), (.d (.int .i64)), (.d .bool), (.d .str), (.own 3)]), (.cells [(.d (.int .u8)), (.d (.int .i64)), (.d (.int .i64)), (.d .bool), (.d .str), (.own 4)]), (.acc 47 (.st 2) true), (.acc 47 (.st 2) true)], 1, 122⟩, fun x => go_value_reader_value_L1 n x.1 x.2.1 x.2.2.1 x.2.2.2.1 x.2.2.2.2.1 x.2.2.2.2.2.1 x.2.2.2.2.2.2.1 x.2.2.2.2.2.2.2.1 x.2.2.2.2.2.2.2.2.1 x.2.2.2.2.2.2.2.2.2.1 x.2.2.2.2.2.2.2.2.2.2.1 x.2.2.2.2.2.2.2.2.2.2.2.1 x.2.2.2.2.2.2.2.2.2.2.2.2.1 x.2.2.2.2.2.2.2.2.2.2.2.2.2.1 x.2.2.2.2.2.2.2.2.2.2.2.2.2.2.1⟩), (2, ⟨⟨[(4, (.ptr 1 0)), (5, (.ptr 2 0))], [(.st 3), (.cells [(.d (.int .u8)), (.d (.int .i64)), (.d (.int .i64)), (.d .bool), (.d .str), (.own 3)]), (.cells [(.d (.int .u8)), (.d (.int .i64)), (.d (.int .i64)), (.d .bool), (.d .str), (.own 4)]), (.acc 47 (.st 2) true), (.acc 47 (.st 2) true)], 1, 122⟩, fun x => go_value_reader_value_L2 n x.1 x.2.1 x.2.2.1 x.2.2.2.1 x.2.2.2.2.1 x.2.2.2.2.2.1 x.2.2.2.2.2.2.1 x.2.2.2.2.2.2.2.1 x.2.2.2.2.2.2.2.2.1 x.2.2.2.2.2.2.2.2.2.1 x.2.2.2.2.2.2.2.2.2.2.1 x.2.2.2.2.2.2.2.2.2.2.2.1 x.2.2.2.2.2.2.2.2.2.2.2.2.1⟩), (3, ⟨⟨[(4, (.ptr 1 0)), (0, (.ptr 0 0))], [(.st 3), (.cells [(.d (.int .u8)), (.d (.int .i64)), (.d (.int .i64)), (.d .bool), (.d .str), (.own 2)]), (.acc 47 (.st 2) true)], 1, 122⟩, fun x => go_value_reader_value_L3 n x.1 x.2.1 x.2.2.1 x.2.2.2.1 x.2.2.2.2.1 x.2.2.2.2.2.1 x.2.2.2.2.2.2.1⟩), (4, ⟨⟨[(7, (.d (.int .i64))), (4, (.ptr 1 0)), (0, (.ptr 0 0))], [(.st 3), (.cells [(.d (.int .u8)), (.d (.int .i64)), (.d (.int .i64)), (.d .bool), (.d .str), (.own 2)]), (.acc 47 (.st 2) true)], 1, 122⟩, fun x => go_value_reader_value_L4 n x.1 x.2.1 x.2.2.1 x.2.2.2.1 x.2.2.2.2.1 x.2.2.2.2.2.1 x.2.2.2.2.2.2.1 x.2.2.2.2.2.2.2.1⟩), (5, ⟨⟨[(4, (.ptr 1 0)), (0, (.ptr 0 0)), (7, (.d (.int .i64))), (88, (.d .bool))], [(.st 3), (.cells [(.d (.int .u8)), (.d (.int .i64)), (.d (.int .i64)), (.d .bool), (.d .str), (.own 2)]), (.acc 47 (.st 2) true)], 1, 122⟩, fun x => go_value_reader_value_L5 n x.1 x.2.1 x.2.2.1 x.2.2.2.1 x.2.2.2.2.1 x.2.2.2.2.2.1 x.2.2.2.2.2.2.1 x.2.2.2.2.2.2.2.1 x.2.2.2.2.2.2.2.2.1⟩), (6, ⟨⟨[(4, (.ptr 1 0)), (8, (.ptr 2 0)), (7, (.d (.int .i64))), (0, (.ptr 0 0))], [(.st 3), (.cells [(.d (.int .u8)), (.d (.int .i64)), (.d (.int .i64)), (.d .bool), (.d .str), (.own 3)]), (.st 1), (.acc 47 (.st 2) true)], 1, 122⟩, fun x => go_value_reader_value_L6 n x.1 x.2.1 x.2.2.1 x.2.2.2.1 x.2.2.2.2.1 x.2.2.2.2.2.1 x.2.2.2.2.2.2.1 x.2.2.2.2.2.2.2.1 x.2.2.2.2.2.2.2.2.1⟩)]) (ann [(41, 0), (45, 1), (54, 2), (58, 3), (62, 4), (66, 5), (75, 6)] (Tryz.f39.body.getD .skip) 0).1
noncomputable def t_value_reader_value : List (FI dat) := [I_value_reader_value] ++ [I_value_reader_skip, I_value_reader_quoted, I_strings_IndexByte, I_ratio_Parse]
theorem g_value_reader_value : (I_value_reader_value).Good Tryz.prog dat (tb t_value_reader_value) := FI.of_good (hD := dat_ok _) Tryz.func39 Tryz.ntmps39 Tryz.call39 (by kernel_rfl) (of_decide_eq_true (by kernel_rfl)) (by kernel_rfl) (fun n => by kernel_rfl) (fun x => by kernel_rfl) (fun _ => rfl) ⟨fun _ => rfl, fun _ => rfl, fun _ => rfl, fun _ => rfl, fun _ => rfl, fun _ => rfl, fun _ => rfl, trivial⟩
 (fun n => fun x => (go_value_reader_value.eq_2 x.1 x.2.1 n).trans (by kernel_rfl))
 (fun n => ⟨fun x => (go_value_reader_value_L0.eq_2 x.1 x.2.1 x.2.2.1 x.2.2.2.1 x.2.2.2.2.1 x.2.2.2.2.2.1 x.2.2.2.2.2.2.1 x.2.2.2.2.2.2.2.1 x.2.2.2.2.2.2.2.2.1 x.2.2.2.2.2.2.2.2.2.1 x.2.2.2.2.2.2.2.2.2.2.1 x.2.2.2.2.2.2.2.2.2.2.2.1 x.2.2.2.2.2.2.2.2.2.2.2.2.1 x.2.2.2.2.2.2.2.2.2.2.2.2.2.1 x.2.2.2.2.2.2.2.2.2.2.2.2.2.2.1 n).trans (by kernel_rfl),
  fun x => (go_value_reader_value_L1.eq_2 x.1 x.2.1 x.2.2.1 x.2.2.2.1 x.2.2.2.2.1 x.2.2.2.2.2.1 x.2.2.2.2.2.2.1 x.2.2.2.2.2.2.2.1 x.2.2.2.2.2.2.2.2.1 x.2.2.2.2.2.2.2.2.2.1 x.2.2.2.2.2.2.2.2.2.2.1 x.2.2.2.2.2.2.2.2.2.2.2.1 x.2.2.2.2.2.2.2.2.2.2.2.2.1 x.2.2.2.2.2.2.2.2.2.2.2.2.2.1 x.2.2.2.2.2.2.2.2.2.2.2.2.2.2.1 n).trans (by kernel_rfl),
  fun x => (go_value_reader_value_L2.eq_2 x.1 x.2.1 x.2.2.1 x.2.2.2.1 x.2.2.2.2.1 x.2.2.2.2.2.1 x.2.2.2.2.2.2.1 x.2.2.2.2.2.2.2.1 x.2.2.2.2.2.2.2.2.1 x.2.2.2.2.2.2.2.2.2.1 x.2.2.2.2.2.2.2.2.2.2.1 x.2.2.2.2.2.2.2.2.2.2.2.1 x.2.2.2.2.2.2.2.2.2.2.2.2.1 n).trans (by kernel_rfl),
  fun x => (go_value_reader_value_L3.eq_2 x.1 x.2.1 x.2.2.1 x.2.2.2.1 x.2.2.2.2.1 x.2.2.2.2.2.1 x.2.2.2.2.2.2.1 n).trans (by kernel_rfl),
  fun x => (go_value_reader_value_L4.eq_2 x.1 x.2.1 x.2.2.1 x.2.2.2.1 x.2.2.2.2.1 x.2.2.2.2.2.1 x.2.2.2.2.2.2.1 x.2.2.2.2.2.2.2.1 n).trans (by kernel_rfl),
  fun x => (go_value_reader_value_L5.eq_2 x.1 x.2.1 x.2.2.1 x.2.2.2.1 x.2.2.2.2.1 x.2.2.2.2.2.1 x.2.2.2.2.2.2.1 x.2.2.2.2.2.2.2.1 x.2.2.2.2.2.2.2.2.1 n).trans (by kernel_rfl),
  fun x => (go_value_reader_value_L6.eq_2 x.1 x.2.1 x.2.2.1 x.2.2.2.1 x.2.2.2.2.1 x.2.2.2.2.2.1 x.2.2.2.2.2.2.1 x.2.2.2.2.2.2.2.1 x.2.2.2.2.2.2.2.2.1 n).trans (by kernel_rfl),
  trivial⟩)
 (fun x => .inr (by kernel_rfl))
theorem r_value_reader_value : OkL Tryz.prog [I_value_reader_value] := ring_ok (dat_ok _) (bs := [I_value_reader_skip, I_value_reader_quoted, I_strings_IndexByte, I_ratio_Parse]) ⟨ok_value_reader_skip, ok_value_reader_quoted, ok_strings_IndexByte, ok_ratio_Parse, trivial⟩ ⟨g_value_reader_value, trivial⟩
theorem ok_value_reader_value : FOk Tryz.prog I_value_reader_value := r_value_reader_value.1
end Go.Proofs.YtagebdhlgnlcnaaGreatDoor


namespace Go.Proofs.YtagebdhlgnlcnaaGreatDoor
open Go Go.Ab
set_option linter.unusedVariables false
set_option maxRecDepth 100000
mutual
def go_value_Parse : Nat → (List UInt8) → Option (Int × GValue)
 | 0, _ => none
 | n + 1, a0 =>
   pIf (decide ((a0.length : Int) > 4000))
     (some (12, (GValue.mk 0 (GRatio.mk 0 0) false [] [])))
     ((go_value_reader_value n 6 (GReader.mk a0 0 true)).bind fun y0 =>
     pIf (!y0.1.ok)
       (go_value_Parse_L0 n true (GValue.mk 0 (GRatio.mk 0 0) false [] []) y0.2.re)
       (pIf (y0.1.at_ != (a0.length : Int))
         (go_value_Parse_L0 n true (GValue.mk 0 (GRatio.mk 0 0) false [] []) y0.2.re)
         ((go_value_Check n y0.2.re).bind fun y1 =>
         go_value_Parse_L0 n (y1 != 0) (GValue.mk 0 (GRatio.mk 0 0) false [] []) y0.2.re)))
def go_value_Parse_L0 : Nat → Bool → GValue → GValue → Option (Int × GValue)
 | 0, _, _, _ => none
 | n + 1, a0, a1, a2 =>
   pIf a0
     (some (12, (GValue.mk 0 (GRatio.mk 0 0) false [] [])))
     (some (0, a2.re))
end
def k_value_Parse : LSh := ⟨[(2, (.ptr 0 0)), (3, (.d (.int .i64)))], [(.st 2)], 0, 36⟩
noncomputable def I_value_Parse : FI dat := FI.of dat 24 36 0 [(.d .str)] [] [(.d (.st 2)), (.d (.int .i64))] [] true k_value_Parse (R := Int × GValue) (fun x => (x.1, x.2.1)) (fun r => (r.2, r.1, ())) (fun n x => go_value_Parse n x.1)
 (fun n => [(0, ⟨⟨[(2, (.ptr 0 0)), (5, (.ptr 1 0)), (33, (.d .bool))], [(.st 2), (.st 2)], 0, 36⟩, fun x => go_value_Parse_L0 n x.1 x.2.1 x.2.2.1⟩)]) (ann [(17, 0)] (Tryz.f24.body.getD .skip) 0).1
noncomputable def t_value_Parse : List (FI dat) := [I_value_reader_value, I_value_Check]
theorem g_value_Parse : (I_value_Parse).Good Tryz.prog dat (tb t_value_Parse) := FI.of_good (hD := dat_ok _) Tryz.func24 Tryz.ntmps24 Tryz.call24 (by kernel_rfl) (of_decide_eq_true (by kernel_rfl)) (by kernel_rfl) (fun n => by kernel_rfl) (fun x => by kernel_rfl) (fun _ => rfl) ⟨fun _ => rfl, trivial⟩
 (fun n => fun x => (go_value_Parse.eq_2 x.1 n).trans (by kernel_rfl))
 (fun n => ⟨fun x => (go_value_Parse_L0.eq_2 x.1 x.2.1 x.2.2.1 n).trans (by kernel_rfl),
  trivial⟩)
 (fun x => .inl rfl)
theorem r_value_Parse : OkL Tryz.prog [I_value_Parse] := one_ok (dat_ok _) (bs := [I_value_reader_value, I_value_Check]) ⟨ok_value_reader_value, ok_value_Check, trivial⟩ g_value_Parse
theorem ok_value_Parse : FOk Tryz.prog I_value_Parse := r_value_Parse.1
mutual
def go_report_Parse : Nat → (List UInt8) → Option ((List GTally) × Int)
 | 0, _ => none
 | n + 1, a0 =>
   pIf (decide ((a0.length : Int) > 20000))
     (some ([], 12))
     (go_report_Parse_L0 n a0 [])
def go_report_Parse_L0 : Nat → (List UInt8) → (List GTally) → Option ((List GTally) × Int)
 | 0, _, _ => none
 | n + 1, a0, a1 =>
   pIf (!(a0 == []))
     ((go_strings_Cut n a0 [10]).bind fun y0 =>
     (go_strings_LastIndexByte n y0.1 32).bind fun y1 =>
     pIf (!y0.2.2)
       (go_report_Parse_L1 n y0.2.1 y1 y0.1 true a1)
       (go_report_Parse_L1 n y0.2.1 y1 y0.1 (decide (y1 < 0)) a1))
     ((go_report_Check n a1).bind fun y2 =>
     pIf (y2 != 0)
       (some ([], 12))
       (some (a1, 0)))
def go_report_Parse_L1 : Nat → (List UInt8) → Int → (List UInt8) → Bool → (List GTally) → Option ((List GTally) × Int)
 | 0, _, _, _, _, _ => none
 | n + 1, a0, a1, a2, a3, a4 =>
   pIf a3
     (some ([], 12))
     ((sub a2 0 a1).bind fun x3 =>
     (go_strings_LastIndexByte n x3 32).bind fun y4 =>
     pIf (decide (y4 < 0))
       (some ([], 12))
       ((sub a2 0 y4).bind fun x5 =>
       (go_value_Parse n x5).bind fun y6 =>
       (sub a2 (IntKind.i64.wrap (y4 + 1)) a1).bind fun x7 =>
       (go_report_number n x7).bind fun y8 =>
       (sub a2 (IntKind.i64.wrap (a1 + 1)) (a2.length : Int)).bind fun x9 =>
       (go_report_number n x9).bind fun y10 =>
       pIf (y6.1 != 0)
         (go_report_Parse_L2 n a0 y10.1 y8.1 true y6.2.re a4)
         (pIf (y6.2.kind != 3)
           (go_report_Parse_L2 n a0 y10.1 y8.1 true y6.2.re a4)
           (pIf (!y8.2)
             (go_report_Parse_L2 n a0 y10.1 y8.1 true y6.2.re a4)
             (pIf (!y10.2)
               (go_report_Parse_L2 n a0 y10.1 y8.1 true y6.2.re a4)
               (go_report_Parse_L2 n a0 y10.1 y8.1 (decide (y8.1 > 1000000000)) y6.2.re a4))))))
def go_report_Parse_L2 : Nat → (List UInt8) → Int → Int → Bool → GValue → (List GTally) → Option ((List GTally) × Int)
 | 0, _, _, _, _, _, _ => none
 | n + 1, a0, a1, a2, a3, a4, a5 =>
   pIf a3
     (some ([], 12))
     ((ext a5 [(GTally.mk a4.str a2 a1)]).bind fun x11 =>
     go_report_Parse_L0 n a0 x11)
end
def k_report_Parse : LSh := ⟨[(2, (.d (.sl (.st 0)))), (3, (.d (.int .i64)))], [], 0, 97⟩
noncomputable def I_report_Parse : FI dat := FI.of dat 7 97 0 [(.d .str)] [] [(.d (.sl (.st 0))), (.d (.int .i64))] [] true k_report_Parse (R := (List GTally) × Int) (fun x => (x.1, x.2.1)) (fun r => (r.1, r.2, ())) (fun n x => go_report_Parse n x.1)
 (fun n => [(0, ⟨⟨[(4, (.own 0)), (0, (.d .str))], [(.acc 36 (.st 0) true)], 0, 97⟩, fun x => go_report_Parse_L0 n x.1 x.2.1⟩), (1, ⟨⟨[(6, (.d .str)), (4, (.own 0)), (8, (.d (.int .i64))), (5, (.d .str)), (34, (.d .bool))], [(.acc 36 (.st 0) true)], 0, 97⟩, fun x => go_report_Parse_L1 n x.1 x.2.1 x.2.2.1 x.2.2.2.1 x.2.2.2.2.1⟩), (2, ⟨⟨[(6, (.d .str)), (14, (.d (.int .i64))), (12, (.d (.int .i64))), (10, (.ptr 0 0)), (4, (.own 1)), (83, (.d .bool))], [(.st 2), (.acc 36 (.st 0) true)], 0, 97⟩, fun x => go_report_Parse_L2 n x.1 x.2.1 x.2.2.1 x.2.2.2.1 x.2.2.2.2.1 x.2.2.2.2.2.1⟩)]) (ann [(14, 0), (29, 1), (53, 2)] (Tryz.f7.body.getD .skip) 0).1
noncomputable def t_report_Parse : List (FI dat) := [I_strings_Cut, I_strings_LastIndexByte, I_report_Check, I_value_Parse, I_report_number]
theorem g_report_Parse : (I_report_Parse).Good Tryz.prog dat (tb t_report_Parse) := FI.of_good (hD := dat_ok _) Tryz.func7 Tryz.ntmps7 Tryz.call7 (by kernel_rfl) (of_decide_eq_true (by kernel_rfl)) (by kernel_rfl) (fun n => by kernel_rfl) (fun x => by kernel_rfl) (fun _ => rfl) ⟨fun _ => rfl, fun _ => rfl, fun _ => rfl, trivial⟩
 (fun n => fun x => (go_report_Parse.eq_2 x.1 n).trans (by kernel_rfl))
 (fun n => ⟨fun x => (go_report_Parse_L0.eq_2 x.1 x.2.1 n).trans (by kernel_rfl),
  fun x => (go_report_Parse_L1.eq_2 x.1 x.2.1 x.2.2.1 x.2.2.2.1 x.2.2.2.2.1 n).trans (by kernel_rfl),
  fun x => (go_report_Parse_L2.eq_2 x.1 x.2.1 x.2.2.1 x.2.2.2.1 x.2.2.2.2.1 x.2.2.2.2.2.1 n).trans (by kernel_rfl),
  trivial⟩)
 (fun x => .inl rfl)
theorem r_report_Parse : OkL Tryz.prog [I_report_Parse] := one_ok (dat_ok _) (bs := [I_strings_Cut, I_strings_LastIndexByte, I_report_Check, I_value_Parse, I_report_number]) ⟨ok_strings_Cut, ok_strings_LastIndexByte, ok_report_Check, ok_value_Parse, ok_report_number, trivial⟩ g_report_Parse
theorem ok_report_Parse : FOk Tryz.prog I_report_Parse := r_report_Parse.1
def go_ref03_Starts : Nat → (List UInt8) → Int → (List UInt8) → Option Bool
 | 0, _, _, _ => none
 | n + 1, a0, a1, a2 =>
   pIf (decide ((IntKind.i64.wrap (a1 + (a2.length : Int))) ≤ (a0.length : Int)))
     ((sub a0 a1 (IntKind.i64.wrap (a1 + (a2.length : Int)))).bind fun x0 =>
     some (x0 == a2))
     (some false)
def k_ref03_Starts : LSh := ⟨[(6, (.d .bool))], [], 0, 25⟩
noncomputable def I_ref03_Starts : FI dat := FI.of dat 27 25 0 [(.d .str), (.d (.int .i64)), (.d .str)] [] [(.d .bool)] [] true k_ref03_Starts (R := Bool) (fun x => x.1) (fun r => (r, ())) (fun n x => go_ref03_Starts n x.1 x.2.1 x.2.2.1)
 (fun n => []) (ann [] (Tryz.f27.body.getD .skip) 0).1
noncomputable def t_ref03_Starts : List (FI dat) := []
theorem g_ref03_Starts : (I_ref03_Starts).Good Tryz.prog dat (tb t_ref03_Starts) := FI.of_good (hD := dat_ok _) Tryz.func27 Tryz.ntmps27 Tryz.call27 (by kernel_rfl) (of_decide_eq_true (by kernel_rfl)) (by kernel_rfl) (fun n => by kernel_rfl) (fun x => by kernel_rfl) (fun _ => rfl) trivial
 (fun n => fun x => (go_ref03_Starts.eq_2 x.1 x.2.1 x.2.2.1 n).trans (by kernel_rfl))
 (fun n => trivial)
 (fun x => .inl rfl)
theorem r_ref03_Starts : OkL Tryz.prog [I_ref03_Starts] := one_ok (dat_ok _) (bs := []) trivial g_ref03_Starts
theorem ok_ref03_Starts : FOk Tryz.prog I_ref03_Starts := r_ref03_Starts.1
def go_ref03_Is : Nat → Bool → Option GValue
 | 0, _ => none
 | n + 1, a0 =>
   some (GValue.mk 2 (GRatio.mk 0 0) a0 [] [])
def k_ref03_Is : LSh := ⟨[(2, (.ptr 0 0))], [(.st 2)], 0, 5⟩
noncomputable def I_ref03_Is : FI dat := FI.of dat 41 5 0 [(.d .bool)] [] [(.d (.st 2))] [] true k_ref03_Is (R := GValue) (fun x => x.1) (fun r => (r, ())) (fun n x => go_ref03_Is n x.1)
 (fun n => []) (ann [] (Tryz.f41.body.getD .skip) 0).1
noncomputable def t_ref03_Is : List (FI dat) := []
theorem g_ref03_Is : (I_ref03_Is).Good Tryz.prog dat (tb t_ref03_Is) := FI.of_good (hD := dat_ok _) Tryz.func41 Tryz.ntmps41 Tryz.call41 (by kernel_rfl) (of_decide_eq_true (by kernel_rfl)) (by kernel_rfl) (fun n => by kernel_rfl) (fun x => by kernel_rfl) (fun _ => rfl) trivial
 (fun n => fun x => (go_ref03_Is.eq_2 x.1 n).trans (by kernel_rfl))
 (fun n => trivial)
 (fun x => .inl rfl)
theorem r_ref03_Is : OkL Tryz.prog [I_ref03_Is] := one_ok (dat_ok _) (bs := []) trivial g_ref03_Is
theorem ok_ref03_Is : FOk Tryz.prog I_ref03_Is := r_ref03_Is.1
mutual
def go_ref03_quoted : Nat → (List UInt8) → Int → Option (Int × Bool × GValue)
 | 0, _, _ => none
 | n + 1, a0, a1 =>
   go_ref03_quoted_L0 n (IntKind.i64.wrap (a1 + 1)) [] a0 (GValue.mk 0 (GRatio.mk 0 0) false [] [])
def go_ref03_quoted_L0 : Nat → Int → (List UInt8) → (List UInt8) → GValue → Option (Int × Bool × GValue)
 | 0, _, _, _, _ => none
 | n + 1, a0, a1, a2, a3 =>
   pIf (decide (a0 < (a2.length : Int)))
     ((ix a2 a0).bind fun x0 =>
     pIf ((x0.toNat : Int) == 34)
       ((go_ref03_Str n a1).bind fun y1 =>
       some ((IntKind.i64.wrap (a0 + 1)), true, y1.re))
       ((ix a2 a0).bind fun x2 =>
       pIf ((x2.toNat : Int) == 92)
         (pIf (decide ((IntKind.i64.wrap (a0 + 1)) < (a2.length : Int)))
           ((ix a2 (IntKind.i64.wrap (a0 + 1))).bind fun x3 =>
           pIf ((x3.toNat : Int) == 34)
             (go_ref03_quoted_L1 n a2 a1 a0 true a3.re)
             ((ix a2 (IntKind.i64.wrap (a0 + 1))).bind fun x4 =>
             go_ref03_quoted_L1 n a2 a1 a0 ((x4.toNat : Int) == 92) a3.re))
           (go_ref03_quoted_L1 n a2 a1 a0 false a3.re))
         (go_ref03_quoted_L1 n a2 a1 a0 false a3.re)))
     (some (0, false, (GValue.mk 0 (GRatio.mk 0 0) false [] [])))
def go_ref03_quoted_L1 : Nat → (List UInt8) → (List UInt8) → Int → Bool → GValue → Option (Int × Bool × GValue)
 | 0, _, _, _, _, _ => none
 | n + 1, a0, a1, a2, a3, a4 =>
   pIf a3
     (go_ref03_quoted_L2 n a0 (IntKind.i64.wrap (a2 + 1)) a1 a4.re)
     ((ix a0 a2).bind fun x5 =>
     pIf ((x5.toNat : Int) == 92)
       (some (0, false, (GValue.mk 0 (GRatio.mk 0 0) false [] [])))
       (go_ref03_quoted_L2 n a0 a2 a1 a4.re))
def go_ref03_quoted_L2 : Nat → (List UInt8) → Int → (List UInt8) → GValue → Option (Int × Bool × GValue)
 | 0, _, _, _, _ => none
 | n + 1, a0, a1, a2, a3 =>
   (sub a0 a1 (IntKind.i64.wrap (a1 + 1))).bind fun x6 =>
   (cat a2 x6).bind fun x7 =>
   go_ref03_quoted_L0 n (IntKind.i64.wrap (a1 + 1)) x7 a0 a3.re
end
def k_ref03_quoted : LSh := ⟨[(4, (.ptr 0 0)), (5, (.d (.int .i64))), (6, (.d .bool))], [(.st 2)], 0, 68⟩
noncomputable def I_ref03_quoted : FI dat := FI.of dat 42 68 0 [(.d .str), (.d (.int .i64))] [] [(.d (.st 2)), (.d (.int .i64)), (.d .bool)] [] true k_ref03_quoted (R := Int × Bool × GValue) (fun x => (x.1, x.2.1, x.2.2.1)) (fun r => (r.2.2, r.1, r.2.1, ())) (fun n x => go_ref03_quoted n x.1 x.2.1)
 (fun n => [(0, ⟨⟨[(4, (.ptr 0 0)), (8, (.d (.int .i64))), (7, (.d .str)), (0, (.d .str))], [(.st 2)], 0, 68⟩, fun x => go_ref03_quoted_L0 n x.1 x.2.1 x.2.2.1 x.2.2.2.1⟩), (1, ⟨⟨[(4, (.ptr 0 0)), (0, (.d .str)), (7, (.d .str)), (8, (.d (.int .i64))), (26, (.d .bool))], [(.st 2)], 0, 68⟩, fun x => go_ref03_quoted_L1 n x.1 x.2.1 x.2.2.1 x.2.2.2.1 x.2.2.2.2.1⟩), (2, ⟨⟨[(4, (.ptr 0 0)), (0, (.d .str)), (8, (.d (.int .i64))), (7, (.d .str))], [(.st 2)], 0, 68⟩, fun x => go_ref03_quoted_L2 n x.1 x.2.1 x.2.2.1 x.2.2.2.1⟩)]) (ann [(8, 0), (27, 1), (36, 2)] (Tryz.f42.body.getD .skip) 0).1
noncomputable def t_ref03_quoted : List (FI dat) := [I_ref03_Str]
theorem g_ref03_quoted : (I_ref03_quoted).Good Tryz.prog dat (tb t_ref03_quoted) := FI.of_good (hD := dat_ok _) Tryz.func42 Tryz.ntmps42 Tryz.call42 (by kernel_rfl) (of_decide_eq_true (by kernel_rfl)) (by kernel_rfl) (fun n => by kernel_rfl) (fun x => by kernel_rfl) (fun _ => rfl) ⟨fun _ => rfl, fun _ => rfl, fun _ => rfl, trivial⟩
 (fun n => fun x => (go_ref03_quoted.eq_2 x.1 x.2.1 n).trans (by kernel_rfl))
 (fun n => ⟨fun x => (go_ref03_quoted_L0.eq_2 x.1 x.2.1 x.2.2.1 x.2.2.2.1 n).trans (by kernel_rfl),
  fun x => (go_ref03_quoted_L1.eq_2 x.1 x.2.1 x.2.2.1 x.2.2.2.1 x.2.2.2.2.1 n).trans (by kernel_rfl),
  fun x => (go_ref03_quoted_L2.eq_2 x.1 x.2.1 x.2.2.1 x.2.2.2.1 n).trans (by kernel_rfl),
  trivial⟩)
 (fun x => .inl rfl)
theorem r_ref03_quoted : OkL Tryz.prog [I_ref03_quoted] := one_ok (dat_ok _) (bs := [I_ref03_Str]) ⟨ok_ref03_Str, trivial⟩ g_ref03_quoted
theorem ok_ref03_quoted : FOk Tryz.prog I_ref03_quoted := r_ref03_quoted.1
mutual
def go_ref01_Number : Nat → (List UInt8) → Option (Int × Bool)
 | 0, _ => none
 | n + 1, a0 =>
   pIf (decide ((a0.length : Int) > 0))
     ((ix a0 0).bind fun x0 =>
     go_ref01_Number_L0 n a0 0 0 ((x0.toNat : Int) == 45))
     (go_ref01_Number_L0 n a0 0 0 false)
def go_ref01_Number_L0 : Nat → (List UInt8) → Int → Int → Bool → Option (Int × Bool)
 | 0, _, _, _, _ => none
 | n + 1, a0, a1, a2, a3 =>
   pIf a3
     (go_ref01_Number_L1 n a0 a1 1)
     (go_ref01_Number_L1 n a0 a1 a2)
def go_ref01_Number_L1 : Nat → (List UInt8) → Int → Int → Option (Int × Bool)
 | 0, _, _, _ => none
 | n + 1, a0, a1, a2 =>
   go_ref01_Number_L2 n a2 a0 a1 a2
def go_ref01_Number_L2 : Nat → Int → (List UInt8) → Int → Int → Option (Int × Bool)
 | 0, _, _, _, _ => none
 | n + 1, a0, a1, a2, a3 =>
   pIf (decide (a0 < (a1.length : Int)))
     ((ix a1 a0).bind fun x1 =>
     pIf (decide ((x1.toNat : Int) < 48))
       (go_ref01_Number_L3 n a1 a3 a0 a2 true)
       ((ix a1 a0).bind fun x2 =>
       pIf (decide ((x2.toNat : Int) > 57))
         (go_ref01_Number_L3 n a1 a3 a0 a2 true)
         (go_ref01_Number_L3 n a1 a3 a0 a2 (decide (a0 > (IntKind.i64.wrap (a3 + 9)))))))
     (pIf (a3 == 1)
       (go_ref01_Number_L4 n a1 (IntKind.i64.wrap (0 - a2)) a3)
       (go_ref01_Number_L4 n a1 a2 a3))
def go_ref01_Number_L3 : Nat → (List UInt8) → Int → Int → Int → Bool → Option (Int × Bool)
 | 0, _, _, _, _, _ => none
 | n + 1, a0, a1, a2, a3, a4 =>
   pIf a4
     (some (0, false))
     ((ix a0 a2).bind fun x3 =>
     go_ref01_Number_L2 n (IntKind.i64.wrap (a2 + 1)) a0 (IntKind.i64.wrap ((IntKind.i64.wrap (10 * a3)) + (IntKind.i64.wrap (IntKind.u8.wrap ((x3.toNat : Int) - 48))))) a1)
def go_ref01_Number_L4 : Nat → (List UInt8) → Int → Int → Option (Int × Bool)
 | 0, _, _, _ => none
 | n + 1, a0, a1, a2 =>
   pIf (decide ((a0.length : Int) > a2))
     ((go_ref01_Decimal n a1).bind fun y4 =>
     some (a1, (y4 == a0)))
     (some (a1, false))
end
def k_ref01_Number : LSh := ⟨[(2, (.d (.int .i64))), (3, (.d .bool))], [], 0, 61⟩
noncomputable def I_ref01_Number : FI dat := FI.of dat 89 61 0 [(.d .str)] [] [(.d (.int .i64)), (.d .bool)] [] true k_ref01_Number (R := Int × Bool) (fun x => (x.1, x.2.1)) (fun r => (r.1, r.2, ())) (fun n x => go_ref01_Number n x.1)
 (fun n => [(0, ⟨⟨[(0, (.d .str)), (5, (.d (.int .i64))), (4, (.d (.int .i64))), (14, (.d .bool))], [], 0, 61⟩, fun x => go_ref01_Number_L0 n x.1 x.2.1 x.2.2.1 x.2.2.2.1⟩), (1, ⟨⟨[(0, (.d .str)), (5, (.d (.int .i64))), (4, (.d (.int .i64)))], [], 0, 61⟩, fun x => go_ref01_Number_L1 n x.1 x.2.1 x.2.2.1⟩), (2, ⟨⟨[(6, (.d (.int .i64))), (0, (.d .str)), (5, (.d (.int .i64))), (4, (.d (.int .i64)))], [], 0, 61⟩, fun x => go_ref01_Number_L2 n x.1 x.2.1 x.2.2.1 x.2.2.2.1⟩), (3, ⟨⟨[(0, (.d .str)), (4, (.d (.int .i64))), (6, (.d (.int .i64))), (5, (.d (.int .i64))), (37, (.d .bool))], [], 0, 61⟩, fun x => go_ref01_Number_L3 n x.1 x.2.1 x.2.2.1 x.2.2.2.1 x.2.2.2.2.1⟩), (4, ⟨⟨[(0, (.d .str)), (5, (.d (.int .i64))), (4, (.d (.int .i64)))], [], 0, 61⟩, fun x => go_ref01_Number_L4 n x.1 x.2.1 x.2.2.1⟩)]) (ann [(7, 0), (10, 1), (14, 2), (26, 3), (39, 4)] (Tryz.f89.body.getD .skip) 0).1
noncomputable def t_ref01_Number : List (FI dat) := [I_ref01_Decimal]
theorem g_ref01_Number : (I_ref01_Number).Good Tryz.prog dat (tb t_ref01_Number) := FI.of_good (hD := dat_ok _) Tryz.func89 Tryz.ntmps89 Tryz.call89 (by kernel_rfl) (of_decide_eq_true (by kernel_rfl)) (by kernel_rfl) (fun n => by kernel_rfl) (fun x => by kernel_rfl) (fun _ => rfl) ⟨fun _ => rfl, fun _ => rfl, fun _ => rfl, fun _ => rfl, fun _ => rfl, trivial⟩
 (fun n => fun x => (go_ref01_Number.eq_2 x.1 n).trans (by kernel_rfl))
 (fun n => ⟨fun x => (go_ref01_Number_L0.eq_2 x.1 x.2.1 x.2.2.1 x.2.2.2.1 n).trans (by kernel_rfl),
  fun x => (go_ref01_Number_L1.eq_2 x.1 x.2.1 x.2.2.1 n).trans (by kernel_rfl),
  fun x => (go_ref01_Number_L2.eq_2 x.1 x.2.1 x.2.2.1 x.2.2.2.1 n).trans (by kernel_rfl),
  fun x => (go_ref01_Number_L3.eq_2 x.1 x.2.1 x.2.2.1 x.2.2.2.1 x.2.2.2.2.1 n).trans (by kernel_rfl),
  fun x => (go_ref01_Number_L4.eq_2 x.1 x.2.1 x.2.2.1 n).trans (by kernel_rfl),
  trivial⟩)
 (fun x => .inl rfl)
theorem r_ref01_Number : OkL Tryz.prog [I_ref01_Number] := one_ok (dat_ok _) (bs := [I_ref01_Decimal]) ⟨ok_ref01_Decimal, trivial⟩ g_ref01_Number
theorem ok_ref01_Number : FOk Tryz.prog I_ref01_Number := r_ref01_Number.1
mutual
def go_ref01_Parse : Nat → (List UInt8) → Option (Int × GRatio)
 | 0, _ => none
 | n + 1, a0 =>
   go_ref01_Parse_L0 n 0 a0 (GRatio.mk 0 0)
def go_ref01_Parse_L0 : Nat → Int → (List UInt8) → GRatio → Option (Int × GRatio)
 | 0, _, _, _ => none
 | n + 1, a0, a1, a2 =>
   pIf (decide (a0 < (a1.length : Int)))
     ((ix a1 a0).bind fun x0 =>
     go_ref01_Parse_L1 n a1 a0 ((x0.toNat : Int) != 47) a2)
     (go_ref01_Parse_L1 n a1 a0 false a2)
def go_ref01_Parse_L1 : Nat → (List UInt8) → Int → Bool → GRatio → Option (Int × GRatio)
 | 0, _, _, _, _ => none
 | n + 1, a0, a1, a2, a3 =>
   pIf a2
     (go_ref01_Parse_L0 n (IntKind.i64.wrap (a1 + 1)) a0 a3)
     ((sub a0 0 a1).bind fun x1 =>
     (go_ref01_Number n x1).bind fun y2 =>
     pIf (!y2.2)
       (some (12, (GRatio.mk 0 0)))
       (pIf (decide (a1 < (a0.length : Int)))
         ((sub a0 (IntKind.i64.wrap (a1 + 1)) (a0.length : Int)).bind fun x3 =>
         (go_ref01_Number n x3).bind fun y4 =>
         pIf (!y4.2)
           (go_ref01_Parse_L2 n true a3 (GRatio.mk y2.1 y4.1))
           (go_ref01_Parse_L2 n (y4.1 == 1) a3 (GRatio.mk y2.1 y4.1)))
         (go_ref01_Parse_L3 n a3 (GRatio.mk y2.1 1))))
def go_ref01_Parse_L2 : Nat → Bool → GRatio → GRatio → Option (Int × GRatio)
 | 0, _, _, _ => none
 | n + 1, a0, a1, a2 =>
   pIf a0
     (some (12, (GRatio.mk 0 0)))
     (go_ref01_Parse_L3 n a1 a2)
def go_ref01_Parse_L3 : Nat → GRatio → GRatio → Option (Int × GRatio)
 | 0, _, _ => none
 | n + 1, a0, a1 =>
   (go_ref01_Check n a1).bind fun y5 =>
   pIf (y5 != 0)
     (some (12, (GRatio.mk 0 0)))
     (some (0, a1))
end
def k_ref01_Parse : LSh := ⟨[(2, (.ptr 0 0)), (3, (.d (.int .i64)))], [(.st 1)], 0, 57⟩
noncomputable def I_ref01_Parse : FI dat := FI.of dat 64 57 0 [(.d .str)] [] [(.d (.st 1)), (.d (.int .i64))] [] true k_ref01_Parse (R := Int × GRatio) (fun x => (x.1, x.2.1)) (fun r => (r.2, r.1, ())) (fun n x => go_ref01_Parse n x.1)
 (fun n => [(0, ⟨⟨[(4, (.d (.int .i64))), (2, (.ptr 0 0)), (0, (.d .str))], [(.st 1)], 0, 57⟩, fun x => go_ref01_Parse_L0 n x.1 x.2.1 x.2.2.1⟩), (1, ⟨⟨[(2, (.ptr 0 0)), (0, (.d .str)), (4, (.d (.int .i64))), (16, (.d .bool))], [(.st 1)], 0, 57⟩, fun x => go_ref01_Parse_L1 n x.1 x.2.1 x.2.2.1 x.2.2.2.1⟩), (2, ⟨⟨[(2, (.ptr 0 0)), (5, (.ptr 1 0)), (50, (.d .bool))], [(.st 1), (.st 1)], 0, 57⟩, fun x => go_ref01_Parse_L2 n x.1 x.2.1 x.2.2.1⟩), (3, ⟨⟨[(2, (.ptr 0 0)), (5, (.ptr 1 0))], [(.st 1), (.st 1)], 0, 57⟩, fun x => go_ref01_Parse_L3 n x.1 x.2.1⟩)]) (ann [(6, 0), (10, 1), (37, 2), (43, 3)] (Tryz.f64.body.getD .skip) 0).1
noncomputable def t_ref01_Parse : List (FI dat) := [I_ref01_Number, I_ref01_Check]
theorem g_ref01_Parse : (I_ref01_Parse).Good Tryz.prog dat (tb t_ref01_Parse) := FI.of_good (hD := dat_ok _) Tryz.func64 Tryz.ntmps64 Tryz.call64 (by kernel_rfl) (of_decide_eq_true (by kernel_rfl)) (by kernel_rfl) (fun n => by kernel_rfl) (fun x => by kernel_rfl) (fun _ => rfl) ⟨fun _ => rfl, fun _ => rfl, fun _ => rfl, fun _ => rfl, trivial⟩
 (fun n => fun x => (go_ref01_Parse.eq_2 x.1 n).trans (by kernel_rfl))
 (fun n => ⟨fun x => (go_ref01_Parse_L0.eq_2 x.1 x.2.1 x.2.2.1 n).trans (by kernel_rfl),
  fun x => (go_ref01_Parse_L1.eq_2 x.1 x.2.1 x.2.2.1 x.2.2.2.1 n).trans (by kernel_rfl),
  fun x => (go_ref01_Parse_L2.eq_2 x.1 x.2.1 x.2.2.1 n).trans (by kernel_rfl),
  fun x => (go_ref01_Parse_L3.eq_2 x.1 x.2.1 n).trans (by kernel_rfl),
  trivial⟩)
 (fun x => .inl rfl)
theorem r_ref01_Parse : OkL Tryz.prog [I_ref01_Parse] := one_ok (dat_ok _) (bs := [I_ref01_Number, I_ref01_Check]) ⟨ok_ref01_Number, ok_ref01_Check, trivial⟩ g_ref01_Parse
theorem ok_ref01_Parse : FOk Tryz.prog I_ref01_Parse := r_ref01_Parse.1
end Go.Proofs.YtagebdhlgnlcnaaGreatDoor


namespace Go.Proofs.YtagebdhlgnlcnaaGreatDoor
open Go Go.Ab
set_option linter.unusedVariables false
set_option maxRecDepth 100000
def go_ref03_Of : Nat → GRatio → Option GValue
 | 0, _ => none
 | n + 1, a0 =>
   some (GValue.mk 1 a0 false [] [])
def k_ref03_Of : LSh := ⟨[(2, (.ptr 0 0))], [(.st 2)], 0, 5⟩
noncomputable def I_ref03_Of : FI dat := FI.of dat 65 5 0 [(.d (.st 1))] [] [(.d (.st 2))] [] true k_ref03_Of (R := GValue) (fun x => x.1) (fun r => (r, ())) (fun n x => go_ref03_Of n x.1)
 (fun n => []) (ann [] (Tryz.f65.body.getD .skip) 0).1
noncomputable def t_ref03_Of : List (FI dat) := []
theorem g_ref03_Of : (I_ref03_Of).Good Tryz.prog dat (tb t_ref03_Of) := FI.of_good (hD := dat_ok _) Tryz.func65 Tryz.ntmps65 Tryz.call65 (by kernel_rfl) (of_decide_eq_true (by kernel_rfl)) (by kernel_rfl) (fun n => by kernel_rfl) (fun x => by kernel_rfl) (fun _ => rfl) trivial
 (fun n => fun x => (go_ref03_Of.eq_2 x.1 n).trans (by kernel_rfl))
 (fun n => trivial)
 (fun x => .inl rfl)
theorem r_ref03_Of : OkL Tryz.prog [I_ref03_Of] := one_ok (dat_ok _) (bs := []) trivial g_ref03_Of
theorem ok_ref03_Of : FOk Tryz.prog I_ref03_Of := r_ref03_Of.1
mutual
def go_ref03_number : Nat → (List UInt8) → Int → Option (Int × Bool × GValue)
 | 0, _, _ => none
 | n + 1, a0, a1 =>
   go_ref03_number_L0 n a1 a1 a0 (GValue.mk 0 (GRatio.mk 0 0) false [] [])
def go_ref03_number_L0 : Nat → Int → Int → (List UInt8) → GValue → Option (Int × Bool × GValue)
 | 0, _, _, _, _ => none
 | n + 1, a0, a1, a2, a3 =>
   pIf (decide (a0 < (a2.length : Int)))
     ((ix a2 a0).bind fun x0 =>
     pIf (decide ((x0.toNat : Int) ≥ 48))
       ((ix a2 a0).bind fun x1 =>
       pIf (decide ((x1.toNat : Int) ≤ 57))
         (go_ref03_number_L1 n a1 a2 a0 true a3.re)
         ((ix a2 a0).bind fun x2 =>
         pIf ((x2.toNat : Int) == 47)
           (go_ref03_number_L1 n a1 a2 a0 true a3.re)
           ((ix a2 a0).bind fun x3 =>
           pIf ((x3.toNat : Int) == 45)
             (go_ref03_number_L1 n a1 a2 a0 (a0 == a1) a3.re)
             (go_ref03_number_L1 n a1 a2 a0 false a3.re))))
       ((ix a2 a0).bind fun x4 =>
       pIf ((x4.toNat : Int) == 47)
         (go_ref03_number_L1 n a1 a2 a0 true a3.re)
         ((ix a2 a0).bind fun x5 =>
         pIf ((x5.toNat : Int) == 45)
           (go_ref03_number_L1 n a1 a2 a0 (a0 == a1) a3.re)
           (go_ref03_number_L1 n a1 a2 a0 false a3.re))))
     (go_ref03_number_L1 n a1 a2 a0 false a3.re)
def go_ref03_number_L1 : Nat → Int → (List UInt8) → Int → Bool → GValue → Option (Int × Bool × GValue)
 | 0, _, _, _, _, _ => none
 | n + 1, a0, a1, a2, a3, a4 =>
   pIf a3
     (go_ref03_number_L0 n (IntKind.i64.wrap (a2 + 1)) a0 a1 a4.re)
     ((sub a1 a0 a2).bind fun x6 =>
     (go_ref01_Parse n x6).bind fun y7 =>
     (go_ref03_Of n y7.2).bind fun y8 =>
     some (a2, (y7.1 == 0), y8.re))
end
def k_ref03_number : LSh := ⟨[(4, (.ptr 0 0)), (5, (.d (.int .i64))), (6, (.d .bool))], [(.st 2)], 0, 59⟩
noncomputable def I_ref03_number : FI dat := FI.of dat 43 59 0 [(.d .str), (.d (.int .i64))] [] [(.d (.st 2)), (.d (.int .i64)), (.d .bool)] [] true k_ref03_number (R := Int × Bool × GValue) (fun x => (x.1, x.2.1, x.2.2.1)) (fun r => (r.2.2, r.1, r.2.1, ())) (fun n x => go_ref03_number n x.1 x.2.1)
 (fun n => [(0, ⟨⟨[(7, (.d (.int .i64))), (4, (.ptr 0 0)), (1, (.d (.int .i64))), (0, (.d .str))], [(.st 2)], 0, 59⟩, fun x => go_ref03_number_L0 n x.1 x.2.1 x.2.2.1 x.2.2.2.1⟩), (1, ⟨⟨[(4, (.ptr 0 0)), (1, (.d (.int .i64))), (0, (.d .str)), (7, (.d (.int .i64))), (43, (.d .bool))], [(.st 2)], 0, 59⟩, fun x => go_ref03_number_L1 n x.1 x.2.1 x.2.2.1 x.2.2.2.1 x.2.2.2.2.1⟩)]) (ann [(6, 0), (10, 1)] (Tryz.f43.body.getD .skip) 0).1
noncomputable def t_ref03_number : List (FI dat) := [I_ref01_Parse, I_ref03_Of]
theorem g_ref03_number : (I_ref03_number).Good Tryz.prog dat (tb t_ref03_number) := FI.of_good (hD := dat_ok _) Tryz.func43 Tryz.ntmps43 Tryz.call43 (by kernel_rfl) (of_decide_eq_true (by kernel_rfl)) (by kernel_rfl) (fun n => by kernel_rfl) (fun x => by kernel_rfl) (fun _ => rfl) ⟨fun _ => rfl, fun _ => rfl, trivial⟩
 (fun n => fun x => (go_ref03_number.eq_2 x.1 x.2.1 n).trans (by kernel_rfl))
 (fun n => ⟨fun x => (go_ref03_number_L0.eq_2 x.1 x.2.1 x.2.2.1 x.2.2.2.1 n).trans (by kernel_rfl),
  fun x => (go_ref03_number_L1.eq_2 x.1 x.2.1 x.2.2.1 x.2.2.2.1 x.2.2.2.2.1 n).trans (by kernel_rfl),
  trivial⟩)
 (fun x => .inl rfl)
theorem r_ref03_number : OkL Tryz.prog [I_ref03_number] := one_ok (dat_ok _) (bs := [I_ref01_Parse, I_ref03_Of]) ⟨ok_ref01_Parse, ok_ref03_Of, trivial⟩ g_ref03_number
theorem ok_ref03_number : FOk Tryz.prog I_ref03_number := r_ref03_number.1
mutual
def go_ref03_Read : Nat → (List UInt8) → Int → Int → Option (Int × Bool × GValue)
 | 0, _, _, _ => none
 | n + 1, a0, a1, a2 =>
   pIf (a2 == 0)
     (go_ref03_Read_L0 n a1 a0 a2 true 0 0 0 false [] [])
     (go_ref03_Read_L0 n a1 a0 a2 (decide (a1 ≥ (a0.length : Int))) 0 0 0 false [] [])
def go_ref03_Read_L0 : Nat → Int → (List UInt8) → Int → Bool → Int → Int → Int → Bool → (List UInt8) → (List GValue) → Option (Int × Bool × GValue)
 | 0, _, _, _, _, _, _, _, _, _, _ => none
 | n + 1, a0, a1, a2, a3, a4, a5, a6, a7, a8, a9 =>
   pIf a3
     (some (0, false, (GValue.mk 0 (GRatio.mk 0 0) false [] [])))
     ((go_ref03_Starts n a1 a0 [116, 114, 117, 101]).bind fun y0 =>
     pIf y0
       ((go_ref03_Is n true).bind fun y1 =>
       some ((IntKind.i64.wrap (a0 + 4)), true, y1.re))
       ((go_ref03_Starts n a1 a0 [102, 97, 108, 115, 101]).bind fun y2 =>
       pIf y2
         ((go_ref03_Is n false).bind fun y3 =>
         some ((IntKind.i64.wrap (a0 + 5)), true, y3.re))
         ((ix a1 a0).bind fun x4 =>
         pIf ((x4.toNat : Int) == 34)
           ((go_ref03_quoted n a1 a0).bind fun y5 =>
           some (y5.1, y5.2.1, y5.2.2.re))
           ((ix a1 a0).bind fun x6 =>
           pIf ((x6.toNat : Int) != 91)
             ((go_ref03_number n a1 a0).bind fun y7 =>
             some (y7.1, y7.2.1, y7.2.2.re))
             ((go_ref03_Starts n a1 (IntKind.i64.wrap (a0 + 1)) [93]).bind fun y8 =>
             pIf y8
               (some ((IntKind.i64.wrap ((IntKind.i64.wrap (a0 + 1)) + 1)), true, (GValue.mk 4 (GRatio.mk 0 0) false [] [])))
               (go_ref03_Read_L1 n a1 a2 (IntKind.i64.wrap (a0 + 1)) a4 a5 a6 a7 a8 4 0 0 false [] a9 []))))))
def go_ref03_Read_L1 : Nat → (List UInt8) → Int → Int → Int → Int → Int → Bool → (List UInt8) → Int → Int → Int → Bool → (List UInt8) → (List GValue) → (List GValue) → Option (Int × Bool × GValue)
 | 0, _, _, _, _, _, _, _, _, _, _, _, _, _, _, _ => none
 | n + 1, a0, a1, a2, a3, a4, a5, a6, a7, a8, a9, a10, a11, a12, a13, a14 =>
   (go_ref03_Read n a0 a2 (IntKind.i64.wrap (a1 - 1))).bind fun y9 =>
   pIf (!y9.2.1)
     (some (0, false, (GValue.mk 0 (GRatio.mk 0 0) false [] [])))
     ((ext a14 [y9.2.2.re]).bind fun x10 =>
     (go_ref03_Starts n a0 y9.1 [93]).bind fun y11 =>
     pIf y11
       (some ((IntKind.i64.wrap (y9.1 + 1)), true, (GValue.mk a8 (GRatio.mk a9 a10) a11 a12 x10)))
       ((go_ref03_Starts n a0 y9.1 [44, 32]).bind fun y12 =>
       pIf (!y12)
         (some (0, false, (GValue.mk 0 (GRatio.mk 0 0) false [] [])))
         (go_ref03_Read_L1 n a0 a1 (IntKind.i64.wrap (y9.1 + 2)) a3 a4 a5 a6 a7 a8 a9 a10 a11 a12 a13 x10)))
end
def k_ref03_Read : LSh := ⟨[(6, (.ptr 0 0)), (7, (.d (.int .i64))), (8, (.d .bool))], [(.st 2)], 0, 113⟩
noncomputable def I_ref03_Read : FI dat := FI.of dat 26 113 0 [(.d .str), (.d (.int .i64)), (.d (.int .i64))] [] [(.d (.st 2)), (.d (.int .i64)), (.d .bool)] [] true k_ref03_Read (R := Int × Bool × GValue) (fun x => (x.1, x.2.1, x.2.2.1)) (fun r => (r.2.2, r.1, r.2.1, ())) (fun n x => go_ref03_Read n x.1 x.2.1 x.2.2.1)
 (fun n => [(0, ⟨⟨[(6, (.ptr 0 0)), (1, (.d (.int .i64))), (0, (.d .str)), (2, (.d (.int .i64))), (19, (.d .bool))], [(.cells [(.d (.int .u8)), (.d (.int .i64)), (.d (.int .i64)), (.d .bool), (.d .str), (.own 1)]), (.acc 47 (.st 2) true)], 0, 113⟩, fun x => go_ref03_Read_L0 n x.1 x.2.1 x.2.2.1 x.2.2.2.1 x.2.2.2.2.1 x.2.2.2.2.2.1 x.2.2.2.2.2.2.1 x.2.2.2.2.2.2.2.1 x.2.2.2.2.2.2.2.2.1 x.2.2.2.2.2.2.2.2.2.1⟩), (1, ⟨⟨[(6, (.ptr 0 0)), (15, (.ptr 1 0)), (0, (.d .str)), (2, (.d (.int .i64))), (1, (.d (.int .i64)))], [(.cells [(.d (.int .u8)), (.d (.int .i64)), (.d (.int .i64)), (.d .bool), (.d .str), (.own 2)]), (.cells [(.d (.int .u8)), (.d (.int .i64)), (.d (.int .i64)), (.d .bool), (.d .str), (.own 3)]), (.acc 47 (.st 2) true), (.acc 47 (.st 2) true)], 0, 113⟩, fun x => go_ref03_Read_L1 n x.1 x.2.1 x.2.2.1 x.2.2.2.1 x.2.2.2.2.1 x.2.2.2.2.2.1 x.2.2.2.2.2.2.1 x.2.2.2.2.2.2.2.1 x.2.2.2.2.2.2.2.2.1 x.2.2.2.2.2.2.2.2.2.1 x.2.2.2.2.2.2.2.2.2.2.1 x.2.2.2.2.2.2.2.2.2.2.2.1 x.2.2.2.2.2.2.2.2.2.2.2.2.1 x.2.2.2.2.2.2.2.2.2.2.2.2.2.1 x.2.2.2.2.2.2.2.2.2.2.2.2.2.2.1⟩)]) (ann [(6, 0), (52, 1)] (Tryz.f26.body.getD .skip) 0).1
noncomputable def t_ref03_Read : List (FI dat) := [I_ref03_Read] ++ [I_ref03_Starts, I_ref03_Is, I_ref03_quoted, I_ref03_number]
theorem g_ref03_Read : (I_ref03_Read).Good Tryz.prog dat (tb t_ref03_Read) := FI.of_good (hD := dat_ok _) Tryz.func26 Tryz.ntmps26 Tryz.call26 (by kernel_rfl) (of_decide_eq_true (by kernel_rfl)) (by kernel_rfl) (fun n => by kernel_rfl) (fun x => by kernel_rfl) (fun _ => rfl) ⟨fun _ => rfl, fun _ => rfl, trivial⟩
 (fun n => fun x => (go_ref03_Read.eq_2 x.1 x.2.1 x.2.2.1 n).trans (by kernel_rfl))
 (fun n => ⟨fun x => (go_ref03_Read_L0.eq_2 x.1 x.2.1 x.2.2.1 x.2.2.2.1 x.2.2.2.2.1 x.2.2.2.2.2.1 x.2.2.2.2.2.2.1 x.2.2.2.2.2.2.2.1 x.2.2.2.2.2.2.2.2.1 x.2.2.2.2.2.2.2.2.2.1 n).trans (by kernel_rfl),
  fun x => (go_ref03_Read_L1.eq_2 x.1 x.2.1 x.2.2.1 x.2.2.2.1 x.2.2.2.2.1 x.2.2.2.2.2.1 x.2.2.2.2.2.2.1 x.2.2.2.2.2.2.2.1 x.2.2.2.2.2.2.2.2.1 x.2.2.2.2.2.2.2.2.2.1 x.2.2.2.2.2.2.2.2.2.2.1 x.2.2.2.2.2.2.2.2.2.2.2.1 x.2.2.2.2.2.2.2.2.2.2.2.2.1 x.2.2.2.2.2.2.2.2.2.2.2.2.2.1 x.2.2.2.2.2.2.2.2.2.2.2.2.2.2.1 n).trans (by kernel_rfl),
  trivial⟩)
 (fun x => .inl rfl)
theorem r_ref03_Read : OkL Tryz.prog [I_ref03_Read] := ring_ok (dat_ok _) (bs := [I_ref03_Starts, I_ref03_Is, I_ref03_quoted, I_ref03_number]) ⟨ok_ref03_Starts, ok_ref03_Is, ok_ref03_quoted, ok_ref03_number, trivial⟩ ⟨g_ref03_Read, trivial⟩
theorem ok_ref03_Read : FOk Tryz.prog I_ref03_Read := r_ref03_Read.1
mutual
def go_ref45_number : Nat → (List UInt8) → Int → Option (Int × Int × Bool)
 | 0, _, _ => none
 | n + 1, a0, a1 =>
   go_ref45_number_L0 n a1 a0 0 a1
def go_ref45_number_L0 : Nat → Int → (List UInt8) → Int → Int → Option (Int × Int × Bool)
 | 0, _, _, _, _ => none
 | n + 1, a0, a1, a2, a3 =>
   pIf (decide (a0 < (a1.length : Int)))
     (pIf (decide (a0 < (IntKind.i64.wrap (a3 + 19))))
       ((ix a1 a0).bind fun x0 =>
       pIf (decide ((x0.toNat : Int) ≥ 48))
         ((ix a1 a0).bind fun x1 =>
         pIf (decide ((x1.toNat : Int) ≤ 57))
           (go_ref45_number_L1 n a1 a3 a0 a2 (decide (a2 ≤ 100000000000000000)))
           (go_ref45_number_L1 n a1 a3 a0 a2 false))
         (go_ref45_number_L1 n a1 a3 a0 a2 false))
       (go_ref45_number_L1 n a1 a3 a0 a2 false))
     (go_ref45_number_L1 n a1 a3 a0 a2 false)
def go_ref45_number_L1 : Nat → (List UInt8) → Int → Int → Int → Bool → Option (Int × Int × Bool)
 | 0, _, _, _, _, _ => none
 | n + 1, a0, a1, a2, a3, a4 =>
   pIf a4
     ((ix a0 a2).bind fun x2 =>
     go_ref45_number_L0 n (IntKind.i64.wrap (a2 + 1)) a0 (IntKind.i64.wrap ((IntKind.i64.wrap (10 * a3)) + (IntKind.i64.wrap (IntKind.u8.wrap ((x2.toNat : Int) - 48))))) a1)
     (pIf (decide (a2 > a1))
       ((ix a0 a1).bind fun x3 =>
       pIf ((x3.toNat : Int) != 48)
         (some (a3, a2, true))
         (some (a3, a2, (a2 == (IntKind.i64.wrap (a1 + 1))))))
       (some (a3, a2, false)))
end
def k_ref45_number : LSh := ⟨[(4, (.d (.int .i64))), (5, (.d (.int .i64))), (6, (.d .bool))], [], 0, 63⟩
noncomputable def I_ref45_number : FI dat := FI.of dat 28 63 0 [(.d .str), (.d (.int .i64))] [] [(.d (.int .i64)), (.d (.int .i64)), (.d .bool)] [] true k_ref45_number (R := Int × Int × Bool) (fun x => (x.1, x.2.1, x.2.2.1)) (fun r => (r.1, r.2.1, r.2.2, ())) (fun n x => go_ref45_number n x.1 x.2.1)
 (fun n => [(0, ⟨⟨[(1, (.d (.int .i64))), (0, (.d .str)), (7, (.d (.int .i64))), (8, (.d (.int .i64)))], [], 0, 63⟩, fun x => go_ref45_number_L0 n x.1 x.2.1 x.2.2.1 x.2.2.2.1⟩), (1, ⟨⟨[(0, (.d .str)), (8, (.d (.int .i64))), (1, (.d (.int .i64))), (7, (.d (.int .i64))), (35, (.d .bool))], [], 0, 63⟩, fun x => go_ref45_number_L1 n x.1 x.2.1 x.2.2.1 x.2.2.2.1 x.2.2.2.2.1⟩)]) (ann [(6, 0), (10, 1)] (Tryz.f28.body.getD .skip) 0).1
noncomputable def t_ref45_number : List (FI dat) := []
theorem g_ref45_number : (I_ref45_number).Good Tryz.prog dat (tb t_ref45_number) := FI.of_good (hD := dat_ok _) Tryz.func28 Tryz.ntmps28 Tryz.call28 (by kernel_rfl) (of_decide_eq_true (by kernel_rfl)) (by kernel_rfl) (fun n => by kernel_rfl) (fun x => by kernel_rfl) (fun _ => rfl) ⟨fun _ => rfl, fun _ => rfl, trivial⟩
 (fun n => fun x => (go_ref45_number.eq_2 x.1 x.2.1 n).trans (by kernel_rfl))
 (fun n => ⟨fun x => (go_ref45_number_L0.eq_2 x.1 x.2.1 x.2.2.1 x.2.2.2.1 n).trans (by kernel_rfl),
  fun x => (go_ref45_number_L1.eq_2 x.1 x.2.1 x.2.2.1 x.2.2.2.1 x.2.2.2.2.1 n).trans (by kernel_rfl),
  trivial⟩)
 (fun x => .inl rfl)
theorem r_ref45_number : OkL Tryz.prog [I_ref45_number] := one_ok (dat_ok _) (bs := []) trivial g_ref45_number
theorem ok_ref45_number : FOk Tryz.prog I_ref45_number := r_ref45_number.1
mutual
def go_ref45_Parse : Nat → (List UInt8) → Option ((List GTally) × Int)
 | 0, _ => none
 | n + 1, a0 =>
   pIf (decide ((a0.length : Int) > 20000))
     (some ([], 12))
     (go_ref45_Parse_L0 n a0 0 [])
def go_ref45_Parse_L0 : Nat → (List UInt8) → Int → (List GTally) → Option ((List GTally) × Int)
 | 0, _, _, _ => none
 | n + 1, a0, a1, a2 =>
   pIf (decide (a1 < (a0.length : Int)))
     ((go_ref03_Read n a0 a1 1).bind fun y0 =>
     pIf (!y0.2.1)
       (go_ref45_Parse_L1 n a0 y0.1 true y0.2.2.re a2)
       (pIf (y0.2.2.kind != 3)
         (go_ref45_Parse_L1 n a0 y0.1 true y0.2.2.re a2)
         ((go_ref03_Starts n a0 y0.1 [32]).bind fun y1 =>
         go_ref45_Parse_L1 n a0 y0.1 (!y1) y0.2.2.re a2)))
     ((go_ref45_Check n a2).bind fun y2 =>
     pIf (y2 != 0)
       (some ([], 12))
       (some (a2, 0)))
def go_ref45_Parse_L1 : Nat → (List UInt8) → Int → Bool → GValue → (List GTally) → Option ((List GTally) × Int)
 | 0, _, _, _, _, _ => none
 | n + 1, a0, a1, a2, a3, a4 =>
   pIf a2
     (some ([], 12))
     ((go_ref45_number n a0 (IntKind.i64.wrap (a1 + 1))).bind fun y3 =>
     pIf (!y3.2.2)
       (go_ref45_Parse_L2 n a0 y3.1 y3.2.1 true a3.re a4)
       (pIf (decide (y3.1 > 1000000000))
         (go_ref45_Parse_L2 n a0 y3.1 y3.2.1 true a3.re a4)
         ((go_ref03_Starts n a0 y3.2.1 [32]).bind fun y4 =>
         go_ref45_Parse_L2 n a0 y3.1 y3.2.1 (!y4) a3.re a4)))
def go_ref45_Parse_L2 : Nat → (List UInt8) → Int → Int → Bool → GValue → (List GTally) → Option ((List GTally) × Int)
 | 0, _, _, _, _, _, _ => none
 | n + 1, a0, a1, a2, a3, a4, a5 =>
   pIf a3
     (some ([], 12))
     ((go_ref45_number n a0 (IntKind.i64.wrap (a2 + 1))).bind fun y5 =>
     pIf (!y5.2.2)
       (go_ref45_Parse_L3 n a0 y5.2.1 y5.1 a1 true a4.re a5)
       ((go_ref03_Starts n a0 y5.2.1 [10]).bind fun y6 =>
       go_ref45_Parse_L3 n a0 y5.2.1 y5.1 a1 (!y6) a4.re a5))
def go_ref45_Parse_L3 : Nat → (List UInt8) → Int → Int → Int → Bool → GValue → (List GTally) → Option ((List GTally) × Int)
 | 0, _, _, _, _, _, _, _ => none
 | n + 1, a0, a1, a2, a3, a4, a5, a6 =>
   pIf a4
     (some ([], 12))
     ((ext a6 [(GTally.mk a5.str a3 a2)]).bind fun x7 =>
     go_ref45_Parse_L0 n a0 (IntKind.i64.wrap (a1 + 1)) x7)
end
def k_ref45_Parse : LSh := ⟨[(2, (.d (.sl (.st 0)))), (3, (.d (.int .i64)))], [], 0, 92⟩
noncomputable def I_ref45_Parse : FI dat := FI.of dat 8 92 0 [(.d .str)] [] [(.d (.sl (.st 0))), (.d (.int .i64))] [] true k_ref45_Parse (R := (List GTally) × Int) (fun x => (x.1, x.2.1)) (fun r => (r.1, r.2, ())) (fun n x => go_ref45_Parse n x.1)
 (fun n => [(0, ⟨⟨[(4, (.own 0)), (0, (.d .str)), (5, (.d (.int .i64)))], [(.acc 36 (.st 0) true)], 0, 92⟩, fun x => go_ref45_Parse_L0 n x.1 x.2.1 x.2.2.1⟩), (1, ⟨⟨[(0, (.d .str)), (6, (.ptr 0 0)), (4, (.own 1)), (7, (.d (.int .i64))), (41, (.d .bool))], [(.st 2), (.acc 36 (.st 0) true)], 0, 92⟩, fun x => go_ref45_Parse_L1 n x.1 x.2.1 x.2.2.1 x.2.2.2.1 x.2.2.2.2.1⟩), (2, ⟨⟨[(0, (.d .str)), (9, (.d (.int .i64))), (6, (.ptr 0 0)), (4, (.own 1)), (10, (.d (.int .i64))), (61, (.d .bool))], [(.st 2), (.acc 36 (.st 0) true)], 0, 92⟩, fun x => go_ref45_Parse_L2 n x.1 x.2.1 x.2.2.1 x.2.2.2.1 x.2.2.2.2.1 x.2.2.2.2.2.1⟩), (3, ⟨⟨[(0, (.d .str)), (13, (.d (.int .i64))), (12, (.d (.int .i64))), (9, (.d (.int .i64))), (6, (.ptr 0 0)), (4, (.own 1)), (77, (.d .bool))], [(.st 2), (.acc 36 (.st 0) true)], 0, 92⟩, fun x => go_ref45_Parse_L3 n x.1 x.2.1 x.2.2.1 x.2.2.2.1 x.2.2.2.2.1 x.2.2.2.2.2.1 x.2.2.2.2.2.2.1⟩)]) (ann [(16, 0), (29, 1), (39, 2), (49, 3)] (Tryz.f8.body.getD .skip) 0).1
noncomputable def t_ref45_Parse : List (FI dat) := [I_ref03_Read, I_ref03_Starts, I_ref45_Check, I_ref45_number]
theorem g_ref45_Parse : (I_ref45_Parse).Good Tryz.prog dat (tb t_ref45_Parse) := FI.of_good (hD := dat_ok _) Tryz.func8 Tryz.ntmps8 Tryz.call8 (by kernel_rfl) (of_decide_eq_true (by kernel_rfl)) (by kernel_rfl) (fun n => by kernel_rfl) (fun x => by kernel_rfl) (fun _ => rfl) ⟨fun _ => rfl, fun _ => rfl, fun _ => rfl, fun _ => rfl, trivial⟩
 (fun n => fun x => (go_ref45_Parse.eq_2 x.1 n).trans (by kernel_rfl))
 (fun n => ⟨fun x => (go_ref45_Parse_L0.eq_2 x.1 x.2.1 x.2.2.1 n).trans (by kernel_rfl),
  fun x => (go_ref45_Parse_L1.eq_2 x.1 x.2.1 x.2.2.1 x.2.2.2.1 x.2.2.2.2.1 n).trans (by kernel_rfl),
  fun x => (go_ref45_Parse_L2.eq_2 x.1 x.2.1 x.2.2.1 x.2.2.2.1 x.2.2.2.2.1 x.2.2.2.2.2.1 n).trans (by kernel_rfl),
  fun x => (go_ref45_Parse_L3.eq_2 x.1 x.2.1 x.2.2.1 x.2.2.2.1 x.2.2.2.2.1 x.2.2.2.2.2.1 x.2.2.2.2.2.2.1 n).trans (by kernel_rfl),
  trivial⟩)
 (fun x => .inl rfl)
theorem r_ref45_Parse : OkL Tryz.prog [I_ref45_Parse] := one_ok (dat_ok _) (bs := [I_ref03_Read, I_ref03_Starts, I_ref45_Check, I_ref45_number]) ⟨ok_ref03_Read, ok_ref03_Starts, ok_ref45_Check, ok_ref45_number, trivial⟩ g_ref45_Parse
theorem ok_ref45_Parse : FOk Tryz.prog I_ref45_Parse := r_ref45_Parse.1
mutual
def go_ref45_Same : Nat → (List GTally) → (List GTally) → Option Bool
 | 0, _, _ => none
 | n + 1, a0, a1 =>
   pIf ((a0.length : Int) != (a1.length : Int))
     (some false)
     (go_ref45_Same_L0 n 0 a1 a0)
def go_ref45_Same_L0 : Nat → Int → (List GTally) → (List GTally) → Option Bool
 | 0, _, _, _ => none
 | n + 1, a0, a1, a2 =>
   pIf (decide (a0 < (a2.length : Int)))
     ((ix a2 a0).bind fun x0 =>
     (ix a1 a0).bind fun x1 =>
     pIf (!((x0.name == x1.name) && ((x0.count == x1.count) && ((x0.volume == x1.volume) && true))))
       (some false)
       (go_ref45_Same_L0 n (IntKind.i64.wrap (a0 + 1)) a1 a2))
     (some true)
end
def k_ref45_Same : LSh := ⟨[(4, (.d .bool))], [], 0, 26⟩
noncomputable def I_ref45_Same : FI dat := FI.of dat 9 26 0 [(.d (.sl (.st 0))), (.d (.sl (.st 0)))] [] [(.d .bool)] [] true k_ref45_Same (R := Bool) (fun x => x.1) (fun r => (r, ())) (fun n x => go_ref45_Same n x.1 x.2.1)
 (fun n => [(0, ⟨⟨[(5, (.d (.int .i64))), (1, (.d (.sl (.st 0)))), (0, (.d (.sl (.st 0))))], [], 0, 26⟩, fun x => go_ref45_Same_L0 n x.1 x.2.1 x.2.2.1⟩)]) (ann [(14, 0)] (Tryz.f9.body.getD .skip) 0).1
noncomputable def t_ref45_Same : List (FI dat) := []
theorem g_ref45_Same : (I_ref45_Same).Good Tryz.prog dat (tb t_ref45_Same) := FI.of_good (hD := dat_ok _) Tryz.func9 Tryz.ntmps9 Tryz.call9 (by kernel_rfl) (of_decide_eq_true (by kernel_rfl)) (by kernel_rfl) (fun n => by kernel_rfl) (fun x => by kernel_rfl) (fun _ => rfl) ⟨fun _ => rfl, trivial⟩
 (fun n => fun x => (go_ref45_Same.eq_2 x.1 x.2.1 n).trans (by kernel_rfl))
 (fun n => ⟨fun x => (go_ref45_Same_L0.eq_2 x.1 x.2.1 x.2.2.1 n).trans (by kernel_rfl),
  trivial⟩)
 (fun x => .inl rfl)
theorem r_ref45_Same : OkL Tryz.prog [I_ref45_Same] := one_ok (dat_ok _) (bs := []) trivial g_ref45_Same
theorem ok_ref45_Same : FOk Tryz.prog I_ref45_Same := r_ref45_Same.1
end Go.Proofs.YtagebdhlgnlcnaaGreatDoor


namespace Go.Proofs.YtagebdhlgnlcnaaGreatDoor
open Go Go.Ab
set_option linter.unusedVariables false
set_option maxRecDepth 100000
mutual
def go_gambrellaw45_ReportTexts : Nat → (List GTally) → (List UInt8) → Option Bool
 | 0, _, _ => none
 | n + 1, a0, a1 =>
   (go_ref45_Great n a0).bind fun y0 =>
   pIf y0
     (go_gambrellaw45_ReportTexts_L0 n a1 a0 true)
     (go_gambrellaw45_ReportTexts_L0 n a1 a0 (decide ((a1.length : Int) > 25000)))
def go_gambrellaw45_ReportTexts_L0 : Nat → (List UInt8) → (List GTally) → Bool → Option Bool
 | 0, _, _, _ => none
 | n + 1, a0, a1, a2 =>
   pIf a2
     (some true)
     ((go_report_Text n a1).bind fun y1 =>
     (go_ref45_Text n a1).bind fun y2 =>
     (go_report_Parse n a0).bind fun y3 =>
     (go_ref45_Parse n a0).bind fun y4 =>
     pIf (y1.1 == y2.1)
       (pIf (y1.2 == y2.2)
         ((go_ref45_Same n y3.1 y4.1).bind fun y5 =>
         pIf y5
           (some (y3.2 == y4.2))
           (some false))
         (some false))
       (some false))
end
def k_gambrellaw45_ReportTexts : LSh := ⟨[(4, (.d .bool))], [], 0, 58⟩
noncomputable def I_gambrellaw45_ReportTexts : FI dat := FI.of dat 3 58 0 [(.d (.sl (.st 0))), (.d .str)] [] [(.d .bool)] [] true k_gambrellaw45_ReportTexts (R := Bool) (fun x => x.1) (fun r => (r, ())) (fun n x => go_gambrellaw45_ReportTexts n x.1 x.2.1)
 (fun n => [(0, ⟨⟨[(1, (.d .str)), (0, (.d (.sl (.st 0)))), (19, (.d .bool))], [], 0, 58⟩, fun x => go_gambrellaw45_ReportTexts_L0 n x.1 x.2.1 x.2.2.1⟩)]) (ann [(5, 0)] (Tryz.f3.body.getD .skip) 0).1
noncomputable def t_gambrellaw45_ReportTexts : List (FI dat) := [I_ref45_Great, I_report_Text, I_ref45_Text, I_report_Parse, I_ref45_Parse, I_ref45_Same]
theorem g_gambrellaw45_ReportTexts : (I_gambrellaw45_ReportTexts).Good Tryz.prog dat (tb t_gambrellaw45_ReportTexts) := FI.of_good (hD := dat_ok _) Tryz.func3 Tryz.ntmps3 Tryz.call3 (by kernel_rfl) (of_decide_eq_true (by kernel_rfl)) (by kernel_rfl) (fun n => by kernel_rfl) (fun x => by kernel_rfl) (fun _ => rfl) ⟨fun _ => rfl, trivial⟩
 (fun n => fun x => (go_gambrellaw45_ReportTexts.eq_2 x.1 x.2.1 n).trans (by kernel_rfl))
 (fun n => ⟨fun x => (go_gambrellaw45_ReportTexts_L0.eq_2 x.1 x.2.1 x.2.2.1 n).trans (by kernel_rfl),
  trivial⟩)
 (fun x => .inl rfl)
theorem r_gambrellaw45_ReportTexts : OkL Tryz.prog [I_gambrellaw45_ReportTexts] := one_ok (dat_ok _) (bs := [I_ref45_Great, I_report_Text, I_ref45_Text, I_report_Parse, I_ref45_Parse, I_ref45_Same]) ⟨ok_ref45_Great, ok_report_Text, ok_ref45_Text, ok_report_Parse, ok_ref45_Parse, ok_ref45_Same, trivial⟩ g_gambrellaw45_ReportTexts
theorem ok_gambrellaw45_ReportTexts : FOk Tryz.prog I_gambrellaw45_ReportTexts := r_gambrellaw45_ReportTexts.1
theorem la_gambrellaw45_ReportTexts (a0 : List GTally) (a1 : List UInt8) : VRL dat [] 0 [dat.tv (.sl (.st 0)) a0, dat.tv .str a1] [dat.el (.sl (.st 0)) a0, dat.el .str a1] := by
 simp only [VRL]
 exact ⟨_, _, rfl, VR.tv (dat_ok Tryz.prog) (DR.el _ _), ⟨_, _, rfl, VR.tv (dat_ok Tryz.prog) (DR.el _ _), rfl⟩⟩
theorem go_gambrellaw45_ReportTexts_pc (n : Nat) (a0 : List GTally) (a1 : List UInt8) (r : Bool) (h : go_gambrellaw45_ReportTexts n a0 a1 = some r) : PCall Tryz.prog 3 [dat.el (.sl (.st 0)) a0, dat.el .str a1] (.bool r) := by
 obtain ⟨y, h1, _, _, _, h2⟩ := ok_gambrellaw45_ReportTexts n _ (a0, a1, ()) (fun y => some y.1) (fun _ => none) r (by show (go_gambrellaw45_ReportTexts n a0 a1).bind (fun r => some r) = some r; rw [h]; rfl)
 obtain ⟨vs, k1, k2⟩ := h2 0 [dat.el (.sl (.st 0)) a0, dat.el .str a1] (la_gambrellaw45_ReportTexts a0 a1)
 injection h1 with h1
 subst h1
 have := k1 [] 0
 replace this : VRL dat [] 0 [TV.bool y.1] vs := this
 simp only [VRL, VR] at this
 obtain ⟨v, r, rfl, rfl, rfl⟩ := this
 exact k2
end Go.Proofs.YtagebdhlgnlcnaaGreatDoor


namespace Go.Proofs.Tryz
open Go Go.Ab
set_option linter.unusedSimpArgs false
@[simp] theorem cellsOf2 : Program.cellsOf Tryz.prog 2 = 1 := by kernel_rfl
@[simp] theorem cellsOf3 : Program.cellsOf Tryz.prog 3 = 1 := by kernel_rfl
@[simp] theorem cellsOf9 : Program.cellsOf Tryz.prog 9 = 1 := by kernel_rfl
@[simp] theorem cellsOf36 : Program.cellsOf Tryz.prog 36 = 3 := by kernel_rfl
end Go.Proofs.Tryz


namespace Go.Proofs.Tryz
open Go Go.Ab
set_option linter.unusedSimpArgs false
theorem reads36 (n : Nat) : Reads Tryz.prog n 36 GTally.ty := (reads_struct Tryz.underlying36 cellsOf36 (fun m hm => (readsF_cons rfl cellsOf9 (reads_str Tryz.underlying9 m) (readsF_cons rfl cellsOf3 (reads_int Tryz.underlying3 m) (readsF_cons rfl cellsOf2 (reads_int Tryz.underlying2 m) readsF_nil))))).conv (fun x => (⟨x.1, x.2.1, x.2.2.1⟩ : GTally)) (fun x => by show GTally.el _ = _; rw [GTally.el_eq]; simp [Ty.struct, Ty.pair, Ty.unit, Ty.int, Ty.bool, Ty.str, Ty.slice, V.cells, GTally.ty, GTally.el_eq]) rfl (fun x h => by simp only [GTally.ty]; rw [GTally.wf_eq]; simp only [Ty.struct, Ty.pair, Ty.unit, Ty.int, Ty.bool, Ty.str, Ty.slice, GTally.ty] at h ⊢; simpa using h) (fun x => by simp only [Ty.struct, Ty.pair, Ty.unit, Ty.int, Ty.bool, Ty.str, Ty.slice, GTally.ty]; rw [GTally.size_eq]; (try dsimp only); omega)
theorem arg22 : ArgOf Tryz.prog 22 (Ty.slice GTally.ty) := arg_leaf (fun n => (reads_slice Tryz.underlying22 cellsOf36 (by decide) (fun k hk => (reads36 k)))) (fun _ => rfl) (by rw [Tryz.underlying22])
theorem arg9 : ArgOf Tryz.prog 9 Ty.str := arg_leaf (fun n => (reads_str Tryz.underlying9 n)) (fun _ => rfl) (by rw [Tryz.underlying9])
end Go.Proofs.Tryz


namespace Go.Proofs.YtagebdhlgnlcnaaGreatDoor
open Go Go.Ab
set_option linter.unusedVariables false
theorem ev_gambrellaw45_ReportTexts {r} (a0 a1) : type_of% (evS (fun n => go_gambrellaw45_ReportTexts n a0 a1) r fun n => go_gambrellaw45_ReportTexts.eq_2 a0 a1 n) := evS _ _ fun _ => rfl
theorem ev_gambrellaw45_ReportTexts_L0 {r} (a0 a1 a2) : type_of% (evS (fun n => go_gambrellaw45_ReportTexts_L0 n a0 a1 a2) r fun n => go_gambrellaw45_ReportTexts_L0.eq_2 a0 a1 a2 n) := evS _ _ fun _ => rfl
theorem ev_ref45_Great {r} (a0) : type_of% (evS (fun n => go_ref45_Great n a0) r fun n => go_ref45_Great.eq_2 a0 n) := evS _ _ fun _ => rfl
theorem ev_ref45_Great_L0 {r} (a0 a1) : type_of% (evS (fun n => go_ref45_Great_L0 n a0 a1) r fun n => go_ref45_Great_L0.eq_2 a0 a1 n) := evS _ _ fun _ => rfl
theorem ev_ref45_Great_L1 {r} (a0 a1 a2) : type_of% (evS (fun n => go_ref45_Great_L1 n a0 a1 a2) r fun n => go_ref45_Great_L1.eq_2 a0 a1 a2 n) := evS _ _ fun _ => rfl
theorem ev_report_Text {r} (a0) : type_of% (evS (fun n => go_report_Text n a0) r fun n => go_report_Text.eq_2 a0 n) := evS _ _ fun _ => rfl
theorem ev_report_Text_L0 {r} (a0 a1 a2 a3) : type_of% (evS (fun n => go_report_Text_L0 n a0 a1 a2 a3) r fun n => go_report_Text_L0.eq_2 a0 a1 a2 a3 n) := evS _ _ fun _ => rfl
theorem ev_ref45_Text {r} (a0) : type_of% (evS (fun n => go_ref45_Text n a0) r fun n => go_ref45_Text.eq_2 a0 n) := evS _ _ fun _ => rfl
theorem ev_ref45_Text_L0 {r} (a0 a1 a2) : type_of% (evS (fun n => go_ref45_Text_L0 n a0 a1 a2) r fun n => go_ref45_Text_L0.eq_2 a0 a1 a2 n) := evS _ _ fun _ => rfl
theorem ev_report_Parse {r} (a0) : type_of% (evS (fun n => go_report_Parse n a0) r fun n => go_report_Parse.eq_2 a0 n) := evS _ _ fun _ => rfl
theorem ev_report_Parse_L0 {r} (a0 a1) : type_of% (evS (fun n => go_report_Parse_L0 n a0 a1) r fun n => go_report_Parse_L0.eq_2 a0 a1 n) := evS _ _ fun _ => rfl
theorem ev_report_Parse_L1 {r} (a0 a1 a2 a3 a4) : type_of% (evS (fun n => go_report_Parse_L1 n a0 a1 a2 a3 a4) r fun n => go_report_Parse_L1.eq_2 a0 a1 a2 a3 a4 n) := evS _ _ fun _ => rfl
theorem ev_report_Parse_L2 {r} (a0 a1 a2 a3 a4 a5) : type_of% (evS (fun n => go_report_Parse_L2 n a0 a1 a2 a3 a4 a5) r fun n => go_report_Parse_L2.eq_2 a0 a1 a2 a3 a4 a5 n) := evS _ _ fun _ => rfl
theorem ev_ref45_Parse {r} (a0) : type_of% (evS (fun n => go_ref45_Parse n a0) r fun n => go_ref45_Parse.eq_2 a0 n) := evS _ _ fun _ => rfl
theorem ev_ref45_Parse_L0 {r} (a0 a1 a2) : type_of% (evS (fun n => go_ref45_Parse_L0 n a0 a1 a2) r fun n => go_ref45_Parse_L0.eq_2 a0 a1 a2 n) := evS _ _ fun _ => rfl
theorem ev_ref45_Parse_L1 {r} (a0 a1 a2 a3 a4) : type_of% (evS (fun n => go_ref45_Parse_L1 n a0 a1 a2 a3 a4) r fun n => go_ref45_Parse_L1.eq_2 a0 a1 a2 a3 a4 n) := evS _ _ fun _ => rfl
theorem ev_ref45_Parse_L2 {r} (a0 a1 a2 a3 a4 a5) : type_of% (evS (fun n => go_ref45_Parse_L2 n a0 a1 a2 a3 a4 a5) r fun n => go_ref45_Parse_L2.eq_2 a0 a1 a2 a3 a4 a5 n) := evS _ _ fun _ => rfl
theorem ev_ref45_Parse_L3 {r} (a0 a1 a2 a3 a4 a5 a6) : type_of% (evS (fun n => go_ref45_Parse_L3 n a0 a1 a2 a3 a4 a5 a6) r fun n => go_ref45_Parse_L3.eq_2 a0 a1 a2 a3 a4 a5 a6 n) := evS _ _ fun _ => rfl
theorem ev_ref45_Same {r} (a0 a1) : type_of% (evS (fun n => go_ref45_Same n a0 a1) r fun n => go_ref45_Same.eq_2 a0 a1 n) := evS _ _ fun _ => rfl
theorem ev_ref45_Same_L0 {r} (a0 a1 a2) : type_of% (evS (fun n => go_ref45_Same_L0 n a0 a1 a2) r fun n => go_ref45_Same_L0.eq_2 a0 a1 a2 n) := evS _ _ fun _ => rfl
theorem ev_report_Check {r} (a0) : type_of% (evS (fun n => go_report_Check n a0) r fun n => go_report_Check.eq_2 a0 n) := evS _ _ fun _ => rfl
theorem ev_report_Check_L0 {r} (a0 a1 a2 a3) : type_of% (evS (fun n => go_report_Check_L0 n a0 a1 a2 a3) r fun n => go_report_Check_L0.eq_2 a0 a1 a2 a3 n) := evS _ _ fun _ => rfl
theorem ev_report_Check_L1 {r} (a0 a1 a2 a3 a4) : type_of% (evS (fun n => go_report_Check_L1 n a0 a1 a2 a3 a4) r fun n => go_report_Check_L1.eq_2 a0 a1 a2 a3 a4 n) := evS _ _ fun _ => rfl
theorem ev_report_str {r} (a0) : type_of% (evS (fun n => go_report_str n a0) r fun n => go_report_str.eq_2 a0 n) := evS _ _ fun _ => rfl
theorem ev_value_Text {r} (a0) : type_of% (evS (fun n => go_value_Text n a0) r fun n => go_value_Text.eq_2 a0 n) := evS _ _ fun _ => rfl
theorem ev_strings_Builder_WriteString {r} (a0 a1) : type_of% (evS (fun n => go_strings_Builder_WriteString n a0 a1) r fun n => go_strings_Builder_WriteString.eq_2 a0 a1 n) := evS _ _ fun _ => rfl
theorem ev_strings_Builder_Len {r} (a0) : type_of% (evS (fun n => go_strings_Builder_Len n a0) r fun n => go_strings_Builder_Len.eq_2 a0 n) := evS _ _ fun _ => rfl
theorem ev_ref45_Check {r} (a0) : type_of% (evS (fun n => go_ref45_Check n a0) r fun n => go_ref45_Check.eq_2 a0 n) := evS _ _ fun _ => rfl
theorem ev_ref45_Check_L0 {r} (a0 a1) : type_of% (evS (fun n => go_ref45_Check_L0 n a0 a1) r fun n => go_ref45_Check_L0.eq_2 a0 a1 n) := evS _ _ fun _ => rfl
theorem ev_ref45_Check_L1 {r} (a0 a1 a2) : type_of% (evS (fun n => go_ref45_Check_L1 n a0 a1 a2) r fun n => go_ref45_Check_L1.eq_2 a0 a1 a2 n) := evS _ _ fun _ => rfl
theorem ev_ref03_Str {r} (a0) : type_of% (evS (fun n => go_ref03_Str n a0) r fun n => go_ref03_Str.eq_2 a0 n) := evS _ _ fun _ => rfl
theorem ev_ref03_Written {r} (a0) : type_of% (evS (fun n => go_ref03_Written n a0) r fun n => go_ref03_Written.eq_2 a0 n) := evS _ _ fun _ => rfl
theorem ev_ref03_Written_L0 {r} (a0 a1 a2) : type_of% (evS (fun n => go_ref03_Written_L0 n a0 a1 a2) r fun n => go_ref03_Written_L0.eq_2 a0 a1 a2 n) := evS _ _ fun _ => rfl
theorem ev_ref03_Written_L1 {r} (a0 a1 a2 a3) : type_of% (evS (fun n => go_ref03_Written_L1 n a0 a1 a2 a3) r fun n => go_ref03_Written_L1.eq_2 a0 a1 a2 a3 n) := evS _ _ fun _ => rfl
theorem ev_ref03_Written_L2 {r} (a0 a1 a2) : type_of% (evS (fun n => go_ref03_Written_L2 n a0 a1 a2) r fun n => go_ref03_Written_L2.eq_2 a0 a1 a2 n) := evS _ _ fun _ => rfl
theorem ev_ref45_decimal {r} (a0) : type_of% (evS (fun n => go_ref45_decimal n a0) r fun n => go_ref45_decimal.eq_2 a0 n) := evS _ _ fun _ => rfl
theorem ev_ref45_decimal_L0 {r} (a0 a1 a2) : type_of% (evS (fun n => go_ref45_decimal_L0 n a0 a1 a2) r fun n => go_ref45_decimal_L0.eq_2 a0 a1 a2 n) := evS _ _ fun _ => rfl
theorem ev_strings_Cut {r} (a0 a1) : type_of% (evS (fun n => go_strings_Cut n a0 a1) r fun n => go_strings_Cut.eq_2 a0 a1 n) := evS _ _ fun _ => rfl
theorem ev_strings_LastIndexByte {r} (a0 a1) : type_of% (evS (fun n => go_strings_LastIndexByte n a0 a1) r fun n => go_strings_LastIndexByte.eq_2 a0 a1 n) := evS _ _ fun _ => rfl
theorem ev_value_Parse {r} (a0) : type_of% (evS (fun n => go_value_Parse n a0) r fun n => go_value_Parse.eq_2 a0 n) := evS _ _ fun _ => rfl
theorem ev_value_Parse_L0 {r} (a0 a1 a2) : type_of% (evS (fun n => go_value_Parse_L0 n a0 a1 a2) r fun n => go_value_Parse_L0.eq_2 a0 a1 a2 n) := evS _ _ fun _ => rfl
theorem ev_ref03_Read {r} (a0 a1 a2) : type_of% (evS (fun n => go_ref03_Read n a0 a1 a2) r fun n => go_ref03_Read.eq_2 a0 a1 a2 n) := evS _ _ fun _ => rfl
theorem ev_ref03_Read_L0 {r} (a0 a1 a2 a3 a4 a5 a6 a7 a8 a9) : type_of% (evS (fun n => go_ref03_Read_L0 n a0 a1 a2 a3 a4 a5 a6 a7 a8 a9) r fun n => go_ref03_Read_L0.eq_2 a0 a1 a2 a3 a4 a5 a6 a7 a8 a9 n) := evS _ _ fun _ => rfl
theorem ev_ref03_Read_L1 {r} (a0 a1 a2 a3 a4 a5 a6 a7 a8 a9 a10 a11 a12 a13 a14) : type_of% (evS (fun n => go_ref03_Read_L1 n a0 a1 a2 a3 a4 a5 a6 a7 a8 a9 a10 a11 a12 a13 a14) r fun n => go_ref03_Read_L1.eq_2 a0 a1 a2 a3 a4 a5 a6 a7 a8 a9 a10 a11 a12 a13 a14 n) := evS _ _ fun _ => rfl
theorem ev_ref03_Starts {r} (a0 a1 a2) : type_of% (evS (fun n => go_ref03_Starts n a0 a1 a2) r fun n => go_ref03_Starts.eq_2 a0 a1 a2 n) := evS _ _ fun _ => rfl
theorem ev_ref45_number {r} (a0 a1) : type_of% (evS (fun n => go_ref45_number n a0 a1) r fun n => go_ref45_number.eq_2 a0 a1 n) := evS _ _ fun _ => rfl
theorem ev_ref45_number_L0 {r} (a0 a1 a2 a3) : type_of% (evS (fun n => go_ref45_number_L0 n a0 a1 a2 a3) r fun n => go_ref45_number_L0.eq_2 a0 a1 a2 a3 n) := evS _ _ fun _ => rfl
theorem ev_ref45_number_L1 {r} (a0 a1 a2 a3 a4) : type_of% (evS (fun n => go_ref45_number_L1 n a0 a1 a2 a3 a4) r fun n => go_ref45_number_L1.eq_2 a0 a1 a2 a3 a4 n) := evS _ _ fun _ => rfl
theorem ev_report_named {r} (a0) : type_of% (evS (fun n => go_report_named n a0) r fun n => go_report_named.eq_2 a0 n) := evS _ _ fun _ => rfl
theorem ev_value_Check {r} (a0) : type_of% (evS (fun n => go_value_Check n a0) r fun n => go_value_Check.eq_2 a0 n) := evS _ _ fun _ => rfl
theorem ev_value_Check_L0 {r} (a0 a1) : type_of% (evS (fun n => go_value_Check_L0 n a0 a1) r fun n => go_value_Check_L0.eq_2 a0 a1 n) := evS _ _ fun _ => rfl
theorem ev_value_write {r} (a0 a1) : type_of% (evS (fun n => go_value_write n a0 a1) r fun n => go_value_write.eq_2 a0 a1 n) := evS _ _ fun _ => rfl
theorem ev_value_write_L0 {r} (a0 a1 a2) : type_of% (evS (fun n => go_value_write_L0 n a0 a1 a2) r fun n => go_value_write_L0.eq_2 a0 a1 a2 n) := evS _ _ fun _ => rfl
theorem ev_value_write_L1 {r} (a0 a1 a2 a3) : type_of% (evS (fun n => go_value_write_L1 n a0 a1 a2 a3) r fun n => go_value_write_L1.eq_2 a0 a1 a2 a3 n) := evS _ _ fun _ => rfl
theorem ev_value_write_L2 {r} (a0 a1 a2 a3) : type_of% (evS (fun n => go_value_write_L2 n a0 a1 a2 a3) r fun n => go_value_write_L2.eq_2 a0 a1 a2 a3 n) := evS _ _ fun _ => rfl
theorem ev_ref45_Named {r} (a0) : type_of% (evS (fun n => go_ref45_Named n a0) r fun n => go_ref45_Named.eq_2 a0 n) := evS _ _ fun _ => rfl
theorem ev_ref01_Text {r} (a0) : type_of% (evS (fun n => go_ref01_Text n a0) r fun n => go_ref01_Text.eq_2 a0 n) := evS _ _ fun _ => rfl
theorem ev_internal_stringslite_Cut {r} (a0 a1) : type_of% (evS (fun n => go_internal_stringslite_Cut n a0 a1) r fun n => go_internal_stringslite_Cut.eq_2 a0 a1 n) := evS _ _ fun _ => rfl
theorem ev_internal_bytealg_LastIndexByteString {r} (a0 a1) : type_of% (evS (fun n => go_internal_bytealg_LastIndexByteString n a0 a1) r fun n => go_internal_bytealg_LastIndexByteString.eq_2 a0 a1 n) := evS _ _ fun _ => rfl
theorem ev_internal_bytealg_LastIndexByteString_L0 {r} (a0 a1 a2) : type_of% (evS (fun n => go_internal_bytealg_LastIndexByteString_L0 n a0 a1 a2) r fun n => go_internal_bytealg_LastIndexByteString_L0.eq_2 a0 a1 a2 n) := evS _ _ fun _ => rfl
theorem ev_value_reader_value {r} (a0 a1) : type_of% (evS (fun n => go_value_reader_value n a0 a1) r fun n => go_value_reader_value.eq_2 a0 a1 n) := evS _ _ fun _ => rfl
theorem ev_value_reader_value_L0 {r} (a0 a1 a2 a3 a4 a5 a6 a7 a8 a9 a10 a11 a12 a13 a14) : type_of% (evS (fun n => go_value_reader_value_L0 n a0 a1 a2 a3 a4 a5 a6 a7 a8 a9 a10 a11 a12 a13 a14) r fun n => go_value_reader_value_L0.eq_2 a0 a1 a2 a3 a4 a5 a6 a7 a8 a9 a10 a11 a12 a13 a14 n) := evS _ _ fun _ => rfl
theorem ev_value_reader_value_L1 {r} (a0 a1 a2 a3 a4 a5 a6 a7 a8 a9 a10 a11 a12 a13 a14) : type_of% (evS (fun n => go_value_reader_value_L1 n a0 a1 a2 a3 a4 a5 a6 a7 a8 a9 a10 a11 a12 a13 a14) r fun n => go_value_reader_value_L1.eq_2 a0 a1 a2 a3 a4 a5 a6 a7 a8 a9 a10 a11 a12 a13 a14 n) := evS _ _ fun _ => rfl
theorem ev_value_reader_value_L2 {r} (a0 a1 a2 a3 a4 a5 a6 a7 a8 a9 a10 a11 a12) : type_of% (evS (fun n => go_value_reader_value_L2 n a0 a1 a2 a3 a4 a5 a6 a7 a8 a9 a10 a11 a12) r fun n => go_value_reader_value_L2.eq_2 a0 a1 a2 a3 a4 a5 a6 a7 a8 a9 a10 a11 a12 n) := evS _ _ fun _ => rfl
theorem ev_value_reader_value_L3 {r} (a0 a1 a2 a3 a4 a5 a6) : type_of% (evS (fun n => go_value_reader_value_L3 n a0 a1 a2 a3 a4 a5 a6) r fun n => go_value_reader_value_L3.eq_2 a0 a1 a2 a3 a4 a5 a6 n) := evS _ _ fun _ => rfl
theorem ev_value_reader_value_L4 {r} (a0 a1 a2 a3 a4 a5 a6 a7) : type_of% (evS (fun n => go_value_reader_value_L4 n a0 a1 a2 a3 a4 a5 a6 a7) r fun n => go_value_reader_value_L4.eq_2 a0 a1 a2 a3 a4 a5 a6 a7 n) := evS _ _ fun _ => rfl
theorem ev_value_reader_value_L5 {r} (a0 a1 a2 a3 a4 a5 a6 a7 a8) : type_of% (evS (fun n => go_value_reader_value_L5 n a0 a1 a2 a3 a4 a5 a6 a7 a8) r fun n => go_value_reader_value_L5.eq_2 a0 a1 a2 a3 a4 a5 a6 a7 a8 n) := evS _ _ fun _ => rfl
theorem ev_value_reader_value_L6 {r} (a0 a1 a2 a3 a4 a5 a6 a7 a8) : type_of% (evS (fun n => go_value_reader_value_L6 n a0 a1 a2 a3 a4 a5 a6 a7 a8) r fun n => go_value_reader_value_L6.eq_2 a0 a1 a2 a3 a4 a5 a6 a7 a8 n) := evS _ _ fun _ => rfl
theorem ev_ref03_Is {r} (a0) : type_of% (evS (fun n => go_ref03_Is n a0) r fun n => go_ref03_Is.eq_2 a0 n) := evS _ _ fun _ => rfl
theorem ev_ref03_quoted {r} (a0 a1) : type_of% (evS (fun n => go_ref03_quoted n a0 a1) r fun n => go_ref03_quoted.eq_2 a0 a1 n) := evS _ _ fun _ => rfl
theorem ev_ref03_quoted_L0 {r} (a0 a1 a2 a3) : type_of% (evS (fun n => go_ref03_quoted_L0 n a0 a1 a2 a3) r fun n => go_ref03_quoted_L0.eq_2 a0 a1 a2 a3 n) := evS _ _ fun _ => rfl
theorem ev_ref03_quoted_L1 {r} (a0 a1 a2 a3 a4) : type_of% (evS (fun n => go_ref03_quoted_L1 n a0 a1 a2 a3 a4) r fun n => go_ref03_quoted_L1.eq_2 a0 a1 a2 a3 a4 n) := evS _ _ fun _ => rfl
theorem ev_ref03_quoted_L2 {r} (a0 a1 a2 a3) : type_of% (evS (fun n => go_ref03_quoted_L2 n a0 a1 a2 a3) r fun n => go_ref03_quoted_L2.eq_2 a0 a1 a2 a3 n) := evS _ _ fun _ => rfl
theorem ev_ref03_number {r} (a0 a1) : type_of% (evS (fun n => go_ref03_number n a0 a1) r fun n => go_ref03_number.eq_2 a0 a1 n) := evS _ _ fun _ => rfl
theorem ev_ref03_number_L0 {r} (a0 a1 a2 a3) : type_of% (evS (fun n => go_ref03_number_L0 n a0 a1 a2 a3) r fun n => go_ref03_number_L0.eq_2 a0 a1 a2 a3 n) := evS _ _ fun _ => rfl
theorem ev_ref03_number_L1 {r} (a0 a1 a2 a3 a4) : type_of% (evS (fun n => go_ref03_number_L1 n a0 a1 a2 a3 a4) r fun n => go_ref03_number_L1.eq_2 a0 a1 a2 a3 a4 n) := evS _ _ fun _ => rfl
theorem ev_value_measure {r} (a0) : type_of% (evS (fun n => go_value_measure n a0) r fun n => go_value_measure.eq_2 a0 n) := evS _ _ fun _ => rfl
theorem ev_value_measure_L0 {r} (a0 a1 a2 a3 a4) : type_of% (evS (fun n => go_value_measure_L0 n a0 a1 a2 a3 a4) r fun n => go_value_measure_L0.eq_2 a0 a1 a2 a3 a4 n) := evS _ _ fun _ => rfl
theorem ev_value_measure_L1 {r} (a0 a1) : type_of% (evS (fun n => go_value_measure_L1 n a0 a1) r fun n => go_value_measure_L1.eq_2 a0 a1 n) := evS _ _ fun _ => rfl
theorem ev_value_fine {r} (a0) : type_of% (evS (fun n => go_value_fine n a0) r fun n => go_value_fine.eq_2 a0 n) := evS _ _ fun _ => rfl
theorem ev_value_fine_L0 {r} (a0 a1 a2) : type_of% (evS (fun n => go_value_fine_L0 n a0 a1 a2) r fun n => go_value_fine_L0.eq_2 a0 a1 a2 n) := evS _ _ fun _ => rfl
theorem ev_value_fine_L1 {r} (a0 a1 a2 a3) : type_of% (evS (fun n => go_value_fine_L1 n a0 a1 a2 a3) r fun n => go_value_fine_L1.eq_2 a0 a1 a2 a3 n) := evS _ _ fun _ => rfl
theorem ev_value_fine_L2 {r} (a0 a1 a2 a3) : type_of% (evS (fun n => go_value_fine_L2 n a0 a1 a2 a3) r fun n => go_value_fine_L2.eq_2 a0 a1 a2 a3 n) := evS _ _ fun _ => rfl
theorem ev_value_fine_L3 {r} (a0) : type_of% (evS (fun n => go_value_fine_L3 n a0) r fun n => go_value_fine_L3.eq_2 a0 n) := evS _ _ fun _ => rfl
theorem ev_ratio_Text {r} (a0) : type_of% (evS (fun n => go_ratio_Text n a0) r fun n => go_ratio_Text.eq_2 a0 n) := evS _ _ fun _ => rfl
theorem ev_ratio_Text_L0 {r} (a0) : type_of% (evS (fun n => go_ratio_Text_L0 n a0) r fun n => go_ratio_Text_L0.eq_2 a0 n) := evS _ _ fun _ => rfl
theorem ev_strings_Builder_WriteByte {r} (a0 a1) : type_of% (evS (fun n => go_strings_Builder_WriteByte n a0 a1) r fun n => go_strings_Builder_WriteByte.eq_2 a0 a1 n) := evS _ _ fun _ => rfl
theorem ev_strings_Builder_WriteRune {r} (a0 a1) : type_of% (evS (fun n => go_strings_Builder_WriteRune n a0 a1) r fun n => go_strings_Builder_WriteRune.eq_2 a0 a1 n) := evS _ _ fun _ => rfl
theorem ev_ref03_Check {r} (a0) : type_of% (evS (fun n => go_ref03_Check n a0) r fun n => go_ref03_Check.eq_2 a0 n) := evS _ _ fun _ => rfl
theorem ev_ref03_Check_L0 {r} (a0 a1) : type_of% (evS (fun n => go_ref03_Check_L0 n a0 a1) r fun n => go_ref03_Check_L0.eq_2 a0 a1 n) := evS _ _ fun _ => rfl
theorem ev_ref01_Check {r} (a0) : type_of% (evS (fun n => go_ref01_Check n a0) r fun n => go_ref01_Check.eq_2 a0 n) := evS _ _ fun _ => rfl
theorem ev_ref01_Check_L0 {r} (a0) : type_of% (evS (fun n => go_ref01_Check_L0 n a0) r fun n => go_ref01_Check_L0.eq_2 a0 n) := evS _ _ fun _ => rfl
theorem ev_ref01_Decimal {r} (a0) : type_of% (evS (fun n => go_ref01_Decimal n a0) r fun n => go_ref01_Decimal.eq_2 a0 n) := evS _ _ fun _ => rfl
theorem ev_ref01_Decimal_L0 {r} (a0 a1) : type_of% (evS (fun n => go_ref01_Decimal_L0 n a0 a1) r fun n => go_ref01_Decimal_L0.eq_2 a0 a1 n) := evS _ _ fun _ => rfl
theorem ev_value_reader_skip {r} (a0 a1) : type_of% (evS (fun n => go_value_reader_skip n a0 a1) r fun n => go_value_reader_skip.eq_2 a0 a1 n) := evS _ _ fun _ => rfl
theorem ev_value_reader_quoted {r} (a0) : type_of% (evS (fun n => go_value_reader_quoted n a0) r fun n => go_value_reader_quoted.eq_2 a0 n) := evS _ _ fun _ => rfl
theorem ev_value_reader_quoted_L0 {r} (a0 a1) : type_of% (evS (fun n => go_value_reader_quoted_L0 n a0 a1) r fun n => go_value_reader_quoted_L0.eq_2 a0 a1 n) := evS _ _ fun _ => rfl
theorem ev_value_reader_quoted_L1 {r} (a0 a1 a2) : type_of% (evS (fun n => go_value_reader_quoted_L1 n a0 a1 a2) r fun n => go_value_reader_quoted_L1.eq_2 a0 a1 a2 n) := evS _ _ fun _ => rfl
theorem ev_value_reader_quoted_L2 {r} (a0 a1 a2) : type_of% (evS (fun n => go_value_reader_quoted_L2 n a0 a1 a2) r fun n => go_value_reader_quoted_L2.eq_2 a0 a1 a2 n) := evS _ _ fun _ => rfl
theorem ev_value_reader_quoted_L3 {r} (a0) : type_of% (evS (fun n => go_value_reader_quoted_L3 n a0) r fun n => go_value_reader_quoted_L3.eq_2 a0 n) := evS _ _ fun _ => rfl
theorem ev_strings_IndexByte {r} (a0 a1) : type_of% (evS (fun n => go_strings_IndexByte n a0 a1) r fun n => go_strings_IndexByte.eq_2 a0 a1 n) := evS _ _ fun _ => rfl
theorem ev_ratio_Parse {r} (a0) : type_of% (evS (fun n => go_ratio_Parse n a0) r fun n => go_ratio_Parse.eq_2 a0 n) := evS _ _ fun _ => rfl
theorem ev_ratio_Parse_L0 {r} (a0 a1 a2 a3 a4) : type_of% (evS (fun n => go_ratio_Parse_L0 n a0 a1 a2 a3 a4) r fun n => go_ratio_Parse_L0.eq_2 a0 a1 a2 a3 a4 n) := evS _ _ fun _ => rfl
theorem ev_ratio_Parse_L1 {r} (a0 a1 a2 a3 a4 a5) : type_of% (evS (fun n => go_ratio_Parse_L1 n a0 a1 a2 a3 a4 a5) r fun n => go_ratio_Parse_L1.eq_2 a0 a1 a2 a3 a4 a5 n) := evS _ _ fun _ => rfl
theorem ev_ratio_Parse_L2 {r} (a0 a1 a2 a3) : type_of% (evS (fun n => go_ratio_Parse_L2 n a0 a1 a2 a3) r fun n => go_ratio_Parse_L2.eq_2 a0 a1 a2 a3 n) := evS _ _ fun _ => rfl
theorem ev_ref01_Parse {r} (a0) : type_of% (evS (fun n => go_ref01_Parse n a0) r fun n => go_ref01_Parse.eq_2 a0 n) := evS _ _ fun _ => rfl
theorem ev_ref01_Parse_L0 {r} (a0 a1 a2) : type_of% (evS (fun n => go_ref01_Parse_L0 n a0 a1 a2) r fun n => go_ref01_Parse_L0.eq_2 a0 a1 a2 n) := evS _ _ fun _ => rfl
theorem ev_ref01_Parse_L1 {r} (a0 a1 a2 a3) : type_of% (evS (fun n => go_ref01_Parse_L1 n a0 a1 a2 a3) r fun n => go_ref01_Parse_L1.eq_2 a0 a1 a2 a3 n) := evS _ _ fun _ => rfl
theorem ev_ref01_Parse_L2 {r} (a0 a1 a2) : type_of% (evS (fun n => go_ref01_Parse_L2 n a0 a1 a2) r fun n => go_ref01_Parse_L2.eq_2 a0 a1 a2 n) := evS _ _ fun _ => rfl
theorem ev_ref01_Parse_L3 {r} (a0 a1) : type_of% (evS (fun n => go_ref01_Parse_L3 n a0 a1) r fun n => go_ref01_Parse_L3.eq_2 a0 a1 n) := evS _ _ fun _ => rfl
theorem ev_ref03_Of {r} (a0) : type_of% (evS (fun n => go_ref03_Of n a0) r fun n => go_ref03_Of.eq_2 a0 n) := evS _ _ fun _ => rfl
theorem ev_ratio_Check {r} (a0) : type_of% (evS (fun n => go_ratio_Check n a0) r fun n => go_ratio_Check.eq_2 a0 n) := evS _ _ fun _ => rfl
theorem ev_ratio_Check_L0 {r} (a0) : type_of% (evS (fun n => go_ratio_Check_L0 n a0) r fun n => go_ratio_Check_L0.eq_2 a0 n) := evS _ _ fun _ => rfl
theorem ev_unicode_utf8_AppendRune {r} (a0 a1) : type_of% (evS (fun n => go_unicode_utf8_AppendRune n a0 a1) r fun n => go_unicode_utf8_AppendRune.eq_2 a0 a1 n) := evS _ _ fun _ => rfl
theorem ev_ref03_Parts {r} (a0) : type_of% (evS (fun n => go_ref03_Parts n a0) r fun n => go_ref03_Parts.eq_2 a0 n) := evS _ _ fun _ => rfl
theorem ev_ref03_Parts_L0 {r} (a0 a1 a2) : type_of% (evS (fun n => go_ref03_Parts_L0 n a0 a1 a2) r fun n => go_ref03_Parts_L0.eq_2 a0 a1 a2 n) := evS _ _ fun _ => rfl
theorem ev_ref03_Parts_L1 {r} (a0 a1 a2 a3) : type_of% (evS (fun n => go_ref03_Parts_L1 n a0 a1 a2 a3) r fun n => go_ref03_Parts_L1.eq_2 a0 a1 a2 a3 n) := evS _ _ fun _ => rfl
theorem ev_ref03_Deep {r} (a0) : type_of% (evS (fun n => go_ref03_Deep n a0) r fun n => go_ref03_Deep.eq_2 a0 n) := evS _ _ fun _ => rfl
theorem ev_ref03_Deep_L0 {r} (a0 a1 a2) : type_of% (evS (fun n => go_ref03_Deep_L0 n a0 a1 a2) r fun n => go_ref03_Deep_L0.eq_2 a0 a1 a2 n) := evS _ _ fun _ => rfl
theorem ev_ref03_Deep_L1 {r} (a0 a1 a2 a3) : type_of% (evS (fun n => go_ref03_Deep_L1 n a0 a1 a2 a3) r fun n => go_ref03_Deep_L1.eq_2 a0 a1 a2 a3 n) := evS _ _ fun _ => rfl
theorem ev_ref03_fine {r} (a0) : type_of% (evS (fun n => go_ref03_fine n a0) r fun n => go_ref03_fine.eq_2 a0 n) := evS _ _ fun _ => rfl
theorem ev_ref03_fine_L0 {r} (a0 a1) : type_of% (evS (fun n => go_ref03_fine_L0 n a0 a1) r fun n => go_ref03_fine_L0.eq_2 a0 a1 n) := evS _ _ fun _ => rfl
theorem ev_ref03_fine_L1 {r} (a0 a1) : type_of% (evS (fun n => go_ref03_fine_L1 n a0 a1) r fun n => go_ref03_fine_L1.eq_2 a0 a1 n) := evS _ _ fun _ => rfl
theorem ev_ref03_fine_L2 {r} (a0 a1 a2) : type_of% (evS (fun n => go_ref03_fine_L2 n a0 a1 a2) r fun n => go_ref03_fine_L2.eq_2 a0 a1 a2 n) := evS _ _ fun _ => rfl
theorem ev_ref03_fine_L3 {r} (a0 a1) : type_of% (evS (fun n => go_ref03_fine_L3 n a0 a1) r fun n => go_ref03_fine_L3.eq_2 a0 a1 n) := evS _ _ fun _ => rfl
theorem ev_ref03_fine_L4 {r} (a0 a1) : type_of% (evS (fun n => go_ref03_fine_L4 n a0 a1) r fun n => go_ref03_fine_L4.eq_2 a0 a1 n) := evS _ _ fun _ => rfl
theorem ev_ref01_common {r} (a0 a1) : type_of% (evS (fun n => go_ref01_common n a0 a1) r fun n => go_ref01_common.eq_2 a0 a1 n) := evS _ _ fun _ => rfl
theorem ev_ref01_common_L0 {r} (a0 a1) : type_of% (evS (fun n => go_ref01_common_L0 n a0 a1) r fun n => go_ref01_common_L0.eq_2 a0 a1 n) := evS _ _ fun _ => rfl
theorem ev_strings_HasPrefix {r} (a0 a1) : type_of% (evS (fun n => go_strings_HasPrefix n a0 a1) r fun n => go_strings_HasPrefix.eq_2 a0 a1 n) := evS _ _ fun _ => rfl
theorem ev_strings_CutPrefix {r} (a0 a1) : type_of% (evS (fun n => go_strings_CutPrefix n a0 a1) r fun n => go_strings_CutPrefix.eq_2 a0 a1 n) := evS _ _ fun _ => rfl
theorem ev_ratio_digits {r} (a0) : type_of% (evS (fun n => go_ratio_digits n a0) r fun n => go_ratio_digits.eq_2 a0 n) := evS _ _ fun _ => rfl
theorem ev_ratio_digits_L0 {r} (a0 a1) : type_of% (evS (fun n => go_ratio_digits_L0 n a0 a1) r fun n => go_ratio_digits_L0.eq_2 a0 a1 n) := evS _ _ fun _ => rfl
theorem ev_ratio_digits_L1 {r} (a0 a1 a2) : type_of% (evS (fun n => go_ratio_digits_L1 n a0 a1 a2) r fun n => go_ratio_digits_L1.eq_2 a0 a1 a2 n) := evS _ _ fun _ => rfl
theorem ev_ratio_digits_L2 {r} (a0 a1 a2 a3 a4) : type_of% (evS (fun n => go_ratio_digits_L2 n a0 a1 a2 a3 a4) r fun n => go_ratio_digits_L2.eq_2 a0 a1 a2 a3 a4 n) := evS _ _ fun _ => rfl
theorem ev_ref01_Number {r} (a0) : type_of% (evS (fun n => go_ref01_Number n a0) r fun n => go_ref01_Number.eq_2 a0 n) := evS _ _ fun _ => rfl
theorem ev_ref01_Number_L0 {r} (a0 a1 a2 a3) : type_of% (evS (fun n => go_ref01_Number_L0 n a0 a1 a2 a3) r fun n => go_ref01_Number_L0.eq_2 a0 a1 a2 a3 n) := evS _ _ fun _ => rfl
theorem ev_ref01_Number_L1 {r} (a0 a1 a2) : type_of% (evS (fun n => go_ref01_Number_L1 n a0 a1 a2) r fun n => go_ref01_Number_L1.eq_2 a0 a1 a2 n) := evS _ _ fun _ => rfl
theorem ev_ref01_Number_L2 {r} (a0 a1 a2 a3) : type_of% (evS (fun n => go_ref01_Number_L2 n a0 a1 a2 a3) r fun n => go_ref01_Number_L2.eq_2 a0 a1 a2 a3 n) := evS _ _ fun _ => rfl
theorem ev_ref01_Number_L3 {r} (a0 a1 a2 a3 a4) : type_of% (evS (fun n => go_ref01_Number_L3 n a0 a1 a2 a3 a4) r fun n => go_ref01_Number_L3.eq_2 a0 a1 a2 a3 a4 n) := evS _ _ fun _ => rfl
theorem ev_ref01_Number_L4 {r} (a0 a1 a2) : type_of% (evS (fun n => go_ref01_Number_L4 n a0 a1 a2) r fun n => go_ref01_Number_L4.eq_2 a0 a1 a2 n) := evS _ _ fun _ => rfl
theorem ev_ratio_size {r} (a0) : type_of% (evS (fun n => go_ratio_size n a0) r fun n => go_ratio_size.eq_2 a0 n) := evS _ _ fun _ => rfl
theorem ev_ratio_gcd {r} (a0 a1) : type_of% (evS (fun n => go_ratio_gcd n a0 a1) r fun n => go_ratio_gcd.eq_2 a0 a1 n) := evS _ _ fun _ => rfl
theorem ev_ratio_gcd_L0 {r} (a0 a1) : type_of% (evS (fun n => go_ratio_gcd_L0 n a0 a1) r fun n => go_ratio_gcd_L0.eq_2 a0 a1 n) := evS _ _ fun _ => rfl
theorem ev_internal_stringslite_HasPrefix {r} (a0 a1) : type_of% (evS (fun n => go_internal_stringslite_HasPrefix n a0 a1) r fun n => go_internal_stringslite_HasPrefix.eq_2 a0 a1 n) := evS _ _ fun _ => rfl
theorem ev_internal_stringslite_CutPrefix {r} (a0 a1) : type_of% (evS (fun n => go_internal_stringslite_CutPrefix n a0 a1) r fun n => go_internal_stringslite_CutPrefix.eq_2 a0 a1 n) := evS _ _ fun _ => rfl
end Go.Proofs.YtagebdhlgnlcnaaGreatDoor


namespace Go.Proofs.YtagebdhlgnlcnaaGreatDoor
open Go Go.Ab
set_option linter.unusedVariables false
theorem ext_okw {α : Type} {x y : List α} (h : x.length + y.length ≤ 268435456) : ext x y = some (x ++ y) := by unfold ext; rw [if_pos (by simpa [roomB] using h)]
set_option linter.unusedSimpArgs false
def I64 (x : Int) : Prop := -9223372036854775808 ≤ x ∧ x ≤ 9223372036854775807
theorem ratio_size {x : Int} (h : I64 x) : Ev (fun n => go_ratio_size n x) (x.natAbs : Int) := by
 unfold I64 at h
 rw [ev_ratio_size]
 simp only [Ev.pif, Ev.some_iff, decide_eq_true_eq]
 split
 ·rw [wUn (x := x) (by omega), wUn (by omega)]; omega
 ·rw [wU (by omega)]; omega
theorem ratio_gcd0 : ∀ (b a : Nat), Ev (fun n => go_ratio_gcd_L0 n (b : Int) (a : Int)) (Nat.gcd a b : Int) := by
 intro b
 induction b using Nat.strongRecOn with
 | ind b ih =>
   intro a
   rw [ev_ratio_gcd_L0]
   by_cases hb : b = 0
   · subst hb
     simp [Ev.pif, Ev.some_iff]
   · have hm : rem .u64 (a : Int) (b : Int) = some ((a % b : Nat) : Int) := by
       unfold rem; rw [if_neg (by omega), Int.tmod_eq_emod_of_nonneg (by omega)]; simp
     rw [Ev.pif_t (by simpa using hb), Ev.opt_iff hm]
     have := ih (a % b) (Nat.mod_lt _ (by omega)) b
     rw [Nat.gcd_comm a b, Nat.gcd_rec b a, Nat.gcd_comm]
     exact this
theorem ratio_gcd {a b : Nat} : Ev (fun n => go_ratio_gcd n (a : Int) (b : Int)) (Nat.gcd a b : Int) := by
 rw [ev_ratio_gcd]; exact ratio_gcd0 b a
def rok (r : GRatio) : Bool := decide (1 ≤ r.den) && decide (r.den ≤ 1000000000) && decide (r.num.natAbs ≤ 1000000000) && (Nat.gcd r.num.natAbs r.den.natAbs == 1)
theorem rok_iff {r : GRatio} : rok r = true ↔ 1 ≤ r.den ∧ r.den ≤ 1000000000 ∧ r.num.natAbs ≤ 1000000000 ∧ Nat.gcd r.num.natAbs r.den.natAbs = 1 := by
 simp [rok, and_assoc]
theorem ratio_Check {r : GRatio} (h : I64 r.num) : Ev (fun n => go_ratio_Check n r) (if rok r then 0 else 8) := by
 have l0 : ∀ b, Ev (fun n => go_ratio_Check_L0 n b) (if b then 8 else 0) := fun b => by
  rw [ev_ratio_Check_L0]; cases b <;> simp [Ev.pif, Ev.some_iff]
 rw [ev_ratio_Check]
 simp only [Ev.pif, decide_eq_true_eq]
 split
 ·refine (l0 _).to ?_; rw [if_pos rfl, if_neg]; rw [rok_iff]; omega
 split
 ·refine (l0 _).to ?_; rw [if_pos rfl, if_neg]; rw [rok_iff]; omega
 rw [Ev.bind_iff (ratio_size h)]
 simp only [Ev.pif, decide_eq_true_eq]
 split
 ·refine (l0 _).to ?_; rw [if_pos rfl, if_neg]; rw [rok_iff]; omega
 rw [Ev.bind_iff (ratio_size h), wU (by omega)]
 have hd : r.den = (r.den.natAbs : Int) := by omega
 rw [hd, Ev.bind_iff ratio_gcd]
 refine (l0 _).to ?_
 have : ((((Nat.gcd r.num.natAbs r.den.natAbs : Nat) : Int) != 1) = true) ↔ ¬ rok r = true := by
  rw [rok_iff]
  simp only [bne_iff_ne, ne_eq]
  omega
 by_cases hr : rok r = true
 ·rw [if_neg (by rw [this]; simpa using hr), if_pos hr]
 ·rw [if_pos (by rw [this]; exact hr), if_neg hr]
theorem gcd_tmod (a b : Int) : Nat.gcd a.natAbs b.natAbs = Nat.gcd b.natAbs (a.tmod b).natAbs := by
 rw [Int.natAbs_tmod, Nat.gcd_comm a.natAbs, Nat.gcd_rec b.natAbs a.natAbs, Nat.gcd_comm]
theorem ref01_common0 : ∀ (m : Nat) (b a : Int), b.natAbs = m → I64 a → I64 b → ¬ a = -9223372036854775808 → ¬ b = -9223372036854775808 → Ev (fun n => go_ref01_common_L0 n b a) (Nat.gcd a.natAbs b.natAbs : Int) := by
 intro m
 induction m using Nat.strongRecOn with
 | ind m ih =>
   intro b a hm ha hb ha0 hb0
   unfold I64 at ha hb
   rw [ev_ref01_common_L0]
   by_cases h0 : b = 0
   · subst h0
     simp only [Ev.pif, Ev.some_iff, decide_eq_true_eq]
     rw [if_neg (by simp)]
     split
     · rw [wI (by omega)]; simp; omega
     · simp; omega
   · have hr : rem .i64 a b = some (a.tmod b) := by unfold rem; rw [if_neg h0]
     have h1 : (a.tmod b).natAbs < b.natAbs := by rw [Int.natAbs_tmod]; exact Nat.mod_lt _ (by omega)
     rw [Ev.pif_t (by simpa using h0), Ev.opt_iff hr]
     have := ih _ (by rw [← hm]; exact h1) (a.tmod b) b rfl hb (by unfold I64; omega) hb0 (by omega)
     rw [gcd_tmod a b]
     exact this
theorem ref01_common {a b : Int} (ha : I64 a) (hb : I64 b) (ha0 : ¬ a = -9223372036854775808) (hb0 : ¬ b = -9223372036854775808) : Ev (fun n => go_ref01_common n a b) (Nat.gcd a.natAbs b.natAbs : Int) := by
 rw [ev_ref01_common]; exact ref01_common0 _ b a rfl ha hb ha0 hb0
theorem ref01_Check {r : GRatio} : Ev (fun n => go_ref01_Check n r) (if rok r then 0 else 8) := by
 have l0 : ∀ b, Ev (fun n => go_ref01_Check_L0 n b) (if b then 8 else 0) := fun b => by
  rw [ev_ref01_Check_L0]; cases b <;> simp [Ev.pif, Ev.some_iff]
 rw [ev_ref01_Check]
 simp only [Ev.pif, decide_eq_true_eq]
 split
 ·refine (l0 _).to ?_; rw [if_pos rfl, if_neg]; rw [rok_iff]; omega
 split
 ·refine (l0 _).to ?_; rw [if_pos rfl, if_neg]; rw [rok_iff]; omega
 split
 ·refine (l0 _).to ?_; rw [if_pos rfl, if_neg]; rw [rok_iff]; omega
 split
 ·refine (l0 _).to ?_; rw [if_pos rfl, if_neg]; rw [rok_iff]; omega
 rw [Ev.bind_iff (ref01_common (by unfold I64; omega) (by unfold I64; omega) (by omega) (by omega))]
 refine (l0 _).to ?_
 have : ((((Nat.gcd r.num.natAbs r.den.natAbs : Nat) : Int) != 1) = true) ↔ ¬ rok r = true := by
  rw [rok_iff]
  simp only [bne_iff_ne, ne_eq]
  omega
 by_cases hr : rok r = true
 ·rw [if_neg (by rw [this]; simpa using hr), if_pos hr]
 ·rw [if_pos (by rw [this]; exact hr), if_neg hr]
theorem quo_nat {k : IntKind} {a b : Nat} (hk : ∀ c : Nat, c ≤ a → k.wrap (c : Int) = c) (hb : b ≠ 0) : quo k (a : Int) (b : Int) = some ((a / b : Nat) : Int) := by
 unfold quo
 rw [if_neg (by omega), Int.tdiv_eq_ediv_of_nonneg (by omega), ← Int.natCast_ediv, hk _ (Nat.div_le_self _ _)]
end Go.Proofs.YtagebdhlgnlcnaaGreatDoor


namespace Go.Proofs.YtagebdhlgnlcnaaGreatDoor
open Go Go.Ab
set_option linter.unusedVariables false
set_option linter.unusedSimpArgs false
def wfR (r : GRatio) : Prop := I64 r.num ∧ I64 r.den
def fdiv (a b : GRatio) : Int × Int := (a.num * b.den, a.den * b.num)
theorem rok_b {r : GRatio} (h : rok r = true) : (-1000000000 ≤ r.num ∧ r.num ≤ 1000000000) ∧ (-1000000000 ≤ r.den ∧ r.den ≤ 1000000000) ∧ 1 ≤ r.den := by
 rw [rok_iff] at h; omega
end Go.Proofs.YtagebdhlgnlcnaaGreatDoor


namespace Go.Proofs.YtagebdhlgnlcnaaGreatDoor
open Go Go.Ab
set_option linter.unusedVariables false
set_option linter.unusedSimpArgs false
theorem vind {P : GValue → Prop} (h : ∀ v : GValue, (∀ x, x ∈ v.list → P x) → P v) (v : GValue) : P v := h v fun x hx => vind h x
termination_by v
decreasing_by exact GValue.lt_list hx
mutual
def vparts : GValue → Nat
 | ⟨k, _, _, _, l⟩ => if k = 4 then 1 + vpartsL l else 1
def vpartsL : List GValue → Nat
 | [] => 0
 | x :: l => vparts x + vpartsL l
end
mutual
def vdeep : GValue → Nat
 | ⟨k, _, _, _, l⟩ => if k = 4 then max 1 (vdeepL l) else 1
def vdeepL : List GValue → Nat
 | [] => 0
 | x :: l => max (1 + vdeep x) (vdeepL l)
end
theorem vparts_eq (v : GValue) : vparts v = if v.kind = 4 then 1 + vpartsL v.list else 1 := by cases v; rw [vparts]
theorem vdeep_eq (v : GValue) : vdeep v = if v.kind = 4 then max 1 (vdeepL v.list) else 1 := by cases v; rw [vdeep]
theorem size_mem {l : List GValue} {x : GValue} (h : x ∈ l) : x.size ≤ (l.map GValue.size).sum := by
 induction l with
 | nil => cases h
 | cons y l ih =>
   rcases List.mem_cons.1 h with rfl | h
   · simp
   · have := ih h; simp; omega
theorem size_list (v : GValue) : (v.list.map GValue.size).sum + v.str.length + 4 ≤ v.size := by rw [GValue.size_eq]; omega
theorem size_in {v x : GValue} (h : x ∈ v.list) : x.size ≤ v.size := by have := size_mem h; have := size_list v; omega
theorem len_size (l : List GValue) : l.length ≤ (l.map GValue.size).sum := by
 induction l with
 | nil => simp
 | cons x l ih => have := size_list x; simp; omega
theorem vparts_le : ∀ v : GValue, vparts v ≤ v.size := vind fun v ih => by
 have : ∀ l : List GValue, (∀ x, x ∈ l → x ∈ v.list) → vpartsL l ≤ (l.map GValue.size).sum := fun l => by
  induction l with
  | nil => intro _; simp [vpartsL]
  | cons x l ihl =>
    intro hl
    have := ih x (hl x List.mem_cons_self)
    have := ihl fun y hy => hl y (List.mem_cons_of_mem _ hy)
    simp [vpartsL]; omega
 have := this v.list fun _ h => h
 have := size_list v
 rw [vparts_eq]; split <;> omega
theorem vdeep_le : ∀ v : GValue, vdeep v ≤ vparts v := vind fun v ih => by
 have : ∀ l : List GValue, (∀ x, x ∈ l → x ∈ v.list) → vdeepL l ≤ 1 + vpartsL l := fun l => by
  induction l with
  | nil => intro _; simp [vpartsL, vdeepL]
  | cons x l ihl =>
    intro hl
    have := ih x (hl x List.mem_cons_self)
    have := ihl fun y hy => hl y (List.mem_cons_of_mem _ hy)
    simp [vpartsL, vdeepL]; omega
 have := this v.list fun _ h => h
 rw [vparts_eq, vdeep_eq]; split <;> omega
theorem vpartsL_le (l : List GValue) : vpartsL l ≤ (l.map GValue.size).sum := by
 induction l with
 | nil => simp [vpartsL]
 | cons x l ih => have := vparts_le x; simp [vpartsL]; omega
theorem value_measure : ∀ v : GValue, v.size ≤ 8388608 → Ev (fun n => go_value_measure n v) ((vparts v : Int), (vdeep v : Int)) := vind fun v ih hs => by
 have l1 : ∀ d p, Ev (fun n => go_value_measure_L1 n d p) (p, d) := fun d p => by rw [ev_value_measure_L1, Ev.some_iff]
 have hsl := size_list v
 have hlen := len_size v.list
 have loop : ∀ k, k ≤ v.list.length → ∀ d p : Nat, p + vpartsL (v.list.drop k) ≤ 8388609 → d ≤ 8388609 → Ev (fun n => go_value_measure_L0 n (k : Int) (d : Int) (p : Int) v.list (v.list.length : Int)) (((p + vpartsL (v.list.drop k) : Nat) : Int), ((max d (vdeepL (v.list.drop k)) : Nat) : Int)) :=
  down (fun d p hp hd => by
   rw [ev_value_measure_L0, Ev.pif_f (by simp)]
   refine (l1 _ _).to ?_
   simp [vpartsL, vdeepL]) fun k hk ihk d p hp hd => by
   have hx := List.getElem_mem hk
   have hsx := size_in hx
   rw [← List.getElem_cons_drop (h := hk)] at hp ⊢
   simp only [vpartsL, vdeepL] at hp ⊢
   have hpl := vparts_le v.list[k]
   have hdl := vdeep_le v.list[k]
   rw [ev_value_measure_L0, Ev.pif_t (by simpa using hk), Ev.opt_iff (ix_lt hk), GValue.re_eq, Ev.bind_iff (ih _ hx (by omega)), wI (x := _ + 1) (by omega), wI (x := (vdeep _ : Int) + 1) (by omega), wI (x := (p : Int) + _) (by omega)]
   have e1 : (k : Int) + 1 = ((k + 1 : Nat) : Int) := by omega
   have e2 : (vdeep v.list[k] : Int) + 1 = ((1 + vdeep v.list[k] : Nat) : Int) := by omega
   have e3 : (p : Int) + (vparts v.list[k] : Int) = ((p + vparts v.list[k] : Nat) : Int) := by omega
   rw [e1, e2, e3, mxI_nat]
   refine (ihk (max d (1 + vdeep v.list[k])) (p + vparts v.list[k]) (by omega) (by omega)).to ?_
   congr 2 <;> omega
 rw [ev_value_measure]
 by_cases hk : v.kind = 4
 ·rw [Ev.pif_t (by simpa using hk)]
  have hv := vpartsL_le v.list
  have := loop 0 (Nat.zero_le _) 1 1 (by simp; omega) (by omega)
  refine this.to ?_
  rw [vparts_eq, vdeep_eq, if_pos hk, if_pos hk, List.drop_zero]
 ·rw [Ev.pif_f (by simpa using hk)]
  refine (l1 1 1).to ?_
  rw [vparts_eq, vdeep_eq, if_neg hk, if_neg hk]; rfl
theorem ref03_Parts : ∀ v : GValue, v.size ≤ 8388608 → Ev (fun n => go_ref03_Parts n v) (vparts v : Int) := vind fun v ih hs => by
 have hsl := size_list v
 have hlen := len_size v.list
 rw [ev_ref03_Parts, GValue.re_eq, vparts_eq]
 by_cases hk : v.kind = 4
 ·rw [if_pos hk]
  have hkk : (v.kind == 4) = true := by simpa using hk
  have loop : ∀ k, k ≤ v.list.length → ∀ p : Nat, p + vpartsL (v.list.drop k) ≤ 8388609 → Ev (fun n => go_ref03_Parts_L0 n (k : Int) (p : Int) v) ((p + vpartsL (v.list.drop k) : Nat) : Int) :=
   down (fun p hp => by
    rw [ev_ref03_Parts_L0, Ev.pif_f (by simp), ev_ref03_Parts_L1, Ev.pif_f (by rfl), Ev.some_iff]
    simp [vpartsL]) fun k hk ihk p hp => by
    have hx := List.getElem_mem hk
    have hsx := size_in hx
    rw [← List.getElem_cons_drop (h := hk)] at hp ⊢
    simp only [vpartsL] at hp ⊢
    have hpl := vparts_le v.list[k]
    rw [ev_ref03_Parts_L0, Ev.pif_t (by simpa using hk), hkk, GValue.re_eq, ev_ref03_Parts_L1, Ev.pif_t (by rfl), Ev.opt_iff (ix_lt hk), GValue.re_eq, Ev.bind_iff (ih _ hx (by omega)), wI (x := _ + 1) (by omega), wI (x := (p : Int) + _) (by omega)]
    have e1 : (k : Int) + 1 = ((k + 1 : Nat) : Int) := by omega
    have e3 : (p : Int) + (vparts v.list[k] : Int) = ((p + vparts v.list[k] : Nat) : Int) := by omega
    rw [e1, e3, GValue.re_eq]
    refine (ihk (p + vparts v.list[k]) (by omega)).to ?_
    congr 1; omega
  have hv := vpartsL_le v.list
  exact loop 0 (Nat.zero_le _) 1 (by simp; omega)
 ·rw [if_neg hk]
  have hkk : (v.kind == 4) = false := by simpa using hk
  have l1 : Ev (fun n => go_ref03_Parts_L1 n 0 1 false v) 1 := by rw [ev_ref03_Parts_L1, Ev.pif_f (by rfl), Ev.some_iff]
  rw [ev_ref03_Parts_L0, hkk, GValue.re_eq, Ev.pif]
  split <;> exact l1
theorem ref03_Deep : ∀ v : GValue, v.size ≤ 8388608 → Ev (fun n => go_ref03_Deep n v) (vdeep v : Int) := vind fun v ih hs => by
 have hsl := size_list v
 have hlen := len_size v.list
 rw [ev_ref03_Deep, GValue.re_eq, vdeep_eq]
 by_cases hk : v.kind = 4
 ·rw [if_pos hk]
  have hkk : (v.kind == 4) = true := by simpa using hk
  have loop : ∀ k, k ≤ v.list.length → ∀ p : Nat, p ≤ 8388609 → Ev (fun n => go_ref03_Deep_L0 n (k : Int) (p : Int) v) ((max p (vdeepL (v.list.drop k)) : Nat) : Int) :=
   down (fun p hp => by
    rw [ev_ref03_Deep_L0, Ev.pif_f (by simp), ev_ref03_Deep_L1, Ev.pif_f (by rfl), Ev.some_iff]
    simp [vdeepL]) fun k hk ihk p hp => by
    have hx := List.getElem_mem hk
    have hsx := size_in hx
    rw [← List.getElem_cons_drop (h := hk)]
    simp only [vdeepL]
    have hpl := vparts_le v.list[k]
    have hdl := vdeep_le v.list[k]
    rw [ev_ref03_Deep_L0, Ev.pif_t (by simpa using hk), hkk, GValue.re_eq, ev_ref03_Deep_L1, Ev.pif_t (by rfl), Ev.opt_iff (ix_lt hk), GValue.re_eq, Ev.bind_iff (ih _ hx (by omega)), wI (x := _ + 1) (by omega), wI (x := 1 + _) (by omega)]
    have e1 : (k : Int) + 1 = ((k + 1 : Nat) : Int) := by omega
    have e3 : 1 + (vdeep v.list[k] : Int) = ((1 + vdeep v.list[k] : Nat) : Int) := by omega
    rw [e1, e3, GValue.re_eq, mxI_nat]
    refine (ihk (max p (1 + vdeep v.list[k])) (by omega)).to ?_
    congr 1; omega
  exact loop 0 (Nat.zero_le _) 1 (by omega)
 ·rw [if_neg hk]
  have hkk : (v.kind == 4) = false := by simpa using hk
  have l1 : Ev (fun n => go_ref03_Deep_L1 n 0 1 false v) 1 := by rw [ev_ref03_Deep_L1, Ev.pif_f (by rfl), Ev.some_iff]
  rw [ev_ref03_Deep_L0, hkk, GValue.re_eq, Ev.pif]
  split <;> exact l1
end Go.Proofs.YtagebdhlgnlcnaaGreatDoor

