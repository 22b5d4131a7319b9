/-
  Go functions as Lean functions, by a program of this repo.
-/
import Derived.Test.YtfhpamcehnfhoaaGreatOwn0
namespace Go.Proofs.YtfhpamcehnfhoaaGreat
open Go Go.Ab
set_option linter.unusedVariables false
set_option maxRecDepth 100000
def go_cmp_Compare_int64 : Nat → Int → Int → Option Int
  | 0, _, _ => none
  | n + 1, a0, a1 => 
    (go_cmp_isNaN_int64 n a0).bind fun y0 =>
    (go_cmp_isNaN_int64 n a1).bind fun y1 =>
    pIf y0
      (pIf y1
        (some 0)
        (some (-1)))
      (pIf y1
        (some 1)
        (pIf (decide (a0 < a1))
          (some (-1))
          (pIf (decide (a0 > a1))
            (some 1)
            (some 0))))
def k_cmp_Compare_int64 : LSh := ⟨[(4, (.d (.int .i64)))], [], 0, 20⟩
noncomputable def I_cmp_Compare_int64 : FI dat := FI.of dat 150 20 0 [(.d (.int .i64)), (.d (.int .i64))] [] [(.d (.int .i64))] [] true k_cmp_Compare_int64 (R := Int) (fun x => x.1) (fun r => (r, ())) (fun n x => go_cmp_Compare_int64 n x.1 x.2.1)
  (fun n => []) (ann [] (Tryz.f150.body.getD .skip) 0).1
noncomputable def t_cmp_Compare_int64 : List (FI dat) := [I_cmp_isNaN_int64]
theorem g_cmp_Compare_int64 : (I_cmp_Compare_int64).Good Tryz.prog dat (tb t_cmp_Compare_int64) := FI.of_good (hD := dat_ok _) Tryz.func150 Tryz.ntmps150 Tryz.call150 (by kernel_rfl) (of_decide_eq_true (by kernel_rfl)) (by kernel_rfl) (fun n => by kernel_rfl) (fun x => by kernel_rfl) (fun _ => rfl) trivial
  (fun n => fun x => (go_cmp_Compare_int64.eq_2 x.1 x.2.1 n).trans (by kernel_rfl))
  (fun n => trivial)
  (fun x => .inl rfl)
theorem r_cmp_Compare_int64 : OkL Tryz.prog [I_cmp_Compare_int64] := one_ok (dat_ok _) (bs := [I_cmp_isNaN_int64]) ⟨ok_cmp_isNaN_int64, trivial⟩ g_cmp_Compare_int64
theorem ok_cmp_Compare_int64 : FOk Tryz.prog I_cmp_Compare_int64 := r_cmp_Compare_int64.1
def go_ratio_Cmp : Nat → GRatio → GRatio → Option (Int × Int)
  | 0, _, _ => none
  | n + 1, a0, a1 => 
    (go_ratio_with n a0 a1).bind fun y0 =>
    pIf (y0.e != 0)
      (some (0, y0.e))
      ((go_cmp_Compare_int64 n (IntKind.i64.wrap (a0.num * a1.den)) (IntKind.i64.wrap (a1.num * a0.den))).bind fun y1 =>
      some (y1, 0))
def k_ratio_Cmp : LSh := ⟨[(4, (.d (.int .i64))), (5, (.d (.int .i64)))], [], 0, 26⟩
noncomputable def I_ratio_Cmp : FI dat := FI.of dat 147 26 0 [(.d (.st 0)), (.d (.st 0))] [] [(.d (.int .i64)), (.d (.int .i64))] [] true k_ratio_Cmp (R := Int × Int) (fun x => (x.1, x.2.1)) (fun r => (r.1, r.2, ())) (fun n x => go_ratio_Cmp n x.1 x.2.1)
  (fun n => []) (ann [] (Tryz.f147.body.getD .skip) 0).1
noncomputable def t_ratio_Cmp : List (FI dat) := [I_ratio_with, I_cmp_Compare_int64]
theorem g_ratio_Cmp : (I_ratio_Cmp).Good Tryz.prog dat (tb t_ratio_Cmp) := FI.of_good (hD := dat_ok _) Tryz.func147 Tryz.ntmps147 Tryz.call147 (by kernel_rfl) (of_decide_eq_true (by kernel_rfl)) (by kernel_rfl) (fun n => by kernel_rfl) (fun x => by kernel_rfl) (fun _ => rfl) trivial
  (fun n => fun x => (go_ratio_Cmp.eq_2 x.1 x.2.1 n).trans (by kernel_rfl))
  (fun n => trivial)
  (fun x => .inl rfl)
theorem r_ratio_Cmp : OkL Tryz.prog [I_ratio_Cmp] := one_ok (dat_ok _) (bs := [I_ratio_with, I_cmp_Compare_int64]) ⟨ok_ratio_with, ok_cmp_Compare_int64, trivial⟩ g_ratio_Cmp
theorem ok_ratio_Cmp : FOk Tryz.prog I_ratio_Cmp := r_ratio_Cmp.1
def go_strings_Compare : Nat → (List UInt8) → (List UInt8) → Option Int
  | 0, _, _ => none
  | n + 1, a0, a1 => 
    (go_internal_bytealg_CompareString n a0 a1).bind fun y0 =>
    some y0
def k_strings_Compare : LSh := ⟨[(4, (.d (.int .i64)))], [], 0, 8⟩
noncomputable def I_strings_Compare : FI dat := FI.of dat 148 8 0 [(.d .str), (.d .str)] [] [(.d (.int .i64))] [] true k_strings_Compare (R := Int) (fun x => x.1) (fun r => (r, ())) (fun n x => go_strings_Compare n x.1 x.2.1)
  (fun n => []) (ann [] (Tryz.f148.body.getD .skip) 0).1
noncomputable def t_strings_Compare : List (FI dat) := [I_internal_bytealg_CompareString]
theorem g_strings_Compare : (I_strings_Compare).Good Tryz.prog dat (tb t_strings_Compare) := FI.of_good (hD := dat_ok _) Tryz.func148 Tryz.ntmps148 Tryz.call148 (by kernel_rfl) (of_decide_eq_true (by kernel_rfl)) (by kernel_rfl) (fun n => by kernel_rfl) (fun x => by kernel_rfl) (fun _ => rfl) trivial
  (fun n => fun x => (go_strings_Compare.eq_2 x.1 x.2.1 n).trans (by kernel_rfl))
  (fun n => trivial)
  (fun x => .inl rfl)
theorem r_strings_Compare : OkL Tryz.prog [I_strings_Compare] := one_ok (dat_ok _) (bs := [I_internal_bytealg_CompareString]) ⟨ok_internal_bytealg_CompareString, trivial⟩ g_strings_Compare
theorem ok_strings_Compare : FOk Tryz.prog I_strings_Compare := r_strings_Compare.1
mutual
def go_value_order : Nat → GValue → GValue → Option (Int × Int)
  | 0, _, _ => none
  | n + 1, a0, a1 => 
    pIf (a0.kind != a1.kind)
      (some (0, 20))
      (pIf (a0.kind == 1)
        ((go_ratio_Cmp n a0.num a1.num).bind fun y0 =>
        some (y0.1, y0.2))
        (pIf (a0.kind == 2)
          (pIf (a0.truth == a1.truth)
            (some (0, 0))
            (pIf a0.truth
              (some (1, 0))
              (some ((-1), 0))))
          (pIf (a0.kind == 3)
            ((go_strings_Compare n a0.str a1.str).bind fun y1 =>
            some (y1, 0))
            (go_value_order_L0 n 0 a0.list (a0.list.length : Int) a1.re a0.re))))
def go_value_order_L0 : Nat → Int → (List GValue) → Int → GValue → GValue → Option (Int × Int)
  | 0, _, _, _, _, _ => none
  | n + 1, a0, a1, a2, a3, a4 => 
    pIf (decide (a0 < a2))
      ((ix a1 a0).bind fun x2 =>
      pIf (a0 == (a3.list.length : Int))
        (some (1, 0))
        ((ix a3.list a0).bind fun x3 =>
        (go_value_Same n x2.re x3.re).bind fun y4 =>
        pIf (!y4)
          ((ix a3.list a0).bind fun x5 =>
          (go_value_order n x2.re x5.re).bind fun y6 =>
          some (y6.1, y6.2))
          (go_value_order_L0 n (IntKind.i64.wrap (a0 + 1)) a1 a2 a3.re a4.re)))
      (pIf (decide ((a4.list.length : Int) < (a3.list.length : Int)))
        (some ((-1), 0))
        (some (0, 0)))
end
def k_value_order : LSh := ⟨[(4, (.d (.int .i64))), (5, (.d (.int .i64)))], [], 0, 80⟩
noncomputable def I_value_order : FI dat := FI.of dat 139 80 0 [(.d (.st 1)), (.d (.st 1))] [] [(.d (.int .i64)), (.d (.int .i64))] [] true k_value_order (R := Int × Int) (fun x => (x.1, x.2.1)) (fun r => (r.1, r.2, ())) (fun n x => go_value_order n x.1 x.2.1)
  (fun n => [(0, ⟨⟨[(3, (.ptr 0 0)), (45, (.d (.int .i64))), (43, (.d (.sl (.st 1)))), (2, (.ptr 1 0)), (44, (.d (.int .i64)))], [(.st 1), (.st 1)], 0, 80⟩, fun x => go_value_order_L0 n x.1 x.2.1 x.2.2.1 x.2.2.2.1 x.2.2.2.2.1⟩)]) (ann [(52, 0)] (Tryz.f139.body.getD .skip) 0).1
noncomputable def t_value_order : List (FI dat) := [I_value_order] ++ [I_ratio_Cmp, I_strings_Compare, I_value_Same]
theorem g_value_order : (I_value_order).Good Tryz.prog dat (tb t_value_order) := FI.of_good (hD := dat_ok _) Tryz.func139 Tryz.ntmps139 Tryz.call139 (by kernel_rfl) (of_decide_eq_true (by kernel_rfl)) (by kernel_rfl) (fun n => by kernel_rfl) (fun x => by kernel_rfl) (fun _ => rfl) ⟨fun _ => rfl, trivial⟩
  (fun n => fun x => (go_value_order.eq_2 x.1 x.2.1 n).trans (by kernel_rfl))
  (fun n => ⟨fun x => (go_value_order_L0.eq_2 x.1 x.2.1 x.2.2.1 x.2.2.2.1 x.2.2.2.2.1 n).trans (by kernel_rfl),
    trivial⟩)
  (fun x => .inl rfl)
theorem r_value_order : OkL Tryz.prog [I_value_order] := ring_ok (dat_ok _) (bs := [I_ratio_Cmp, I_strings_Compare, I_value_Same]) ⟨ok_ratio_Cmp, ok_strings_Compare, ok_value_Same, trivial⟩ ⟨g_value_order, trivial⟩
theorem ok_value_order : FOk Tryz.prog I_value_order := r_value_order.1
def go_value_Compare : Nat → GValue → GValue → Option (Int × Int)
  | 0, _, _ => none
  | n + 1, a0, a1 => 
    (go_value_both n a0.re a1.re).bind fun y0 =>
    pIf (y0 != 0)
      (some (0, y0))
      ((go_value_order n a0.re a1.re).bind fun y1 =>
      some (y1.1, y1.2))
def k_value_Compare : LSh := ⟨[(4, (.d (.int .i64))), (5, (.d (.int .i64)))], [], 0, 18⟩
noncomputable def I_value_Compare : FI dat := FI.of dat 115 18 0 [(.d (.st 1)), (.d (.st 1))] [] [(.d (.int .i64)), (.d (.int .i64))] [] true k_value_Compare (R := Int × Int) (fun x => (x.1, x.2.1)) (fun r => (r.1, r.2, ())) (fun n x => go_value_Compare n x.1 x.2.1)
  (fun n => []) (ann [] (Tryz.f115.body.getD .skip) 0).1
noncomputable def t_value_Compare : List (FI dat) := [I_value_both, I_value_order]
theorem g_value_Compare : (I_value_Compare).Good Tryz.prog dat (tb t_value_Compare) := FI.of_good (hD := dat_ok _) Tryz.func115 Tryz.ntmps115 Tryz.call115 (by kernel_rfl) (of_decide_eq_true (by kernel_rfl)) (by kernel_rfl) (fun n => by kernel_rfl) (fun x => by kernel_rfl) (fun _ => rfl) trivial
  (fun n => fun x => (go_value_Compare.eq_2 x.1 x.2.1 n).trans (by kernel_rfl))
  (fun n => trivial)
  (fun x => .inl rfl)
theorem r_value_Compare : OkL Tryz.prog [I_value_Compare] := one_ok (dat_ok _) (bs := [I_value_both, I_value_order]) ⟨ok_value_both, ok_value_order, trivial⟩ g_value_Compare
theorem ok_value_Compare : FOk Tryz.prog I_value_Compare := r_value_Compare.1
mutual
def go_ratio_floor : Nat → Int → Int → Option Int
  | 0, _, _ => none
  | n + 1, a0, a1 => 
    (quo .i64 a0 a1).bind fun x0 =>
    (rem .i64 a0 a1).bind fun x1 =>
    pIf (decide (x1 < 0))
      (go_ratio_floor_L0 n (IntKind.i64.wrap (x0 - 1)))
      (go_ratio_floor_L0 n x0)
def go_ratio_floor_L0 : Nat → Int → Option Int
  | 0, _ => none
  | n + 1, a0 => 
    some a0
end
def k_ratio_floor : LSh := ⟨[(4, (.d (.int .i64)))], [], 0, 16⟩
noncomputable def I_ratio_floor : FI dat := FI.of dat 140 16 0 [(.d (.int .i64)), (.d (.int .i64))] [] [(.d (.int .i64))] [] true k_ratio_floor (R := Int) (fun x => x.1) (fun r => (r, ())) (fun n x => go_ratio_floor n x.1 x.2.1)
  (fun n => [(0, ⟨⟨[(5, (.d (.int .i64)))], [], 0, 16⟩, fun x => go_ratio_floor_L0 n x.1⟩)]) (ann [(10, 0)] (Tryz.f140.body.getD .skip) 0).1
noncomputable def t_ratio_floor : List (FI dat) := []
theorem g_ratio_floor : (I_ratio_floor).Good Tryz.prog dat (tb t_ratio_floor) := FI.of_good (hD := dat_ok _) Tryz.func140 Tryz.ntmps140 Tryz.call140 (by kernel_rfl) (of_decide_eq_true (by kernel_rfl)) (by kernel_rfl) (fun n => by kernel_rfl) (fun x => by kernel_rfl) (fun _ => rfl) ⟨fun _ => rfl, trivial⟩
  (fun n => fun x => (go_ratio_floor.eq_2 x.1 x.2.1 n).trans (by kernel_rfl))
  (fun n => ⟨fun x => (go_ratio_floor_L0.eq_2 x.1 n).trans (by kernel_rfl),
    trivial⟩)
  (fun x => .inl rfl)
theorem r_ratio_floor : OkL Tryz.prog [I_ratio_floor] := one_ok (dat_ok _) (bs := []) trivial g_ratio_floor
theorem ok_ratio_floor : FOk Tryz.prog I_ratio_floor := r_ratio_floor.1
def go_ratio_Floor : Nat → GRatio → Option (Int × Int)
  | 0, _ => none
  | n + 1, a0 => 
    (go_ratio_Check n a0).bind fun y0 =>
    pIf (y0 != 0)
      (some (0, y0))
      ((go_ratio_floor n a0.num a0.den).bind fun y1 =>
      some (y1, 0))
def k_ratio_Floor : LSh := ⟨[(2, (.d (.int .i64))), (3, (.d (.int .i64)))], [], 0, 15⟩
noncomputable def I_ratio_Floor : FI dat := FI.of dat 116 15 0 [(.d (.st 0))] [] [(.d (.int .i64)), (.d (.int .i64))] [] true k_ratio_Floor (R := Int × Int) (fun x => (x.1, x.2.1)) (fun r => (r.1, r.2, ())) (fun n x => go_ratio_Floor n x.1)
  (fun n => []) (ann [] (Tryz.f116.body.getD .skip) 0).1
noncomputable def t_ratio_Floor : List (FI dat) := [I_ratio_Check, I_ratio_floor]
theorem g_ratio_Floor : (I_ratio_Floor).Good Tryz.prog dat (tb t_ratio_Floor) := FI.of_good (hD := dat_ok _) Tryz.func116 Tryz.ntmps116 Tryz.call116 (by kernel_rfl) (of_decide_eq_true (by kernel_rfl)) (by kernel_rfl) (fun n => by kernel_rfl) (fun x => by kernel_rfl) (fun _ => rfl) trivial
  (fun n => fun x => (go_ratio_Floor.eq_2 x.1 n).trans (by kernel_rfl))
  (fun n => trivial)
  (fun x => .inl rfl)
theorem r_ratio_Floor : OkL Tryz.prog [I_ratio_Floor] := one_ok (dat_ok _) (bs := [I_ratio_Check, I_ratio_floor]) ⟨ok_ratio_Check, ok_ratio_floor, trivial⟩ g_ratio_Floor
theorem ok_ratio_Floor : FOk Tryz.prog I_ratio_Floor := r_ratio_Floor.1
def go_value_Len : Nat → GValue → Option (Int × Int)
  | 0, _ => none
  | n + 1, a0 => 
    (go_value_Check n a0.re).bind fun y0 =>
    pIf (y0 != 0)
      (some (0, y0))
      (pIf (a0.kind == 3)
        (some ((a0.str.length : Int), 0))
        (pIf (a0.kind == 4)
          (some ((a0.list.length : Int), 0))
          (some (0, 20))))
def k_value_Len : LSh := ⟨[(2, (.d (.int .i64))), (3, (.d (.int .i64)))], [], 0, 22⟩
noncomputable def I_value_Len : FI dat := FI.of dat 118 22 0 [(.d (.st 1))] [] [(.d (.int .i64)), (.d (.int .i64))] [] true k_value_Len (R := Int × Int) (fun x => (x.1, x.2.1)) (fun r => (r.1, r.2, ())) (fun n x => go_value_Len n x.1)
  (fun n => []) (ann [] (Tryz.f118.body.getD .skip) 0).1
noncomputable def t_value_Len : List (FI dat) := [I_value_Check]
theorem g_value_Len : (I_value_Len).Good Tryz.prog dat (tb t_value_Len) := FI.of_good (hD := dat_ok _) Tryz.func118 Tryz.ntmps118 Tryz.call118 (by kernel_rfl) (of_decide_eq_true (by kernel_rfl)) (by kernel_rfl) (fun n => by kernel_rfl) (fun x => by kernel_rfl) (fun _ => rfl) trivial
  (fun n => fun x => (go_value_Len.eq_2 x.1 n).trans (by kernel_rfl))
  (fun n => trivial)
  (fun x => .inl rfl)
theorem r_value_Len : OkL Tryz.prog [I_value_Len] := one_ok (dat_ok _) (bs := [I_value_Check]) ⟨ok_value_Check, trivial⟩ g_value_Len
theorem ok_value_Len : FOk Tryz.prog I_value_Len := r_value_Len.1
def go_value_Twin : Nat → GValue → Option GValue
  | 0, _ => none
  | n + 1, a0 => 
    (go_value_Twin_1 n a0.re).bind fun y0 =>
    some y0.re
def k_value_Twin : LSh := ⟨[(2, (.ptr 0 0))], [(.st 1)], 0, 8⟩
noncomputable def I_value_Twin : FI dat := FI.of dat 40 8 0 [(.d (.st 1))] [] [(.d (.st 1))] [] true k_value_Twin (R := GValue) (fun x => x.1) (fun r => (r, ())) (fun n x => go_value_Twin n x.1)
  (fun n => []) (ann [] (Tryz.f40.body.getD .skip) 0).1
noncomputable def t_value_Twin : List (FI dat) := [I_value_Twin_1]
theorem g_value_Twin : (I_value_Twin).Good Tryz.prog dat (tb t_value_Twin) := FI.of_good (hD := dat_ok _) Tryz.func40 Tryz.ntmps40 Tryz.call40 (by kernel_rfl) (of_decide_eq_true (by kernel_rfl)) (by kernel_rfl) (fun n => by kernel_rfl) (fun x => by kernel_rfl) (fun _ => rfl) trivial
  (fun n => fun x => (go_value_Twin.eq_2 x.1 n).trans (by kernel_rfl))
  (fun n => trivial)
  (fun x => .inl rfl)
theorem r_value_Twin : OkL Tryz.prog [I_value_Twin] := one_ok (dat_ok _) (bs := [I_value_Twin_1]) ⟨ok_value_Twin_1, trivial⟩ g_value_Twin
theorem ok_value_Twin : FOk Tryz.prog I_value_Twin := r_value_Twin.1
end Go.Proofs.YtfhpamcehnfhoaaGreat

namespace Go.Proofs.YtfhpamcehnfhoaaGreat
open Go Go.Ab
set_option linter.unusedVariables false
set_option maxRecDepth 100000
mutual
def go_value_At : Nat → GValue → Int → Option (Int × GValue)
  | 0, _, _ => none
  | n + 1, a0, a1 => 
    (go_value_Len n a0.re).bind fun y0 =>
    pIf (y0.2 != 0)
      (some (y0.2, (GValue.mk 0 (GRatio.mk 0 0) false [] [])))
      (pIf (decide (a1 < 0))
        (go_value_At_L0 n a1 true (GValue.mk 0 (GRatio.mk 0 0) false [] []) a0.re)
        (go_value_At_L0 n a1 (decide (a1 ≥ y0.1)) (GValue.mk 0 (GRatio.mk 0 0) false [] []) a0.re))
def go_value_At_L0 : Nat → Int → Bool → GValue → GValue → Option (Int × GValue)
  | 0, _, _, _, _ => none
  | n + 1, a0, a1, a2, a3 => 
    pIf a1
      (some (2, (GValue.mk 0 (GRatio.mk 0 0) false [] [])))
      (pIf (a3.kind == 4)
        ((ix a3.list a0).bind fun x1 =>
        (go_value_Twin n x1.re).bind fun y2 =>
        some (0, y2.re))
        ((sub a3.str a0 (IntKind.i64.wrap (a0 + 1))).bind fun x3 =>
        some (0, (GValue.mk 3 (GRatio.mk 0 0) false x3 []))))
end
def k_value_At : LSh := ⟨[(4, (.ptr 0 0)), (5, (.d (.int .i64)))], [(.st 1)], 0, 41⟩
noncomputable def I_value_At : FI dat := FI.of dat 119 41 0 [(.d (.st 1)), (.d (.int .i64))] [] [(.d (.st 1)), (.d (.int .i64))] [] true k_value_At (R := Int × GValue) (fun x => (x.1, x.2.1)) (fun r => (r.2, r.1, ())) (fun n x => go_value_At n x.1 x.2.1)
  (fun n => [(0, ⟨⟨[(4, (.ptr 0 0)), (1, (.d (.int .i64))), (2, (.ptr 1 0)), (23, (.d .bool))], [(.st 1), (.st 1)], 0, 41⟩, fun x => go_value_At_L0 n x.1 x.2.1 x.2.2.1 x.2.2.2.1⟩)]) (ann [(15, 0)] (Tryz.f119.body.getD .skip) 0).1
noncomputable def t_value_At : List (FI dat) := [I_value_Len, I_value_Twin]
theorem g_value_At : (I_value_At).Good Tryz.prog dat (tb t_value_At) := FI.of_good (hD := dat_ok _) Tryz.func119 Tryz.ntmps119 Tryz.call119 (by kernel_rfl) (of_decide_eq_true (by kernel_rfl)) (by kernel_rfl) (fun n => by kernel_rfl) (fun x => by kernel_rfl) (fun _ => rfl) ⟨fun _ => rfl, trivial⟩
  (fun n => fun x => (go_value_At.eq_2 x.1 x.2.1 n).trans (by kernel_rfl))
  (fun n => ⟨fun x => (go_value_At_L0.eq_2 x.1 x.2.1 x.2.2.1 x.2.2.2.1 n).trans (by kernel_rfl),
    trivial⟩)
  (fun x => .inl rfl)
theorem r_value_At : OkL Tryz.prog [I_value_At] := one_ok (dat_ok _) (bs := [I_value_Len, I_value_Twin]) ⟨ok_value_Len, ok_value_Twin, trivial⟩ g_value_At
theorem ok_value_At : FOk Tryz.prog I_value_At := r_value_At.1
mutual
def go_expr_apply : Nat → Int → (List GValue) → Option (Res (Int × Unit) GValue)
  | 0, _, _ => none
  | n + 1, a0, a1 => 
    pIf (a0 == 3)
      ((ix a1 0).bind fun x0 =>
      (ix a1 1).bind fun x1 =>
      (go_value_Add n x0.re x1.re).bind fun y2 =>
      (go_expr_must n y2.1).bind fun y3 =>
      pRes y3 (fun r4 =>
        some (Res.ok y2.2.re))
        (fun e5 =>
        some (Res.pan (e5.1, ()))))
      (pIf (a0 == 4)
        ((go_expr_kind n 1 a1).bind fun y6 =>
        pRes y6 (fun r7 =>
          (ix a1 0).bind fun x8 =>
          (ix a1 1).bind fun x9 =>
          (go_ratio_Sub n x8.num x9.num).bind fun y10 =>
          (go_expr_number n y10.2 y10.1).bind fun y11 =>
          pRes y11 (fun r12 =>
            some (Res.ok r12.re))
            (fun e13 =>
            some (Res.pan (e13.1, ()))))
          (fun e14 =>
          some (Res.pan (e14.1, ()))))
        (pIf (a0 == 5)
          ((go_expr_kind n 1 a1).bind fun y15 =>
          pRes y15 (fun r16 =>
            (ix a1 0).bind fun x17 =>
            (ix a1 1).bind fun x18 =>
            (go_ratio_Mul n x17.num x18.num).bind fun y19 =>
            (go_expr_number n y19.2 y19.1).bind fun y20 =>
            pRes y20 (fun r21 =>
              some (Res.ok r21.re))
              (fun e22 =>
              some (Res.pan (e22.1, ()))))
            (fun e23 =>
            some (Res.pan (e23.1, ()))))
          (pIf (a0 == 6)
            ((go_expr_kind n 1 a1).bind fun y24 =>
            pRes y24 (fun r25 =>
              (ix a1 0).bind fun x26 =>
              (ix a1 1).bind fun x27 =>
              (go_ratio_Div n x26.num x27.num).bind fun y28 =>
              (go_expr_number n y28.2 y28.1).bind fun y29 =>
              pRes y29 (fun r30 =>
                some (Res.ok r30.re))
                (fun e31 =>
                some (Res.pan (e31.1, ()))))
              (fun e32 =>
              some (Res.pan (e32.1, ()))))
            (pIf (a0 == 8)
              ((ix a1 0).bind fun x33 =>
              (ix a1 1).bind fun x34 =>
              (go_value_Same n x33.re x34.re).bind fun y35 =>
              (go_expr_truth n y35).bind fun y36 =>
              some (Res.ok y36.re))
              (pIf (a0 == 7)
                (go_expr_apply_L0 n a1 a0 a0 true (GValue.mk 0 (GRatio.mk 0 0) false [] []))
                (pIf (a0 == 13)
                  (go_expr_apply_L0 n a1 a0 a0 true (GValue.mk 0 (GRatio.mk 0 0) false [] []))
                  (go_expr_apply_L0 n a1 a0 a0 (a0 == 14) (GValue.mk 0 (GRatio.mk 0 0) false [] []))))))))
def go_expr_apply_L0 : Nat → (List GValue) → Int → Int → Bool → GValue → Option (Res (Int × Unit) GValue)
  | 0, _, _, _, _, _ => none
  | n + 1, a0, a1, a2, a3, a4 => 
    pIf a3
      ((ix a0 0).bind fun x37 =>
      (ix a0 1).bind fun x38 =>
      (go_value_Compare n x37.re x38.re).bind fun y39 =>
      (go_expr_must n y39.2).bind fun y40 =>
      pRes y40 (fun r41 =>
        pIf (a1 == 7)
          ((go_expr_truth n (decide (y39.1 < 0))).bind fun y42 =>
          some (Res.ok y42.re))
          (pIf ((a1 == 13) == (decide (y39.1 ≤ 0)))
            (go_expr_apply_L1 n a0 true a4.re)
            (go_expr_apply_L1 n a0 (y39.1 == 0) a4.re)))
        (fun e43 =>
        some (Res.pan (e43.1, ()))))
      (pIf (a2 == 9)
        ((go_expr_kind n 2 a0).bind fun y44 =>
        pRes y44 (fun r45 =>
          (ix a0 0).bind fun x46 =>
          pIf x46.truth
            ((ix a0 1).bind fun x47 =>
            (go_expr_truth n x47.truth).bind fun y48 =>
            some (Res.ok y48.re))
            ((go_expr_truth n false).bind fun y49 =>
            some (Res.ok y49.re)))
          (fun e50 =>
          some (Res.pan (e50.1, ()))))
        (pIf (a2 == 10)
          ((go_expr_kind n 2 a0).bind fun y51 =>
          pRes y51 (fun r52 =>
            (ix a0 0).bind fun x53 =>
            pIf x53.truth
              ((go_expr_truth n true).bind fun y54 =>
              some (Res.ok y54.re))
              ((ix a0 1).bind fun x55 =>
              (go_expr_truth n x55.truth).bind fun y56 =>
              some (Res.ok y56.re)))
            (fun e57 =>
            some (Res.pan (e57.1, ()))))
          (pIf (a2 == 11)
            ((go_expr_kind n 2 a0).bind fun y58 =>
            pRes y58 (fun r59 =>
              (ix a0 0).bind fun x60 =>
              (go_expr_truth n (!x60.truth)).bind fun y61 =>
              some (Res.ok y61.re))
              (fun e62 =>
              some (Res.pan (e62.1, ()))))
            (pIf (a2 == 15)
              ((go_expr_kind n 1 a0).bind fun y63 =>
              pRes y63 (fun r64 =>
                (ix a0 0).bind fun x65 =>
                (go_ratio_Floor n x65.num).bind fun y66 =>
                (go_ratio_Make n y66.1 1).bind fun y67 =>
                (go_expr_number n y67.2 y67.1).bind fun y68 =>
                pRes y68 (fun r69 =>
                  some (Res.ok r69.re))
                  (fun e70 =>
                  some (Res.pan (e70.1, ()))))
                (fun e71 =>
                some (Res.pan (e71.1, ()))))
              (pIf (a2 == 16)
                ((ix a0 0).bind fun x72 =>
                (go_value_Len n x72.re).bind fun y73 =>
                (go_expr_must n y73.2).bind fun y74 =>
                pRes y74 (fun r75 =>
                  (go_ratio_Make n y73.1 1).bind fun y76 =>
                  (go_expr_number n y76.2 y76.1).bind fun y77 =>
                  pRes y77 (fun r78 =>
                    some (Res.ok r78.re))
                    (fun e79 =>
                    some (Res.pan (e79.1, ()))))
                  (fun e80 =>
                  some (Res.pan (e80.1, ()))))
                (pIf (a2 == 17)
                  ((ix a0 0).bind fun x81 =>
                  (go_value_Len n x81.re).bind fun y82 =>
                  (go_expr_must n y82.2).bind fun y83 =>
                  pRes y83 (fun r84 =>
                    (ix a0 1).bind fun x85 =>
                    (go_expr_kind n 1 [x85.re]).bind fun y86 =>
                    pRes y86 (fun r87 =>
                      (ix a0 1).bind fun x88 =>
                      pIf (x88.num.den != 1)
                        ((go_expr_must n 2).bind fun y89 =>
                        pRes y89 (fun r90 =>
                          go_expr_apply_L2 n a0 a4.re)
                          (fun e91 =>
                          some (Res.pan (e91.1, ()))))
                        (go_expr_apply_L2 n a0 a4.re))
                      (fun e92 =>
                      some (Res.pan (e92.1, ()))))
                    (fun e93 =>
                    some (Res.pan (e93.1, ()))))
                  ((go_value_Check n (GValue.mk 4 (GRatio.mk 0 0) false [] a0)).bind fun y94 =>
                  (go_expr_must n y94).bind fun y95 =>
                  pRes y95 (fun r96 =>
                    some (Res.ok (GValue.mk 4 (GRatio.mk 0 0) false [] a0)))
                    (fun e97 =>
                    some (Res.pan (e97.1, ()))))))))))
def go_expr_apply_L1 : Nat → (List GValue) → Bool → GValue → Option (Res (Int × Unit) GValue)
  | 0, _, _, _ => none
  | n + 1, a0, a1, a2 => 
    pIf a1
      ((ix a0 0).bind fun x98 =>
      some (Res.ok x98.re))
      ((ix a0 1).bind fun x99 =>
      some (Res.ok x99.re))
def go_expr_apply_L2 : Nat → (List GValue) → GValue → Option (Res (Int × Unit) GValue)
  | 0, _, _ => none
  | n + 1, a0, a1 => 
    (ix a0 0).bind fun x100 =>
    (ix a0 1).bind fun x101 =>
    (go_value_At n x100.re x101.num.num).bind fun y102 =>
    (go_expr_must n y102.1).bind fun y103 =>
    pRes y103 (fun r104 =>
      some (Res.ok y102.2.re))
      (fun e105 =>
      some (Res.pan (e105.1, ())))
end
def k_expr_apply : LSh := ⟨[(4, (.ptr 0 0))], [(.st 1)], 0, 246⟩
noncomputable def I_expr_apply : FI dat := FI.ofP dat 81 246 0 [(.d (.int .u8)), (.d (.sl (.st 1)))] [] [(.d (.st 1))] [(.st 1)] (.iface 33 (.d (.int .i64))) [] [] k_expr_apply (R := GValue) (fun x => x.1) (fun r => (r, r, ())) (fun n x => go_expr_apply n x.1 x.2.1)
  (fun n => [(0, ⟨⟨[(4, (.ptr 0 0)), (1, (.d (.sl (.st 1)))), (0, (.d (.int .u8))), (17, (.d (.int .u8))), (91, (.d .bool))], [(.st 1)], 0, 246⟩, fun x => go_expr_apply_L0 n x.1 x.2.1 x.2.2.1 x.2.2.2.1 x.2.2.2.2.1⟩), (1, ⟨⟨[(4, (.ptr 0 0)), (1, (.d (.sl (.st 1)))), (113, (.d .bool))], [(.st 1)], 0, 246⟩, fun x => go_expr_apply_L1 n x.1 x.2.1 x.2.2.1⟩), (2, ⟨⟨[(4, (.ptr 0 0)), (1, (.d (.sl (.st 1))))], [(.st 1)], 0, 246⟩, fun x => go_expr_apply_L2 n x.1 x.2.1⟩)]) (ann [(56, 0), (71, 1), (138, 2)] (Tryz.f81.body.getD .skip) 0).1
noncomputable def t_expr_apply : List (FI dat) := [I_value_Add, I_expr_must, I_expr_kind, I_ratio_Sub, I_expr_number, I_ratio_Mul, I_ratio_Div, I_value_Same, I_expr_truth, I_value_Compare, I_ratio_Floor, I_ratio_Make, I_value_Len, I_value_Check, I_value_At]
theorem g_expr_apply : (I_expr_apply).Good Tryz.prog dat (tb t_expr_apply) := FI.ofP_good (hD := dat_ok _) Tryz.func81 Tryz.ntmps81 Tryz.call81 (by kernel_rfl) (of_decide_eq_true (by kernel_rfl)) (by kernel_rfl) (fun n => by kernel_rfl) trivial (fun x => by kernel_rfl) (fun _ => rfl) ⟨fun _ => rfl, fun _ => rfl, fun _ => rfl, trivial⟩
  (fun n => fun x => (go_expr_apply.eq_2 x.1 x.2.1 n).trans (by kernel_rfl))
  (fun n => ⟨fun x => (go_expr_apply_L0.eq_2 x.1 x.2.1 x.2.2.1 x.2.2.2.1 x.2.2.2.2.1 n).trans (by kernel_rfl),
    fun x => (go_expr_apply_L1.eq_2 x.1 x.2.1 x.2.2.1 n).trans (by kernel_rfl),
    fun x => (go_expr_apply_L2.eq_2 x.1 x.2.1 n).trans (by kernel_rfl),
    trivial⟩)
  (fun x => by kernel_rfl)
theorem r_expr_apply : OkL Tryz.prog [I_expr_apply] := one_ok (dat_ok _) (bs := [I_value_Add, I_expr_must, I_expr_kind, I_ratio_Sub, I_expr_number, I_ratio_Mul, I_ratio_Div, I_value_Same, I_expr_truth, I_value_Compare, I_ratio_Floor, I_ratio_Make, I_value_Len, I_value_Check, I_value_At]) ⟨ok_value_Add, ok_expr_must, ok_expr_kind, ok_ratio_Sub, ok_expr_number, ok_ratio_Mul, ok_ratio_Div, ok_value_Same, ok_expr_truth, ok_value_Compare, ok_ratio_Floor, ok_ratio_Make, ok_value_Len, ok_value_Check, ok_value_At, trivial⟩ g_expr_apply
theorem ok_expr_apply : FOk Tryz.prog I_expr_apply := r_expr_apply.1
mutual
def go_expr_eval : Nat → GExpr → (List GBind) → Option (Res (Int × Unit) GValue)
  | 0, _, _ => none
  | n + 1, a0, a1 => 
    pIf (a0.op == 1)
      (some (Res.ok a0.value.re))
      (pIf (a0.op == 2)
        ((go_slices_IndexFunc_api_Bind_api_Bind n a1 a0.op a0.value.kind a0.value.num.num a0.value.num.den a0.value.truth a0.value.str a0.value.list a0.name a0.args).bind fun y0 =>
        pIf (decide (y0.1 < 0))
          ((go_expr_must n 6).bind fun y1 =>
          pRes y1 (fun r2 =>
            go_expr_eval_L0 n y0.1 a1 0 0 0 false [] [])
            (fun e3 =>
            some (Res.pan (e3.1, ()))))
          (go_expr_eval_L0 n y0.1 a1 0 0 0 false [] []))
        (pIf (a0.op == 12)
          ((ix a0.args 0).bind fun x4 =>
          (go_expr_eval n x4.re a1).bind fun y5 =>
          pRes y5 (fun r6 =>
            (go_expr_kind n 2 [r6.re]).bind fun y7 =>
            pRes y7 (fun r8 =>
              pIf r6.truth
                ((ix a0.args 1).bind fun x9 =>
                (go_expr_eval n x9.re a1).bind fun y10 =>
                pRes y10 (fun r11 =>
                  some (Res.ok r11.re))
                  (fun e12 =>
                  some (Res.pan (e12.1, ()))))
                ((ix a0.args 2).bind fun x13 =>
                (go_expr_eval n x13.re a1).bind fun y14 =>
                pRes y14 (fun r15 =>
                  some (Res.ok r15.re))
                  (fun e16 =>
                  some (Res.pan (e16.1, ())))))
              (fun e17 =>
              some (Res.pan (e17.1, ()))))
            (fun e18 =>
            some (Res.pan (e18.1, ()))))
          (go_expr_eval_L1 n 0 a1 a0.args (a0.args.length : Int) [] 0 0 0 false [] a0.re [])))
def go_expr_eval_L0 : Nat → Int → (List GBind) → Int → Int → Int → Bool → (List UInt8) → (List GValue) → Option (Res (Int × Unit) GValue)
  | 0, _, _, _, _, _, _, _, _ => none
  | n + 1, a0, a1, a2, a3, a4, a5, a6, a7 => 
    (ix a1 a0).bind fun x19 =>
    some (Res.ok x19.value.re)
def go_expr_eval_L1 : Nat → Int → (List GBind) → (List GExpr) → Int → (List GValue) → Int → Int → Int → Bool → (List UInt8) → GExpr → (List GValue) → Option (Res (Int × Unit) GValue)
  | 0, _, _, _, _, _, _, _, _, _, _, _, _ => none
  | n + 1, a0, a1, a2, a3, a4, a5, a6, a7, a8, a9, a10, a11 => 
    pIf (decide (a0 < a3))
      ((ix a2 a0).bind fun x20 =>
      (go_expr_eval n x20.re a1).bind fun y21 =>
      pRes y21 (fun r22 =>
        (ext a4 [r22.re]).bind fun x23 =>
        go_expr_eval_L1 n (IntKind.i64.wrap (a0 + 1)) a1 a2 a3 x23 a5 a6 a7 a8 a9 a10.re a11)
        (fun e24 =>
        some (Res.pan (e24.1, ()))))
      ((go_expr_apply n a10.op a4).bind fun y25 =>
      pRes y25 (fun r26 =>
        some (Res.ok r26.re))
        (fun e27 =>
        some (Res.pan (e27.1, ()))))
end
def k_expr_eval : LSh := ⟨[(4, (.ptr 0 0))], [(.st 1)], 0, 72⟩
noncomputable def I_expr_eval : FI dat := FI.ofP dat 62 72 0 [(.d (.st 2)), (.d (.sl (.st 3)))] [] [(.d (.st 1))] [(.st 1)] (.iface 33 (.d (.int .i64))) [] [] k_expr_eval (R := GValue) (fun x => x.1) (fun r => (r, r, ())) (fun n x => go_expr_eval n x.1 x.2.1)
  (fun n => [(0, ⟨⟨[(4, (.ptr 0 0)), (5, (.d (.int .i64))), (1, (.d (.sl (.st 3))))], [(.cells [(.d (.int .u8)), (.d (.int .i64)), (.d (.int .i64)), (.d .bool), (.d .str), (.own 1)]), (.acc 26 (.st 1) true)], 0, 72⟩, fun x => go_expr_eval_L0 n x.1 x.2.1 x.2.2.1 x.2.2.2.1 x.2.2.2.2.1 x.2.2.2.2.2.1 x.2.2.2.2.2.2.1 x.2.2.2.2.2.2.2.1⟩), (1, ⟨⟨[(57, (.d (.int .i64))), (1, (.d (.sl (.st 3)))), (7, (.own 0)), (55, (.d (.sl (.st 2)))), (4, (.ptr 1 0)), (2, (.ptr 2 0)), (56, (.d (.int .i64)))], [(.acc 26 (.st 1) true), (.cells [(.d (.int .u8)), (.d (.int .i64)), (.d (.int .i64)), (.d .bool), (.d .str), (.own 3)]), (.st 2), (.acc 26 (.st 1) true)], 0, 72⟩, fun x => go_expr_eval_L1 n x.1 x.2.1 x.2.2.1 x.2.2.2.1 x.2.2.2.2.1 x.2.2.2.2.2.1 x.2.2.2.2.2.2.1 x.2.2.2.2.2.2.2.1 x.2.2.2.2.2.2.2.2.1 x.2.2.2.2.2.2.2.2.2.1 x.2.2.2.2.2.2.2.2.2.2.1 x.2.2.2.2.2.2.2.2.2.2.2.1⟩)]) (ann [(23, 0), (51, 1)] (Tryz.f62.body.getD .skip) 0).1
noncomputable def t_expr_eval : List (FI dat) := [I_expr_eval] ++ [I_slices_IndexFunc_api_Bind_api_Bind, I_expr_must, I_expr_kind, I_expr_apply]
theorem g_expr_eval : (I_expr_eval).Good Tryz.prog dat (tb t_expr_eval) := FI.ofP_good (hD := dat_ok _) Tryz.func62 Tryz.ntmps62 Tryz.call62 (by kernel_rfl) (of_decide_eq_true (by kernel_rfl)) (by kernel_rfl) (fun n => by kernel_rfl) trivial (fun x => by kernel_rfl) (fun _ => rfl) ⟨fun _ => rfl, fun _ => rfl, trivial⟩
  (fun n => fun x => (go_expr_eval.eq_2 x.1 x.2.1 n).trans (by kernel_rfl))
  (fun n => ⟨fun x => (go_expr_eval_L0.eq_2 x.1 x.2.1 x.2.2.1 x.2.2.2.1 x.2.2.2.2.1 x.2.2.2.2.2.1 x.2.2.2.2.2.2.1 x.2.2.2.2.2.2.2.1 n).trans (by kernel_rfl),
    fun x => (go_expr_eval_L1.eq_2 x.1 x.2.1 x.2.2.1 x.2.2.2.1 x.2.2.2.2.1 x.2.2.2.2.2.1 x.2.2.2.2.2.2.1 x.2.2.2.2.2.2.2.1 x.2.2.2.2.2.2.2.2.1 x.2.2.2.2.2.2.2.2.2.1 x.2.2.2.2.2.2.2.2.2.2.1 x.2.2.2.2.2.2.2.2.2.2.2.1 n).trans (by kernel_rfl),
    trivial⟩)
  (fun x => by kernel_rfl)
theorem r_expr_eval : OkL Tryz.prog [I_expr_eval] := ring_ok (dat_ok _) (bs := [I_slices_IndexFunc_api_Bind_api_Bind, I_expr_must, I_expr_kind, I_expr_apply]) ⟨ok_slices_IndexFunc_api_Bind_api_Bind, ok_expr_must, ok_expr_kind, ok_expr_apply, trivial⟩ ⟨g_expr_eval, trivial⟩
theorem ok_expr_eval : FOk Tryz.prog I_expr_eval := r_expr_eval.1
end Go.Proofs.YtfhpamcehnfhoaaGreat

namespace Go.Proofs.YtfhpamcehnfhoaaGreat
open Go Go.Ab
set_option linter.unusedVariables false
set_option maxRecDepth 100000
def go_expr_caught (a0 : Int) : Option Int :=
    some a0
def k_expr_caught : LSh := ⟨[], [(.cells [(.d (.int .i64))])], 1, 10⟩
noncomputable def d_expr_caught : DEnt dat := { f := 61, args := [(.ptr 0 0)], aos := [(.cells [(.d (.int .i64))])], m := none, ros := [(.cells [(.d (.int .i64))])], go := fun x mx => (go_expr_caught x.1 ).bind fun r => some (r, ()) }
theorem dok_expr_caught : (d_expr_caught).Ok Tryz.prog := dent_rec (c := (ann [] (Tryz.f61.body.getD .skip) 0).1) (args := [(.ptr 0 0)]) (aos := [(.cells [(.d (.int .i64))])]) (ros := [(.cells [(.d (.int .i64))])]) (m := none) (l := k_expr_caught) (pack := fun x => x.1) (un := fun r => (r, ())) (go := fun x mx => go_expr_caught x.1 ) (by kernel_rfl) (dat_ok _) Tryz.func61 (by kernel_rfl) Tryz.ntmps61 Tryz.call61 (Nat.le_of_ble_eq_true (by kernel_rfl)) (Nat.le_of_ble_eq_true (by kernel_rfl)) (Nat.le_of_ble_eq_true (by kernel_rfl)) (by kernel_rfl) (by kernel_rfl) (by kernel_rfl) (by kernel_rfl) (fun x => by kernel_rfl) (fun x mx => by kernel_rfl)
def go_expr_caught_s2 (a0 : Int) (a1 : Int) : Option Int :=
    pIf (!false)
      (some a1)
      (some a0)
def k_expr_caught_s2 : LSh := ⟨[], [(.cells [(.d (.int .i64))])], 1, 10⟩
noncomputable def d_expr_caught_s2 : DEnt dat := { f := 61, args := [(.ptr 0 0)], aos := [(.cells [(.d (.int .i64))])], m := (some (.iface 33 (.d (.int .i64)))), ros := [(.cells [(.d (.int .i64))])], go := fun x mx => (go_expr_caught_s2 x.1 mx.1).bind fun r => some (r, ()) }
theorem dok_expr_caught_s2 : (d_expr_caught_s2).Ok Tryz.prog := dent_rec (c := (ann [] (Tryz.f61.body.getD .skip) 0).1) (args := [(.ptr 0 0)]) (aos := [(.cells [(.d (.int .i64))])]) (ros := [(.cells [(.d (.int .i64))])]) (m := (some (.iface 33 (.d (.int .i64))))) (l := k_expr_caught_s2) (pack := fun x => x.1) (un := fun r => (r, ())) (go := fun x mx => go_expr_caught_s2 x.1 mx.1) (by kernel_rfl) (dat_ok _) Tryz.func61 (by kernel_rfl) Tryz.ntmps61 Tryz.call61 (Nat.le_of_ble_eq_true (by kernel_rfl)) (Nat.le_of_ble_eq_true (by kernel_rfl)) (Nat.le_of_ble_eq_true (by kernel_rfl)) (by kernel_rfl) (by kernel_rfl) (by kernel_rfl) (by kernel_rfl) (fun x => by kernel_rfl) (fun x mx => by kernel_rfl)
def go_expr_worth : Nat → GExpr → (List GBind) → Option (GValue × Int)
  | 0, _, _ => none
  | n + 1, a0, a1 => 
    (go_expr_eval n a0.re a1).bind fun y0 =>
    pRes y0 (fun r1 =>
      (go_value_Twin n r1.re).bind fun y2 =>
      (((go_expr_caught 0).bind fun r4 => some (r4, ()))).bind fun y3 =>
      some (y2.re, y3.1))
      (fun e5 =>
      (((go_expr_caught_s2 0 e5.1).bind fun r7 => some (r7, ()))).bind fun y6 =>
      some ((GValue.mk 0 (GRatio.mk 0 0) false [] []), y6.1))
def k_expr_worth : LSh := ⟨[(4, (.ptr 0 0)), (5, (.ptr 1 0))], [(.st 1), (.cells [(.d (.int .i64))])], 0, 10⟩
noncomputable def I_expr_worth : FI dat := FI.ofD dat 44 10 0 [(.d (.st 2)), (.d (.sl (.st 3)))] [] [(.d (.st 1)), (.d (.int .i64))] [(.st 1), (.cells [(.d (.int .i64))])] [d_expr_caught, d_expr_caught_s2] k_expr_worth (R := GValue × Int) (fun x => (x.1, x.2.1)) (fun r => (r.1, r.2, r.1, r.2, ())) (fun n x => go_expr_worth n x.1 x.2.1)
  (fun n => []) (ann [] (Tryz.f44.body.getD .skip) 0).1
noncomputable def t_expr_worth : List (FI dat) := [I_expr_eval, I_value_Twin]
theorem g_expr_worth : (I_expr_worth).Good Tryz.prog dat (tb t_expr_worth) := FI.ofD_good (hD := dat_ok _) Tryz.func44 Tryz.ntmps44 Tryz.call44 (by kernel_rfl) (of_decide_eq_true (by kernel_rfl)) (by kernel_rfl) (fun n => by kernel_rfl) ⟨dok_expr_caught, dok_expr_caught_s2, trivial⟩ (fun x => by kernel_rfl) (fun _ => rfl) trivial
  (fun n => fun x => (go_expr_worth.eq_2 x.1 x.2.1 n).trans (by kernel_rfl))
  (fun n => trivial)
  (fun x => by kernel_rfl)
theorem r_expr_worth : OkL Tryz.prog [I_expr_worth] := one_ok (dat_ok _) (bs := [I_expr_eval, I_value_Twin]) ⟨ok_expr_eval, ok_value_Twin, trivial⟩ g_expr_worth
theorem ok_expr_worth : FOk Tryz.prog I_expr_worth := r_expr_worth.1
mutual
def go_expr_Eval : Nat → GExpr → (List GBind) → Option (Int × GValue)
  | 0, _, _ => none
  | n + 1, a0, a1 => 
    (go_expr_Check n a0.re).bind fun y0 =>
    pIf (y0 != 0)
      (some (y0, (GValue.mk 0 (GRatio.mk 0 0) false [] [])))
      (pIf (decide ((a1.length : Int) > 40))
        (some (4, (GValue.mk 0 (GRatio.mk 0 0) false [] [])))
        (go_expr_Eval_L0 n 0 a1 a1 (a1.length : Int) (GValue.mk 0 (GRatio.mk 0 0) false [] []) a0.re))
def go_expr_Eval_L0 : Nat → Int → (List GBind) → (List GBind) → Int → GValue → GExpr → Option (Int × GValue)
  | 0, _, _, _, _, _, _ => none
  | n + 1, a0, a1, a2, a3, a4, a5 => 
    pIf (decide (a0 < a3))
      ((ix a1 a0).bind fun x1 =>
      (go_label_Name n x1.name).bind fun y2 =>
      pIf (!y2)
        (go_expr_Eval_L1 n a1 a2 a3 a0 true a4.re a5.re)
        ((go_value_Check n x1.value.re).bind fun y3 =>
        go_expr_Eval_L1 n a1 a2 a3 a0 (y3 != 0) a4.re a5.re))
      ((go_expr_worth n a5.re a2).bind fun y4 =>
      some (y4.2, y4.1.re))
def go_expr_Eval_L1 : Nat → (List GBind) → (List GBind) → Int → Int → Bool → GValue → GExpr → Option (Int × GValue)
  | 0, _, _, _, _, _, _, _ => none
  | n + 1, a0, a1, a2, a3, a4, a5, a6 => 
    pIf a4
      (some (8, (GValue.mk 0 (GRatio.mk 0 0) false [] [])))
      (go_expr_Eval_L0 n (IntKind.i64.wrap (a3 + 1)) a0 a1 a2 a5.re a6.re)
end
def k_expr_Eval : LSh := ⟨[(4, (.ptr 0 0)), (5, (.d (.int .i64)))], [(.st 1)], 0, 42⟩
noncomputable def I_expr_Eval : FI dat := FI.of dat 17 42 0 [(.d (.st 2)), (.d (.sl (.st 3)))] [] [(.d (.st 1)), (.d (.int .i64))] [] true k_expr_Eval (R := Int × GValue) (fun x => (x.1, x.2.1)) (fun r => (r.2, r.1, ())) (fun n x => go_expr_Eval n x.1 x.2.1)
  (fun n => [(0, ⟨⟨[(4, (.ptr 0 0)), (21, (.d (.int .i64))), (19, (.d (.sl (.st 3)))), (1, (.d (.sl (.st 3)))), (2, (.ptr 1 0)), (20, (.d (.int .i64)))], [(.st 1), (.st 2)], 0, 42⟩, fun x => go_expr_Eval_L0 n x.1 x.2.1 x.2.2.1 x.2.2.2.1 x.2.2.2.2.1 x.2.2.2.2.2.1⟩), (1, ⟨⟨[(4, (.ptr 0 0)), (19, (.d (.sl (.st 3)))), (1, (.d (.sl (.st 3)))), (2, (.ptr 1 0)), (20, (.d (.int .i64))), (21, (.d (.int .i64))), (34, (.d .bool))], [(.st 1), (.st 2)], 0, 42⟩, fun x => go_expr_Eval_L1 n x.1 x.2.1 x.2.2.1 x.2.2.2.1 x.2.2.2.2.1 x.2.2.2.2.2.1 x.2.2.2.2.2.2.1⟩)]) (ann [(24, 0), (37, 1)] (Tryz.f17.body.getD .skip) 0).1
noncomputable def t_expr_Eval : List (FI dat) := [I_expr_Check, I_label_Name, I_value_Check, I_expr_worth]
theorem g_expr_Eval : (I_expr_Eval).Good Tryz.prog dat (tb t_expr_Eval) := FI.of_good (hD := dat_ok _) Tryz.func17 Tryz.ntmps17 Tryz.call17 (by kernel_rfl) (of_decide_eq_true (by kernel_rfl)) (by kernel_rfl) (fun n => by kernel_rfl) (fun x => by kernel_rfl) (fun _ => rfl) ⟨fun _ => rfl, fun _ => rfl, trivial⟩
  (fun n => fun x => (go_expr_Eval.eq_2 x.1 x.2.1 n).trans (by kernel_rfl))
  (fun n => ⟨fun x => (go_expr_Eval_L0.eq_2 x.1 x.2.1 x.2.2.1 x.2.2.2.1 x.2.2.2.2.1 x.2.2.2.2.2.1 n).trans (by kernel_rfl),
    fun x => (go_expr_Eval_L1.eq_2 x.1 x.2.1 x.2.2.1 x.2.2.2.1 x.2.2.2.2.1 x.2.2.2.2.2.1 x.2.2.2.2.2.2.1 n).trans (by kernel_rfl),
    trivial⟩)
  (fun x => .inl rfl)
theorem r_expr_Eval : OkL Tryz.prog [I_expr_Eval] := one_ok (dat_ok _) (bs := [I_expr_Check, I_label_Name, I_value_Check, I_expr_worth]) ⟨ok_expr_Check, ok_label_Name, ok_value_Check, ok_expr_worth, trivial⟩ g_expr_Eval
theorem ok_expr_Eval : FOk Tryz.prog I_expr_Eval := r_expr_Eval.1
mutual
def go_ref04_Deep : Nat → GExpr → Option Int
  | 0, _ => none
  | n + 1, a0 => 
    go_ref04_Deep_L0 n 0 1 a0.re
def go_ref04_Deep_L0 : Nat → Int → Int → GExpr → Option Int
  | 0, _, _, _ => none
  | n + 1, a0, a1, a2 => 
    pIf (decide (a0 < (a2.args.length : Int)))
      ((ix a2.args a0).bind fun x0 =>
      (go_ref04_Deep n x0.re).bind fun y1 =>
      go_ref04_Deep_L0 n (IntKind.i64.wrap (a0 + 1)) (mxI a1 (IntKind.i64.wrap (1 + y1))) a2.re)
      (some a1)
end
def k_ref04_Deep : LSh := ⟨[(2, (.d (.int .i64)))], [], 0, 22⟩
noncomputable def I_ref04_Deep : FI dat := FI.of dat 52 22 0 [(.d (.st 2))] [] [(.d (.int .i64))] [] true k_ref04_Deep (R := Int) (fun x => x.1) (fun r => (r, ())) (fun n x => go_ref04_Deep n x.1)
  (fun n => [(0, ⟨⟨[(4, (.d (.int .i64))), (1, (.ptr 0 0)), (3, (.d (.int .i64)))], [(.st 2)], 0, 22⟩, fun x => go_ref04_Deep_L0 n x.1 x.2.1 x.2.2.1⟩)]) (ann [(8, 0)] (Tryz.f52.body.getD .skip) 0).1
noncomputable def t_ref04_Deep : List (FI dat) := [I_ref04_Deep] ++ []
theorem g_ref04_Deep : (I_ref04_Deep).Good Tryz.prog dat (tb t_ref04_Deep) := FI.of_good (hD := dat_ok _) Tryz.func52 Tryz.ntmps52 Tryz.call52 (by kernel_rfl) (of_decide_eq_true (by kernel_rfl)) (by kernel_rfl) (fun n => by kernel_rfl) (fun x => by kernel_rfl) (fun _ => rfl) ⟨fun _ => rfl, trivial⟩
  (fun n => fun x => (go_ref04_Deep.eq_2 x.1 n).trans (by kernel_rfl))
  (fun n => ⟨fun x => (go_ref04_Deep_L0.eq_2 x.1 x.2.1 x.2.2.1 n).trans (by kernel_rfl),
    trivial⟩)
  (fun x => .inl rfl)
theorem r_ref04_Deep : OkL Tryz.prog [I_ref04_Deep] := ring_ok (dat_ok _) (bs := []) trivial ⟨g_ref04_Deep, trivial⟩
theorem ok_ref04_Deep : FOk Tryz.prog I_ref04_Deep := r_ref04_Deep.1
mutual
def go_ref04_args : Nat → Int → Option Int
  | 0, _ => none
  | n + 1, a0 => 
    pIf (a0 == 1)
      (go_ref04_args_L0 n a0 true)
      (go_ref04_args_L0 n a0 (a0 == 2))
def go_ref04_args_L0 : Nat → Int → Bool → Option Int
  | 0, _, _ => none
  | n + 1, a0, a1 => 
    pIf a1
      (some 0)
      (pIf (decide (a0 ≥ 3))
        (pIf (decide (a0 ≤ 10))
          (go_ref04_args_L1 n a0 true)
          (pIf (a0 == 13)
            (go_ref04_args_L1 n a0 true)
            (pIf (a0 == 14)
              (go_ref04_args_L1 n a0 true)
              (go_ref04_args_L1 n a0 (a0 == 17)))))
        (pIf (a0 == 13)
          (go_ref04_args_L1 n a0 true)
          (pIf (a0 == 14)
            (go_ref04_args_L1 n a0 true)
            (go_ref04_args_L1 n a0 (a0 == 17)))))
def go_ref04_args_L1 : Nat → Int → Bool → Option Int
  | 0, _, _ => none
  | n + 1, a0, a1 => 
    pIf a1
      (some 2)
      (pIf (a0 == 11)
        (go_ref04_args_L2 n a0 true)
        (pIf (a0 == 15)
          (go_ref04_args_L2 n a0 true)
          (go_ref04_args_L2 n a0 (a0 == 16))))
def go_ref04_args_L2 : Nat → Int → Bool → Option Int
  | 0, _, _ => none
  | n + 1, a0, a1 => 
    pIf a1
      (some 1)
      (pIf (a0 == 12)
        (some 3)
        (pIf (a0 == 18)
          (some (-1))
          (some (-2))))
end
def k_ref04_args : LSh := ⟨[(2, (.d (.int .i64)))], [], 0, 46⟩
noncomputable def I_ref04_args : FI dat := FI.of dat 72 46 0 [(.d (.int .u8))] [] [(.d (.int .i64))] [] true k_ref04_args (R := Int) (fun x => x.1) (fun r => (r, ())) (fun n x => go_ref04_args n x.1)
  (fun n => [(0, ⟨⟨[(0, (.d (.int .u8))), (3, (.d .bool))], [], 0, 46⟩, fun x => go_ref04_args_L0 n x.1 x.2.1⟩), (1, ⟨⟨[(0, (.d (.int .u8))), (10, (.d .bool))], [], 0, 46⟩, fun x => go_ref04_args_L1 n x.1 x.2.1⟩), (2, ⟨⟨[(0, (.d (.int .u8))), (29, (.d .bool))], [], 0, 46⟩, fun x => go_ref04_args_L2 n x.1 x.2.1⟩)]) (ann [(6, 0), (12, 1), (18, 2)] (Tryz.f72.body.getD .skip) 0).1
noncomputable def t_ref04_args : List (FI dat) := []
theorem g_ref04_args : (I_ref04_args).Good Tryz.prog dat (tb t_ref04_args) := FI.of_good (hD := dat_ok _) Tryz.func72 Tryz.ntmps72 Tryz.call72 (by kernel_rfl) (of_decide_eq_true (by kernel_rfl)) (by kernel_rfl) (fun n => by kernel_rfl) (fun x => by kernel_rfl) (fun _ => rfl) ⟨fun _ => rfl, fun _ => rfl, fun _ => rfl, trivial⟩
  (fun n => fun x => (go_ref04_args.eq_2 x.1 n).trans (by kernel_rfl))
  (fun n => ⟨fun x => (go_ref04_args_L0.eq_2 x.1 x.2.1 n).trans (by kernel_rfl),
    fun x => (go_ref04_args_L1.eq_2 x.1 x.2.1 n).trans (by kernel_rfl),
    fun x => (go_ref04_args_L2.eq_2 x.1 x.2.1 n).trans (by kernel_rfl),
    trivial⟩)
  (fun x => .inl rfl)
theorem r_ref04_args : OkL Tryz.prog [I_ref04_args] := one_ok (dat_ok _) (bs := []) trivial g_ref04_args
theorem ok_ref04_args : FOk Tryz.prog I_ref04_args := r_ref04_args.1
mutual
def go_ref03_Deep : Nat → GValue → Option Int
  | 0, _ => none
  | n + 1, a0 => 
    go_ref03_Deep_L0 n 0 1 a0.re
def go_ref03_Deep_L0 : Nat → Int → Int → GValue → Option Int
  | 0, _, _, _ => none
  | n + 1, a0, a1, a2 => 
    pIf (decide (a0 < (a2.list.length : Int)))
      (go_ref03_Deep_L1 n a0 a1 (a2.kind == 4) a2.re)
      (go_ref03_Deep_L1 n a0 a1 false a2.re)
def go_ref03_Deep_L1 : Nat → Int → Int → Bool → GValue → Option Int
  | 0, _, _, _, _ => none
  | n + 1, a0, a1, a2, a3 => 
    pIf a2
      ((ix a3.list a0).bind fun x0 =>
      (go_ref03_Deep n x0.re).bind fun y1 =>
      go_ref03_Deep_L0 n (IntKind.i64.wrap (a0 + 1)) (mxI a1 (IntKind.i64.wrap (1 + y1))) a3.re)
      (some a1)
end
def k_ref03_Deep : LSh := ⟨[(2, (.d (.int .i64)))], [], 0, 27⟩
noncomputable def I_ref03_Deep : FI dat := FI.of dat 57 27 0 [(.d (.st 1))] [] [(.d (.int .i64))] [] true k_ref03_Deep (R := Int) (fun x => x.1) (fun r => (r, ())) (fun n x => go_ref03_Deep n x.1)
  (fun n => [(0, ⟨⟨[(4, (.d (.int .i64))), (1, (.ptr 0 0)), (3, (.d (.int .i64)))], [(.st 1)], 0, 27⟩, fun x => go_ref03_Deep_L0 n x.1 x.2.1 x.2.2.1⟩), (1, ⟨⟨[(1, (.ptr 0 0)), (4, (.d (.int .i64))), (3, (.d (.int .i64))), (14, (.d .bool))], [(.st 1)], 0, 27⟩, fun x => go_ref03_Deep_L1 n x.1 x.2.1 x.2.2.1 x.2.2.2.1⟩)]) (ann [(8, 0), (12, 1)] (Tryz.f57.body.getD .skip) 0).1
noncomputable def t_ref03_Deep : List (FI dat) := [I_ref03_Deep] ++ []
theorem g_ref03_Deep : (I_ref03_Deep).Good Tryz.prog dat (tb t_ref03_Deep) := FI.of_good (hD := dat_ok _) Tryz.func57 Tryz.ntmps57 Tryz.call57 (by kernel_rfl) (of_decide_eq_true (by kernel_rfl)) (by kernel_rfl) (fun n => by kernel_rfl) (fun x => by kernel_rfl) (fun _ => rfl) ⟨fun _ => rfl, fun _ => rfl, trivial⟩
  (fun n => fun x => (go_ref03_Deep.eq_2 x.1 n).trans (by kernel_rfl))
  (fun n => ⟨fun x => (go_ref03_Deep_L0.eq_2 x.1 x.2.1 x.2.2.1 n).trans (by kernel_rfl),
    fun x => (go_ref03_Deep_L1.eq_2 x.1 x.2.1 x.2.2.1 x.2.2.2.1 n).trans (by kernel_rfl),
    trivial⟩)
  (fun x => .inl rfl)
theorem r_ref03_Deep : OkL Tryz.prog [I_ref03_Deep] := ring_ok (dat_ok _) (bs := []) trivial ⟨g_ref03_Deep, trivial⟩
theorem ok_ref03_Deep : FOk Tryz.prog I_ref03_Deep := r_ref03_Deep.1
end Go.Proofs.YtfhpamcehnfhoaaGreat

namespace Go.Proofs.YtfhpamcehnfhoaaGreat
open Go Go.Ab
set_option linter.unusedVariables false
set_option maxRecDepth 100000
mutual
def go_ref01_common : Nat → Int → Int → Option Int
  | 0, _, _ => none
  | n + 1, a0, a1 => 
    go_ref01_common_L0 n a1 a0
def go_ref01_common_L0 : Nat → Int → Int → Option Int
  | 0, _, _ => none
  | n + 1, a0, a1 => 
    pIf (a0 != 0)
      ((rem .i64 a1 a0).bind fun x0 =>
      go_ref01_common_L0 n x0 a0)
      (pIf (decide (a1 < 0))
        (some (IntKind.i64.wrap (0 - a1)))
        (some a1))
end
def k_ref01_common : LSh := ⟨[(4, (.d (.int .i64)))], [], 0, 16⟩
noncomputable def I_ref01_common : FI dat := FI.of dat 108 16 0 [(.d (.int .i64)), (.d (.int .i64))] [] [(.d (.int .i64))] [] true k_ref01_common (R := Int) (fun x => x.1) (fun r => (r, ())) (fun n x => go_ref01_common n x.1 x.2.1)
  (fun n => [(0, ⟨⟨[(1, (.d (.int .i64))), (0, (.d (.int .i64)))], [], 0, 16⟩, fun x => go_ref01_common_L0 n x.1 x.2.1⟩)]) (ann [(4, 0)] (Tryz.f108.body.getD .skip) 0).1
noncomputable def t_ref01_common : List (FI dat) := []
theorem g_ref01_common : (I_ref01_common).Good Tryz.prog dat (tb t_ref01_common) := FI.of_good (hD := dat_ok _) Tryz.func108 Tryz.ntmps108 Tryz.call108 (by kernel_rfl) (of_decide_eq_true (by kernel_rfl)) (by kernel_rfl) (fun n => by kernel_rfl) (fun x => by kernel_rfl) (fun _ => rfl) ⟨fun _ => rfl, trivial⟩
  (fun n => fun x => (go_ref01_common.eq_2 x.1 x.2.1 n).trans (by kernel_rfl))
  (fun n => ⟨fun x => (go_ref01_common_L0.eq_2 x.1 x.2.1 n).trans (by kernel_rfl),
    trivial⟩)
  (fun x => .inl rfl)
theorem r_ref01_common : OkL Tryz.prog [I_ref01_common] := one_ok (dat_ok _) (bs := []) trivial g_ref01_common
theorem ok_ref01_common : FOk Tryz.prog I_ref01_common := r_ref01_common.1
mutual
def go_ref01_Check : Nat → GRatio → Option Int
  | 0, _ => none
  | n + 1, a0 => 
    pIf (decide (a0.den < 1))
      (go_ref01_Check_L0 n true)
      (pIf (decide (a0.den > 1000000000))
        (go_ref01_Check_L0 n true)
        (pIf (decide (a0.num < (-1000000000)))
          (go_ref01_Check_L0 n true)
          (pIf (decide (a0.num > 1000000000))
            (go_ref01_Check_L0 n true)
            ((go_ref01_common n a0.num a0.den).bind fun y0 =>
            go_ref01_Check_L0 n (y0 != 1)))))
def go_ref01_Check_L0 : Nat → Bool → Option Int
  | 0, _ => none
  | n + 1, a0 => 
    pIf a0
      (some 8)
      (some 0)
end
def k_ref01_Check : LSh := ⟨[(2, (.d (.int .i64)))], [], 0, 29⟩
noncomputable def I_ref01_Check : FI dat := FI.of dat 76 29 0 [(.d (.st 0))] [] [(.d (.int .i64))] [] true k_ref01_Check (R := Int) (fun x => x.1) (fun r => (r, ())) (fun n x => go_ref01_Check n x.1)
  (fun n => [(0, ⟨⟨[(28, (.d .bool))], [], 0, 29⟩, fun x => go_ref01_Check_L0 n x.1⟩)]) (ann [(5, 0)] (Tryz.f76.body.getD .skip) 0).1
noncomputable def t_ref01_Check : List (FI dat) := [I_ref01_common]
theorem g_ref01_Check : (I_ref01_Check).Good Tryz.prog dat (tb t_ref01_Check) := FI.of_good (hD := dat_ok _) Tryz.func76 Tryz.ntmps76 Tryz.call76 (by kernel_rfl) (of_decide_eq_true (by kernel_rfl)) (by kernel_rfl) (fun n => by kernel_rfl) (fun x => by kernel_rfl) (fun _ => rfl) ⟨fun _ => rfl, trivial⟩
  (fun n => fun x => (go_ref01_Check.eq_2 x.1 n).trans (by kernel_rfl))
  (fun n => ⟨fun x => (go_ref01_Check_L0.eq_2 x.1 n).trans (by kernel_rfl),
    trivial⟩)
  (fun x => .inl rfl)
theorem r_ref01_Check : OkL Tryz.prog [I_ref01_Check] := one_ok (dat_ok _) (bs := [I_ref01_common]) ⟨ok_ref01_common, trivial⟩ g_ref01_Check
theorem ok_ref01_Check : FOk Tryz.prog I_ref01_Check := r_ref01_Check.1
mutual
def go_ref03_fine : Nat → GValue → Option Bool
  | 0, _ => none
  | n + 1, a0 => 
    pIf (a0.kind == 1)
      ((go_ref01_Check n a0.num).bind fun y0 =>
      pIf (y0 == 0)
        (pIf (!a0.truth)
          (pIf ((a0.str.length : Int) == 0)
            (some ((a0.list.length : Int) == 0))
            (some false))
          (some false))
        (some false))
      (pIf (a0.kind == 2)
        (pIf ((a0.num.num == 0) && ((a0.num.den == 0) && true))
          (pIf ((a0.str.length : Int) == 0)
            (some ((a0.list.length : Int) == 0))
            (some false))
          (some false))
        (pIf (a0.kind == 3)
          (pIf (!((a0.num.num == 0) && ((a0.num.den == 0) && true)))
            (go_ref03_fine_L0 n true a0.re)
            (pIf a0.truth
              (go_ref03_fine_L0 n true a0.re)
              (pIf (decide ((a0.list.length : Int) > 0))
                (go_ref03_fine_L0 n true a0.re)
                (go_ref03_fine_L0 n (decide ((a0.str.length : Int) > 60)) a0.re))))
          (pIf (a0.kind == 4)
            (pIf (!((a0.num.num == 0) && ((a0.num.den == 0) && true)))
              (go_ref03_fine_L3 n true a0.re)
              (pIf a0.truth
                (go_ref03_fine_L3 n true a0.re)
                (go_ref03_fine_L3 n (decide ((a0.str.length : Int) > 0)) a0.re)))
            (some false))))
def go_ref03_fine_L0 : Nat → Bool → GValue → Option Bool
  | 0, _, _ => none
  | n + 1, a0, a1 => 
    pIf a0
      (some false)
      (go_ref03_fine_L1 n 0 a1.re)
def go_ref03_fine_L1 : Nat → Int → GValue → Option Bool
  | 0, _, _ => none
  | n + 1, a0, a1 => 
    pIf (decide (a0 < (a1.str.length : Int)))
      ((ix a1.str a0).bind fun x1 =>
      pIf (decide ((x1.toNat : Int) < 32))
        (go_ref03_fine_L2 n a0 true a1.re)
        ((ix a1.str a0).bind fun x2 =>
        go_ref03_fine_L2 n a0 (decide ((x2.toNat : Int) > 126)) a1.re))
      (some true)
def go_ref03_fine_L2 : Nat → Int → Bool → GValue → Option Bool
  | 0, _, _, _ => none
  | n + 1, a0, a1, a2 => 
    pIf a1
      (some false)
      (go_ref03_fine_L1 n (IntKind.i64.wrap (a0 + 1)) a2.re)
def go_ref03_fine_L3 : Nat → Bool → GValue → Option Bool
  | 0, _, _ => none
  | n + 1, a0, a1 => 
    pIf a0
      (some false)
      (go_ref03_fine_L4 n 0 a1.re)
def go_ref03_fine_L4 : Nat → Int → GValue → Option Bool
  | 0, _, _ => none
  | n + 1, a0, a1 => 
    pIf (decide (a0 < (a1.list.length : Int)))
      ((ix a1.list a0).bind fun x3 =>
      (go_ref03_fine n x3.re).bind fun y4 =>
      pIf (!y4)
        (some false)
        (go_ref03_fine_L4 n (IntKind.i64.wrap (a0 + 1)) a1.re))
      (some true)
end
def k_ref03_fine : LSh := ⟨[(2, (.d .bool))], [], 0, 121⟩
noncomputable def I_ref03_fine : FI dat := FI.of dat 58 121 0 [(.d (.st 1))] [] [(.d .bool)] [] true k_ref03_fine (R := Bool) (fun x => x.1) (fun r => (r, ())) (fun n x => go_ref03_fine n x.1)
  (fun n => [(0, ⟨⟨[(1, (.ptr 0 0)), (71, (.d .bool))], [(.st 1)], 0, 121⟩, fun x => go_ref03_fine_L0 n x.1 x.2.1⟩), (1, ⟨⟨[(4, (.d (.int .i64))), (1, (.ptr 0 0))], [(.st 1)], 0, 121⟩, fun x => go_ref03_fine_L1 n x.1 x.2.1⟩), (2, ⟨⟨[(1, (.ptr 0 0)), (4, (.d (.int .i64))), (90, (.d .bool))], [(.st 1)], 0, 121⟩, fun x => go_ref03_fine_L2 n x.1 x.2.1 x.2.2.1⟩), (3, ⟨⟨[(1, (.ptr 0 0)), (106, (.d .bool))], [(.st 1)], 0, 121⟩, fun x => go_ref03_fine_L3 n x.1 x.2.1⟩), (4, ⟨⟨[(5, (.d (.int .i64))), (1, (.ptr 0 0))], [(.st 1)], 0, 121⟩, fun x => go_ref03_fine_L4 n x.1 x.2.1⟩)]) (ann [(26, 0), (35, 1), (46, 2), (61, 3), (70, 4)] (Tryz.f58.body.getD .skip) 0).1
noncomputable def t_ref03_fine : List (FI dat) := [I_ref03_fine] ++ [I_ref01_Check]
theorem g_ref03_fine : (I_ref03_fine).Good Tryz.prog dat (tb t_ref03_fine) := FI.of_good (hD := dat_ok _) Tryz.func58 Tryz.ntmps58 Tryz.call58 (by kernel_rfl) (of_decide_eq_true (by kernel_rfl)) (by kernel_rfl) (fun n => by kernel_rfl) (fun x => by kernel_rfl) (fun _ => rfl) ⟨fun _ => rfl, fun _ => rfl, fun _ => rfl, fun _ => rfl, fun _ => rfl, trivial⟩
  (fun n => fun x => (go_ref03_fine.eq_2 x.1 n).trans (by kernel_rfl))
  (fun n => ⟨fun x => (go_ref03_fine_L0.eq_2 x.1 x.2.1 n).trans (by kernel_rfl),
    fun x => (go_ref03_fine_L1.eq_2 x.1 x.2.1 n).trans (by kernel_rfl),
    fun x => (go_ref03_fine_L2.eq_2 x.1 x.2.1 x.2.2.1 n).trans (by kernel_rfl),
    fun x => (go_ref03_fine_L3.eq_2 x.1 x.2.1 n).trans (by kernel_rfl),
    fun x => (go_ref03_fine_L4.eq_2 x.1 x.2.1 n).trans (by kernel_rfl),
    trivial⟩)
  (fun x => .inl rfl)
theorem r_ref03_fine : OkL Tryz.prog [I_ref03_fine] := ring_ok (dat_ok _) (bs := [I_ref01_Check]) ⟨ok_ref01_Check, trivial⟩ ⟨g_ref03_fine, trivial⟩
theorem ok_ref03_fine : FOk Tryz.prog I_ref03_fine := r_ref03_fine.1
mutual
def go_ref03_Check : Nat → GValue → Option Int
  | 0, _ => none
  | n + 1, a0 => 
    (go_ref03_Parts n a0.re).bind fun y0 =>
    pIf (decide (y0 > 100))
      (go_ref03_Check_L0 n true a0.re)
      ((go_ref03_Deep n a0.re).bind fun y1 =>
      go_ref03_Check_L0 n (decide (y1 > 6)) a0.re)
def go_ref03_Check_L0 : Nat → Bool → GValue → Option Int
  | 0, _, _ => none
  | n + 1, a0, a1 => 
    pIf a0
      (some 4)
      ((go_ref03_fine n a1.re).bind fun y2 =>
      pIf (!y2)
        (some 8)
        (some 0))
end
def k_ref03_Check : LSh := ⟨[(2, (.d (.int .i64)))], [], 0, 14⟩
noncomputable def I_ref03_Check : FI dat := FI.of dat 35 14 0 [(.d (.st 1))] [] [(.d (.int .i64))] [] true k_ref03_Check (R := Int) (fun x => x.1) (fun r => (r, ())) (fun n x => go_ref03_Check n x.1)
  (fun n => [(0, ⟨⟨[(1, (.ptr 0 0)), (10, (.d .bool))], [(.st 1)], 0, 14⟩, fun x => go_ref03_Check_L0 n x.1 x.2.1⟩)]) (ann [(5, 0)] (Tryz.f35.body.getD .skip) 0).1
noncomputable def t_ref03_Check : List (FI dat) := [I_ref03_Parts, I_ref03_Deep, I_ref03_fine]
theorem g_ref03_Check : (I_ref03_Check).Good Tryz.prog dat (tb t_ref03_Check) := FI.of_good (hD := dat_ok _) Tryz.func35 Tryz.ntmps35 Tryz.call35 (by kernel_rfl) (of_decide_eq_true (by kernel_rfl)) (by kernel_rfl) (fun n => by kernel_rfl) (fun x => by kernel_rfl) (fun _ => rfl) ⟨fun _ => rfl, trivial⟩
  (fun n => fun x => (go_ref03_Check.eq_2 x.1 n).trans (by kernel_rfl))
  (fun n => ⟨fun x => (go_ref03_Check_L0.eq_2 x.1 x.2.1 n).trans (by kernel_rfl),
    trivial⟩)
  (fun x => .inl rfl)
theorem r_ref03_Check : OkL Tryz.prog [I_ref03_Check] := one_ok (dat_ok _) (bs := [I_ref03_Parts, I_ref03_Deep, I_ref03_fine]) ⟨ok_ref03_Parts, ok_ref03_Deep, ok_ref03_fine, trivial⟩ g_ref03_Check
theorem ok_ref03_Check : FOk Tryz.prog I_ref03_Check := r_ref03_Check.1
mutual
def go_ref03_Same : Nat → GValue → GValue → Option Bool
  | 0, _, _ => none
  | n + 1, a0, a1 => 
    pIf (a0.kind != a1.kind)
      (go_ref03_Same_L0 n true a1.re a0.re)
      (pIf (!((a0.num.num == a1.num.num) && ((a0.num.den == a1.num.den) && true)))
        (go_ref03_Same_L0 n true a1.re a0.re)
        (pIf (!(a0.truth == a1.truth))
          (go_ref03_Same_L0 n true a1.re a0.re)
          (pIf (!(a0.str == a1.str))
            (go_ref03_Same_L0 n true a1.re a0.re)
            (go_ref03_Same_L0 n ((a0.list.length : Int) != (a1.list.length : Int)) a1.re a0.re))))
def go_ref03_Same_L0 : Nat → Bool → GValue → GValue → Option Bool
  | 0, _, _, _ => none
  | n + 1, a0, a1, a2 => 
    pIf a0
      (some false)
      (go_ref03_Same_L1 n 0 a1.re a2.re)
def go_ref03_Same_L1 : Nat → Int → GValue → GValue → Option Bool
  | 0, _, _, _ => none
  | n + 1, a0, a1, a2 => 
    pIf (decide (a0 < (a2.list.length : Int)))
      ((ix a2.list a0).bind fun x0 =>
      (ix a1.list a0).bind fun x1 =>
      (go_ref03_Same n x0.re x1.re).bind fun y2 =>
      pIf (!y2)
        (some false)
        (go_ref03_Same_L1 n (IntKind.i64.wrap (a0 + 1)) a1.re a2.re))
      (some true)
end
def k_ref03_Same : LSh := ⟨[(4, (.d .bool))], [], 0, 60⟩
noncomputable def I_ref03_Same : FI dat := FI.of dat 23 60 0 [(.d (.st 1)), (.d (.st 1))] [] [(.d .bool)] [] true k_ref03_Same (R := Bool) (fun x => x.1) (fun r => (r, ())) (fun n x => go_ref03_Same n x.1 x.2.1)
  (fun n => [(0, ⟨⟨[(3, (.ptr 0 0)), (2, (.ptr 1 0)), (40, (.d .bool))], [(.st 1), (.st 1)], 0, 60⟩, fun x => go_ref03_Same_L0 n x.1 x.2.1 x.2.2.1⟩), (1, ⟨⟨[(5, (.d (.int .i64))), (3, (.ptr 0 0)), (2, (.ptr 1 0))], [(.st 1), (.st 1)], 0, 60⟩, fun x => go_ref03_Same_L1 n x.1 x.2.1 x.2.2.1⟩)]) (ann [(5, 0), (14, 1)] (Tryz.f23.body.getD .skip) 0).1
noncomputable def t_ref03_Same : List (FI dat) := [I_ref03_Same] ++ []
theorem g_ref03_Same : (I_ref03_Same).Good Tryz.prog dat (tb t_ref03_Same) := FI.of_good (hD := dat_ok _) Tryz.func23 Tryz.ntmps23 Tryz.call23 (by kernel_rfl) (of_decide_eq_true (by kernel_rfl)) (by kernel_rfl) (fun n => by kernel_rfl) (fun x => by kernel_rfl) (fun _ => rfl) ⟨fun _ => rfl, fun _ => rfl, trivial⟩
  (fun n => fun x => (go_ref03_Same.eq_2 x.1 x.2.1 n).trans (by kernel_rfl))
  (fun n => ⟨fun x => (go_ref03_Same_L0.eq_2 x.1 x.2.1 x.2.2.1 n).trans (by kernel_rfl),
    fun x => (go_ref03_Same_L1.eq_2 x.1 x.2.1 x.2.2.1 n).trans (by kernel_rfl),
    trivial⟩)
  (fun x => .inl rfl)
theorem r_ref03_Same : OkL Tryz.prog [I_ref03_Same] := ring_ok (dat_ok _) (bs := []) trivial ⟨g_ref03_Same, trivial⟩
theorem ok_ref03_Same : FOk Tryz.prog I_ref03_Same := r_ref03_Same.1
def go_ref02_letter : Nat → Int → Option Bool
  | 0, _ => none
  | n + 1, a0 => 
    pIf (decide (a0 ≥ 97))
      (some (decide (a0 ≤ 122)))
      (some false)
def k_ref02_letter : LSh := ⟨[(2, (.d .bool))], [], 0, 9⟩
noncomputable def I_ref02_letter : FI dat := FI.of dat 74 9 0 [(.d (.int .u8))] [] [(.d .bool)] [] true k_ref02_letter (R := Bool) (fun x => x.1) (fun r => (r, ())) (fun n x => go_ref02_letter n x.1)
  (fun n => []) (ann [] (Tryz.f74.body.getD .skip) 0).1
noncomputable def t_ref02_letter : List (FI dat) := []
theorem g_ref02_letter : (I_ref02_letter).Good Tryz.prog dat (tb t_ref02_letter) := FI.of_good (hD := dat_ok _) Tryz.func74 Tryz.ntmps74 Tryz.call74 (by kernel_rfl) (of_decide_eq_true (by kernel_rfl)) (by kernel_rfl) (fun n => by kernel_rfl) (fun x => by kernel_rfl) (fun _ => rfl) trivial
  (fun n => fun x => (go_ref02_letter.eq_2 x.1 n).trans (by kernel_rfl))
  (fun n => trivial)
  (fun x => .inl rfl)
theorem r_ref02_letter : OkL Tryz.prog [I_ref02_letter] := one_ok (dat_ok _) (bs := []) trivial g_ref02_letter
theorem ok_ref02_letter : FOk Tryz.prog I_ref02_letter := r_ref02_letter.1
def go_ref02_digit : Nat → Int → Option Bool
  | 0, _ => none
  | n + 1, a0 => 
    pIf (decide (a0 ≥ 48))
      (some (decide (a0 ≤ 57)))
      (some false)
def k_ref02_digit : LSh := ⟨[(2, (.d .bool))], [], 0, 9⟩
noncomputable def I_ref02_digit : FI dat := FI.of dat 75 9 0 [(.d (.int .u8))] [] [(.d .bool)] [] true k_ref02_digit (R := Bool) (fun x => x.1) (fun r => (r, ())) (fun n x => go_ref02_digit n x.1)
  (fun n => []) (ann [] (Tryz.f75.body.getD .skip) 0).1
noncomputable def t_ref02_digit : List (FI dat) := []
theorem g_ref02_digit : (I_ref02_digit).Good Tryz.prog dat (tb t_ref02_digit) := FI.of_good (hD := dat_ok _) Tryz.func75 Tryz.ntmps75 Tryz.call75 (by kernel_rfl) (of_decide_eq_true (by kernel_rfl)) (by kernel_rfl) (fun n => by kernel_rfl) (fun x => by kernel_rfl) (fun _ => rfl) trivial
  (fun n => fun x => (go_ref02_digit.eq_2 x.1 n).trans (by kernel_rfl))
  (fun n => trivial)
  (fun x => .inl rfl)
theorem r_ref02_digit : OkL Tryz.prog [I_ref02_digit] := one_ok (dat_ok _) (bs := []) trivial g_ref02_digit
theorem ok_ref02_digit : FOk Tryz.prog I_ref02_digit := r_ref02_digit.1
end Go.Proofs.YtfhpamcehnfhoaaGreat

namespace Go.Proofs.YtfhpamcehnfhoaaGreat
open Go Go.Ab
set_option linter.unusedVariables false
set_option maxRecDepth 100000
mutual
def go_ref02_Name : Nat → (List UInt8) → Option Bool
  | 0, _ => none
  | n + 1, a0 => 
    go_ref02_Name_L0 n 0 a0
def go_ref02_Name_L0 : Nat → Int → (List UInt8) → Option Bool
  | 0, _, _ => none
  | n + 1, a0, a1 => 
    pIf (decide (a0 < (a1.length : Int)))
      ((ix a1 a0).bind fun x0 =>
      (go_ref02_letter n (x0.toNat : Int)).bind fun y1 =>
      pIf (!y1)
        (pIf (a0 == 0)
          (go_ref02_Name_L1 n a1 a0 true)
          ((ix a1 a0).bind fun x2 =>
          pIf ((x2.toNat : Int) != 45)
            ((ix a1 a0).bind fun x3 =>
            (go_ref02_digit n (x3.toNat : Int)).bind fun y4 =>
            go_ref02_Name_L1 n a1 a0 (!y4))
            (go_ref02_Name_L1 n a1 a0 false)))
        (go_ref02_Name_L1 n a1 a0 false))
      (pIf (decide ((a1.length : Int) ≥ 1))
        (some (decide ((a1.length : Int) ≤ 40)))
        (some false))
def go_ref02_Name_L1 : Nat → (List UInt8) → Int → Bool → Option Bool
  | 0, _, _, _ => none
  | n + 1, a0, a1, a2 => 
    pIf a2
      (some false)
      (go_ref02_Name_L0 n (IntKind.i64.wrap (a1 + 1)) a0)
end
def k_ref02_Name : LSh := ⟨[(2, (.d .bool))], [], 0, 40⟩
noncomputable def I_ref02_Name : FI dat := FI.of dat 56 40 0 [(.d .str)] [] [(.d .bool)] [] true k_ref02_Name (R := Bool) (fun x => x.1) (fun r => (r, ())) (fun n x => go_ref02_Name n x.1)
  (fun n => [(0, ⟨⟨[(3, (.d (.int .i64))), (0, (.d .str))], [], 0, 40⟩, fun x => go_ref02_Name_L0 n x.1 x.2.1⟩), (1, ⟨⟨[(0, (.d .str)), (3, (.d (.int .i64))), (31, (.d .bool))], [], 0, 40⟩, fun x => go_ref02_Name_L1 n x.1 x.2.1 x.2.2.1⟩)]) (ann [(6, 0), (17, 1)] (Tryz.f56.body.getD .skip) 0).1
noncomputable def t_ref02_Name : List (FI dat) := [I_ref02_letter, I_ref02_digit]
theorem g_ref02_Name : (I_ref02_Name).Good Tryz.prog dat (tb t_ref02_Name) := FI.of_good (hD := dat_ok _) Tryz.func56 Tryz.ntmps56 Tryz.call56 (by kernel_rfl) (of_decide_eq_true (by kernel_rfl)) (by kernel_rfl) (fun n => by kernel_rfl) (fun x => by kernel_rfl) (fun _ => rfl) ⟨fun _ => rfl, fun _ => rfl, trivial⟩
  (fun n => fun x => (go_ref02_Name.eq_2 x.1 n).trans (by kernel_rfl))
  (fun n => ⟨fun x => (go_ref02_Name_L0.eq_2 x.1 x.2.1 n).trans (by kernel_rfl),
    fun x => (go_ref02_Name_L1.eq_2 x.1 x.2.1 x.2.2.1 n).trans (by kernel_rfl),
    trivial⟩)
  (fun x => .inl rfl)
theorem r_ref02_Name : OkL Tryz.prog [I_ref02_Name] := one_ok (dat_ok _) (bs := [I_ref02_letter, I_ref02_digit]) ⟨ok_ref02_letter, ok_ref02_digit, trivial⟩ g_ref02_Name
theorem ok_ref02_Name : FOk Tryz.prog I_ref02_Name := r_ref02_Name.1
def go_ref04_Named : Nat → (List UInt8) → Option Bool
  | 0, _ => none
  | n + 1, a0 => 
    (go_ref02_Name n a0).bind fun y0 =>
    pIf y0
      (pIf (!(a0 == [116, 114, 117, 101]))
        (some (!(a0 == [102, 97, 108, 115, 101])))
        (some false))
      (some false)
def k_ref04_Named : LSh := ⟨[(2, (.d .bool))], [], 0, 13⟩
noncomputable def I_ref04_Named : FI dat := FI.of dat 34 13 0 [(.d .str)] [] [(.d .bool)] [] true k_ref04_Named (R := Bool) (fun x => x.1) (fun r => (r, ())) (fun n x => go_ref04_Named n x.1)
  (fun n => []) (ann [] (Tryz.f34.body.getD .skip) 0).1
noncomputable def t_ref04_Named : List (FI dat) := [I_ref02_Name]
theorem g_ref04_Named : (I_ref04_Named).Good Tryz.prog dat (tb t_ref04_Named) := FI.of_good (hD := dat_ok _) Tryz.func34 Tryz.ntmps34 Tryz.call34 (by kernel_rfl) (of_decide_eq_true (by kernel_rfl)) (by kernel_rfl) (fun n => by kernel_rfl) (fun x => by kernel_rfl) (fun _ => rfl) trivial
  (fun n => fun x => (go_ref04_Named.eq_2 x.1 n).trans (by kernel_rfl))
  (fun n => trivial)
  (fun x => .inl rfl)
theorem r_ref04_Named : OkL Tryz.prog [I_ref04_Named] := one_ok (dat_ok _) (bs := [I_ref02_Name]) ⟨ok_ref02_Name, trivial⟩ g_ref04_Named
theorem ok_ref04_Named : FOk Tryz.prog I_ref04_Named := r_ref04_Named.1
mutual
def go_ref04_fine : Nat → GExpr → Option Bool
  | 0, _ => none
  | n + 1, a0 => 
    (go_ref04_args n a0.op).bind fun y0 =>
    pIf (y0 == (-2))
      (go_ref04_fine_L0 n true a0.re)
      (pIf (decide (y0 ≥ 0))
        (go_ref04_fine_L0 n ((a0.args.length : Int) != y0) a0.re)
        (go_ref04_fine_L0 n false a0.re))
def go_ref04_fine_L0 : Nat → Bool → GExpr → Option Bool
  | 0, _, _ => none
  | n + 1, a0, a1 => 
    pIf a0
      (some false)
      (pIf (a1.op == 1)
        ((go_ref03_Check n a1.value.re).bind fun y1 =>
        pIf (y1 != 0)
          (go_ref04_fine_L1 n true a1.re)
          (pIf (a1.value.kind == 4)
            (go_ref04_fine_L1 n true a1.re)
            (pIf (a1.op != 1)
              ((go_ref03_Same n a1.value.re (GValue.mk 0 (GRatio.mk 0 0) false [] [])).bind fun y2 =>
              go_ref04_fine_L1 n (!y2) a1.re)
              (go_ref04_fine_L1 n false a1.re))))
        (pIf (a1.op != 1)
          ((go_ref03_Same n a1.value.re (GValue.mk 0 (GRatio.mk 0 0) false [] [])).bind fun y3 =>
          go_ref04_fine_L1 n (!y3) a1.re)
          (go_ref04_fine_L1 n false a1.re)))
def go_ref04_fine_L1 : Nat → Bool → GExpr → Option Bool
  | 0, _, _ => none
  | n + 1, a0, a1 => 
    pIf a0
      (some false)
      (pIf (a1.op == 2)
        ((go_ref04_Named n a1.name).bind fun y4 =>
        pIf (!y4)
          (go_ref04_fine_L2 n true a1.re)
          (pIf (a1.op != 2)
            (go_ref04_fine_L2 n (decide ((a1.name.length : Int) > 0)) a1.re)
            (go_ref04_fine_L2 n false a1.re)))
        (pIf (a1.op != 2)
          (go_ref04_fine_L2 n (decide ((a1.name.length : Int) > 0)) a1.re)
          (go_ref04_fine_L2 n false a1.re)))
def go_ref04_fine_L2 : Nat → Bool → GExpr → Option Bool
  | 0, _, _ => none
  | n + 1, a0, a1 => 
    pIf a0
      (some false)
      (go_ref04_fine_L3 n 0 a1.re)
def go_ref04_fine_L3 : Nat → Int → GExpr → Option Bool
  | 0, _, _ => none
  | n + 1, a0, a1 => 
    pIf (decide (a0 < (a1.args.length : Int)))
      ((ix a1.args a0).bind fun x5 =>
      (go_ref04_fine n x5.re).bind fun y6 =>
      pIf (!y6)
        (some false)
        (go_ref04_fine_L3 n (IntKind.i64.wrap (a0 + 1)) a1.re))
      (some true)
end
def k_ref04_fine : LSh := ⟨[(2, (.d .bool))], [], 0, 82⟩
noncomputable def I_ref04_fine : FI dat := FI.of dat 53 82 0 [(.d (.st 2))] [] [(.d .bool)] [] true k_ref04_fine (R := Bool) (fun x => x.1) (fun r => (r, ())) (fun n x => go_ref04_fine n x.1)
  (fun n => [(0, ⟨⟨[(1, (.ptr 0 0)), (20, (.d .bool))], [(.st 2)], 0, 82⟩, fun x => go_ref04_fine_L0 n x.1 x.2.1⟩), (1, ⟨⟨[(1, (.ptr 0 0)), (47, (.d .bool))], [(.st 2)], 0, 82⟩, fun x => go_ref04_fine_L1 n x.1 x.2.1⟩), (2, ⟨⟨[(1, (.ptr 0 0)), (67, (.d .bool))], [(.st 2)], 0, 82⟩, fun x => go_ref04_fine_L2 n x.1 x.2.1⟩), (3, ⟨⟨[(4, (.d (.int .i64))), (1, (.ptr 0 0))], [(.st 2)], 0, 82⟩, fun x => go_ref04_fine_L3 n x.1 x.2.1⟩)]) (ann [(7, 0), (15, 1), (23, 2), (32, 3)] (Tryz.f53.body.getD .skip) 0).1
noncomputable def t_ref04_fine : List (FI dat) := [I_ref04_fine] ++ [I_ref04_args, I_ref03_Check, I_ref03_Same, I_ref04_Named]
theorem g_ref04_fine : (I_ref04_fine).Good Tryz.prog dat (tb t_ref04_fine) := FI.of_good (hD := dat_ok _) Tryz.func53 Tryz.ntmps53 Tryz.call53 (by kernel_rfl) (of_decide_eq_true (by kernel_rfl)) (by kernel_rfl) (fun n => by kernel_rfl) (fun x => by kernel_rfl) (fun _ => rfl) ⟨fun _ => rfl, fun _ => rfl, fun _ => rfl, fun _ => rfl, trivial⟩
  (fun n => fun x => (go_ref04_fine.eq_2 x.1 n).trans (by kernel_rfl))
  (fun n => ⟨fun x => (go_ref04_fine_L0.eq_2 x.1 x.2.1 n).trans (by kernel_rfl),
    fun x => (go_ref04_fine_L1.eq_2 x.1 x.2.1 n).trans (by kernel_rfl),
    fun x => (go_ref04_fine_L2.eq_2 x.1 x.2.1 n).trans (by kernel_rfl),
    fun x => (go_ref04_fine_L3.eq_2 x.1 x.2.1 n).trans (by kernel_rfl),
    trivial⟩)
  (fun x => .inl rfl)
theorem r_ref04_fine : OkL Tryz.prog [I_ref04_fine] := ring_ok (dat_ok _) (bs := [I_ref04_args, I_ref03_Check, I_ref03_Same, I_ref04_Named]) ⟨ok_ref04_args, ok_ref03_Check, ok_ref03_Same, ok_ref04_Named, trivial⟩ ⟨g_ref04_fine, trivial⟩
theorem ok_ref04_fine : FOk Tryz.prog I_ref04_fine := r_ref04_fine.1
mutual
def go_ref04_Check : Nat → GExpr → Option Int
  | 0, _ => none
  | n + 1, a0 => 
    (go_ref04_Parts n a0.re).bind fun y0 =>
    pIf (decide (y0 > 100))
      (go_ref04_Check_L0 n true a0.re)
      ((go_ref04_Deep n a0.re).bind fun y1 =>
      go_ref04_Check_L0 n (decide (y1 > 12)) a0.re)
def go_ref04_Check_L0 : Nat → Bool → GExpr → Option Int
  | 0, _, _ => none
  | n + 1, a0, a1 => 
    pIf a0
      (some 4)
      ((go_ref04_fine n a1.re).bind fun y2 =>
      pIf (!y2)
        (some 8)
        (some 0))
end
def k_ref04_Check : LSh := ⟨[(2, (.d (.int .i64)))], [], 0, 14⟩
noncomputable def I_ref04_Check : FI dat := FI.of dat 22 14 0 [(.d (.st 2))] [] [(.d (.int .i64))] [] true k_ref04_Check (R := Int) (fun x => x.1) (fun r => (r, ())) (fun n x => go_ref04_Check n x.1)
  (fun n => [(0, ⟨⟨[(1, (.ptr 0 0)), (10, (.d .bool))], [(.st 2)], 0, 14⟩, fun x => go_ref04_Check_L0 n x.1 x.2.1⟩)]) (ann [(5, 0)] (Tryz.f22.body.getD .skip) 0).1
noncomputable def t_ref04_Check : List (FI dat) := [I_ref04_Parts, I_ref04_Deep, I_ref04_fine]
theorem g_ref04_Check : (I_ref04_Check).Good Tryz.prog dat (tb t_ref04_Check) := FI.of_good (hD := dat_ok _) Tryz.func22 Tryz.ntmps22 Tryz.call22 (by kernel_rfl) (of_decide_eq_true (by kernel_rfl)) (by kernel_rfl) (fun n => by kernel_rfl) (fun x => by kernel_rfl) (fun _ => rfl) ⟨fun _ => rfl, trivial⟩
  (fun n => fun x => (go_ref04_Check.eq_2 x.1 n).trans (by kernel_rfl))
  (fun n => ⟨fun x => (go_ref04_Check_L0.eq_2 x.1 x.2.1 n).trans (by kernel_rfl),
    trivial⟩)
  (fun x => .inl rfl)
theorem r_ref04_Check : OkL Tryz.prog [I_ref04_Check] := one_ok (dat_ok _) (bs := [I_ref04_Parts, I_ref04_Deep, I_ref04_fine]) ⟨ok_ref04_Parts, ok_ref04_Deep, ok_ref04_fine, trivial⟩ g_ref04_Check
theorem ok_ref04_Check : FOk Tryz.prog I_ref04_Check := r_ref04_Check.1
mutual
def go_ref04_Binds : Nat → (List GBind) → Option Int
  | 0, _ => none
  | n + 1, a0 => 
    pIf (decide ((a0.length : Int) > 40))
      (some 4)
      (go_ref04_Binds_L0 n 0 a0)
def go_ref04_Binds_L0 : Nat → Int → (List GBind) → Option Int
  | 0, _, _ => none
  | n + 1, a0, a1 => 
    pIf (decide (a0 < (a1.length : Int)))
      ((ix a1 a0).bind fun x0 =>
      (go_ref02_Name n x0.name).bind fun y1 =>
      pIf (!y1)
        (go_ref04_Binds_L1 n a1 a0 true)
        ((ix a1 a0).bind fun x2 =>
        (go_ref03_Check n x2.value.re).bind fun y3 =>
        go_ref04_Binds_L1 n a1 a0 (y3 != 0)))
      (some 0)
def go_ref04_Binds_L1 : Nat → (List GBind) → Int → Bool → Option Int
  | 0, _, _, _ => none
  | n + 1, a0, a1, a2 => 
    pIf a2
      (some 8)
      (go_ref04_Binds_L0 n (IntKind.i64.wrap (a1 + 1)) a0)
end
def k_ref04_Binds : LSh := ⟨[(2, (.d (.int .i64)))], [], 0, 29⟩
noncomputable def I_ref04_Binds : FI dat := FI.of dat 45 29 0 [(.d (.sl (.st 3)))] [] [(.d (.int .i64))] [] true k_ref04_Binds (R := Int) (fun x => x.1) (fun r => (r, ())) (fun n x => go_ref04_Binds n x.1)
  (fun n => [(0, ⟨⟨[(3, (.d (.int .i64))), (0, (.d (.sl (.st 3))))], [], 0, 29⟩, fun x => go_ref04_Binds_L0 n x.1 x.2.1⟩), (1, ⟨⟨[(0, (.d (.sl (.st 3)))), (3, (.d (.int .i64))), (28, (.d .bool))], [], 0, 29⟩, fun x => go_ref04_Binds_L1 n x.1 x.2.1 x.2.2.1⟩)]) (ann [(14, 0), (25, 1)] (Tryz.f45.body.getD .skip) 0).1
noncomputable def t_ref04_Binds : List (FI dat) := [I_ref02_Name, I_ref03_Check]
theorem g_ref04_Binds : (I_ref04_Binds).Good Tryz.prog dat (tb t_ref04_Binds) := FI.of_good (hD := dat_ok _) Tryz.func45 Tryz.ntmps45 Tryz.call45 (by kernel_rfl) (of_decide_eq_true (by kernel_rfl)) (by kernel_rfl) (fun n => by kernel_rfl) (fun x => by kernel_rfl) (fun _ => rfl) ⟨fun _ => rfl, fun _ => rfl, trivial⟩
  (fun n => fun x => (go_ref04_Binds.eq_2 x.1 n).trans (by kernel_rfl))
  (fun n => ⟨fun x => (go_ref04_Binds_L0.eq_2 x.1 x.2.1 n).trans (by kernel_rfl),
    fun x => (go_ref04_Binds_L1.eq_2 x.1 x.2.1 x.2.2.1 n).trans (by kernel_rfl),
    trivial⟩)
  (fun x => .inl rfl)
theorem r_ref04_Binds : OkL Tryz.prog [I_ref04_Binds] := one_ok (dat_ok _) (bs := [I_ref02_Name, I_ref03_Check]) ⟨ok_ref02_Name, ok_ref03_Check, trivial⟩ g_ref04_Binds
theorem ok_ref04_Binds : FOk Tryz.prog I_ref04_Binds := r_ref04_Binds.1
mutual
def go_ref04_found : Nat → (List GBind) → (List UInt8) → Option (Int × GValue)
  | 0, _, _ => none
  | n + 1, a0, a1 => 
    go_ref04_found_L0 n 0 a0 a1 (GValue.mk 0 (GRatio.mk 0 0) false [] [])
def go_ref04_found_L0 : Nat → Int → (List GBind) → (List UInt8) → GValue → Option (Int × GValue)
  | 0, _, _, _, _ => none
  | n + 1, a0, a1, a2, a3 => 
    pIf (decide (a0 < (a1.length : Int)))
      ((ix a1 a0).bind fun x0 =>
      pIf (x0.name == a2)
        ((ix a1 a0).bind fun x1 =>
        some (0, x1.value.re))
        (go_ref04_found_L0 n (IntKind.i64.wrap (a0 + 1)) a1 a2 a3.re))
      (some (6, (GValue.mk 0 (GRatio.mk 0 0) false [] [])))
end
def k_ref04_found : LSh := ⟨[(4, (.ptr 0 0)), (5, (.d (.int .i64)))], [(.st 1)], 0, 26⟩
noncomputable def I_ref04_found : FI dat := FI.of dat 63 26 0 [(.d (.sl (.st 3))), (.d .str)] [] [(.d (.st 1)), (.d (.int .i64))] [] true k_ref04_found (R := Int × GValue) (fun x => (x.1, x.2.1)) (fun r => (r.2, r.1, ())) (fun n x => go_ref04_found n x.1 x.2.1)
  (fun n => [(0, ⟨⟨[(4, (.ptr 0 0)), (6, (.d (.int .i64))), (0, (.d (.sl (.st 3)))), (1, (.d .str))], [(.st 1)], 0, 26⟩, fun x => go_ref04_found_L0 n x.1 x.2.1 x.2.2.1 x.2.2.2.1⟩)]) (ann [(6, 0)] (Tryz.f63.body.getD .skip) 0).1
noncomputable def t_ref04_found : List (FI dat) := []
theorem g_ref04_found : (I_ref04_found).Good Tryz.prog dat (tb t_ref04_found) := FI.of_good (hD := dat_ok _) Tryz.func63 Tryz.ntmps63 Tryz.call63 (by kernel_rfl) (of_decide_eq_true (by kernel_rfl)) (by kernel_rfl) (fun n => by kernel_rfl) (fun x => by kernel_rfl) (fun _ => rfl) ⟨fun _ => rfl, trivial⟩
  (fun n => fun x => (go_ref04_found.eq_2 x.1 x.2.1 n).trans (by kernel_rfl))
  (fun n => ⟨fun x => (go_ref04_found_L0.eq_2 x.1 x.2.1 x.2.2.1 x.2.2.2.1 n).trans (by kernel_rfl),
    trivial⟩)
  (fun x => .inl rfl)
theorem r_ref04_found : OkL Tryz.prog [I_ref04_found] := one_ok (dat_ok _) (bs := []) trivial g_ref04_found
theorem ok_ref04_found : FOk Tryz.prog I_ref04_found := r_ref04_found.1
end Go.Proofs.YtfhpamcehnfhoaaGreat

namespace Go.Proofs.YtfhpamcehnfhoaaGreat
open Go Go.Ab
set_option linter.unusedVariables false
set_option maxRecDepth 100000
def go_ref03_Is : Nat → Bool → Option GValue
  | 0, _ => none
  | n + 1, a0 => 
    some (GValue.mk 2 (GRatio.mk 0 0) a0 [] [])
def k_ref03_Is : LSh := ⟨[(2, (.ptr 0 0))], [(.st 1)], 0, 5⟩
noncomputable def I_ref03_Is : FI dat := FI.of dat 82 5 0 [(.d .bool)] [] [(.d (.st 1))] [] true k_ref03_Is (R := GValue) (fun x => x.1) (fun r => (r, ())) (fun n x => go_ref03_Is n x.1)
  (fun n => []) (ann [] (Tryz.f82.body.getD .skip) 0).1
noncomputable def t_ref03_Is : List (FI dat) := []
theorem g_ref03_Is : (I_ref03_Is).Good Tryz.prog dat (tb t_ref03_Is) := FI.of_good (hD := dat_ok _) Tryz.func82 Tryz.ntmps82 Tryz.call82 (by kernel_rfl) (of_decide_eq_true (by kernel_rfl)) (by kernel_rfl) (fun n => by kernel_rfl) (fun x => by kernel_rfl) (fun _ => rfl) trivial
  (fun n => fun x => (go_ref03_Is.eq_2 x.1 n).trans (by kernel_rfl))
  (fun n => trivial)
  (fun x => .inl rfl)
theorem r_ref03_Is : OkL Tryz.prog [I_ref03_Is] := one_ok (dat_ok _) (bs := []) trivial g_ref03_Is
theorem ok_ref03_Is : FOk Tryz.prog I_ref03_Is := r_ref03_Is.1
mutual
def go_ref01_Floor : Nat → GRatio → Option (Int × Int)
  | 0, _ => none
  | n + 1, a0 => 
    (go_ref01_Check n a0).bind fun y0 =>
    pIf (y0 != 0)
      ((go_ref01_Check n a0).bind fun y1 =>
      some (0, y1))
      ((quo .i64 a0.num a0.den).bind fun x2 =>
      pIf (decide ((IntKind.i64.wrap (x2 * a0.den)) > a0.num))
        (go_ref01_Floor_L0 n (IntKind.i64.wrap (x2 - 1)))
        (go_ref01_Floor_L0 n x2))
def go_ref01_Floor_L0 : Nat → Int → Option (Int × Int)
  | 0, _ => none
  | n + 1, a0 => 
    some (a0, 0)
end
def k_ref01_Floor : LSh := ⟨[(2, (.d (.int .i64))), (3, (.d (.int .i64)))], [], 0, 25⟩
noncomputable def I_ref01_Floor : FI dat := FI.of dat 83 25 0 [(.d (.st 0))] [] [(.d (.int .i64)), (.d (.int .i64))] [] true k_ref01_Floor (R := Int × Int) (fun x => (x.1, x.2.1)) (fun r => (r.1, r.2, ())) (fun n x => go_ref01_Floor n x.1)
  (fun n => [(0, ⟨⟨[(4, (.d (.int .i64)))], [], 0, 25⟩, fun x => go_ref01_Floor_L0 n x.1⟩)]) (ann [(18, 0)] (Tryz.f83.body.getD .skip) 0).1
noncomputable def t_ref01_Floor : List (FI dat) := [I_ref01_Check]
theorem g_ref01_Floor : (I_ref01_Floor).Good Tryz.prog dat (tb t_ref01_Floor) := FI.of_good (hD := dat_ok _) Tryz.func83 Tryz.ntmps83 Tryz.call83 (by kernel_rfl) (of_decide_eq_true (by kernel_rfl)) (by kernel_rfl) (fun n => by kernel_rfl) (fun x => by kernel_rfl) (fun _ => rfl) ⟨fun _ => rfl, trivial⟩
  (fun n => fun x => (go_ref01_Floor.eq_2 x.1 n).trans (by kernel_rfl))
  (fun n => ⟨fun x => (go_ref01_Floor_L0.eq_2 x.1 n).trans (by kernel_rfl),
    trivial⟩)
  (fun x => .inl rfl)
theorem r_ref01_Floor : OkL Tryz.prog [I_ref01_Floor] := one_ok (dat_ok _) (bs := [I_ref01_Check]) ⟨ok_ref01_Check, trivial⟩ g_ref01_Floor
theorem ok_ref01_Floor : FOk Tryz.prog I_ref01_Floor := r_ref01_Floor.1
def go_ref03_Of : Nat → GRatio → Option GValue
  | 0, _ => none
  | n + 1, a0 => 
    some (GValue.mk 1 a0 false [] [])
def k_ref03_Of : LSh := ⟨[(2, (.ptr 0 0))], [(.st 1)], 0, 5⟩
noncomputable def I_ref03_Of : FI dat := FI.of dat 120 5 0 [(.d (.st 0))] [] [(.d (.st 1))] [] true k_ref03_Of (R := GValue) (fun x => x.1) (fun r => (r, ())) (fun n x => go_ref03_Of n x.1)
  (fun n => []) (ann [] (Tryz.f120.body.getD .skip) 0).1
noncomputable def t_ref03_Of : List (FI dat) := []
theorem g_ref03_Of : (I_ref03_Of).Good Tryz.prog dat (tb t_ref03_Of) := FI.of_good (hD := dat_ok _) Tryz.func120 Tryz.ntmps120 Tryz.call120 (by kernel_rfl) (of_decide_eq_true (by kernel_rfl)) (by kernel_rfl) (fun n => by kernel_rfl) (fun x => by kernel_rfl) (fun _ => rfl) trivial
  (fun n => fun x => (go_ref03_Of.eq_2 x.1 n).trans (by kernel_rfl))
  (fun n => trivial)
  (fun x => .inl rfl)
theorem r_ref03_Of : OkL Tryz.prog [I_ref03_Of] := one_ok (dat_ok _) (bs := []) trivial g_ref03_Of
theorem ok_ref03_Of : FOk Tryz.prog I_ref03_Of := r_ref03_Of.1
def go_ref04_whole : Nat → Int → Option (Int × GValue)
  | 0, _ => none
  | n + 1, a0 => 
    (go_ref03_Of n (GRatio.mk a0 1)).bind fun y0 =>
    some (0, y0.re)
def k_ref04_whole : LSh := ⟨[(2, (.ptr 0 0)), (3, (.d (.int .i64)))], [(.st 1)], 0, 7⟩
noncomputable def I_ref04_whole : FI dat := FI.of dat 84 7 0 [(.d (.int .i64))] [] [(.d (.st 1)), (.d (.int .i64))] [] true k_ref04_whole (R := Int × GValue) (fun x => (x.1, x.2.1)) (fun r => (r.2, r.1, ())) (fun n x => go_ref04_whole n x.1)
  (fun n => []) (ann [] (Tryz.f84.body.getD .skip) 0).1
noncomputable def t_ref04_whole : List (FI dat) := [I_ref03_Of]
theorem g_ref04_whole : (I_ref04_whole).Good Tryz.prog dat (tb t_ref04_whole) := FI.of_good (hD := dat_ok _) Tryz.func84 Tryz.ntmps84 Tryz.call84 (by kernel_rfl) (of_decide_eq_true (by kernel_rfl)) (by kernel_rfl) (fun n => by kernel_rfl) (fun x => by kernel_rfl) (fun _ => rfl) trivial
  (fun n => fun x => (go_ref04_whole.eq_2 x.1 n).trans (by kernel_rfl))
  (fun n => trivial)
  (fun x => .inl rfl)
theorem r_ref04_whole : OkL Tryz.prog [I_ref04_whole] := one_ok (dat_ok _) (bs := [I_ref03_Of]) ⟨ok_ref03_Of, trivial⟩ g_ref04_whole
theorem ok_ref04_whole : FOk Tryz.prog I_ref04_whole := r_ref04_whole.1
def go_ref03_Len : Nat → GValue → Option (Int × Int)
  | 0, _ => none
  | n + 1, a0 => 
    (go_ref03_Check n a0.re).bind fun y0 =>
    pIf (y0 != 0)
      ((go_ref03_Check n a0.re).bind fun y1 =>
      some (0, y1))
      (pIf (a0.kind == 3)
        (some ((a0.str.length : Int), 0))
        (pIf (a0.kind == 4)
          (some ((a0.list.length : Int), 0))
          (some (0, 20))))
def k_ref03_Len : LSh := ⟨[(2, (.d (.int .i64))), (3, (.d (.int .i64)))], [], 0, 21⟩
noncomputable def I_ref03_Len : FI dat := FI.of dat 85 21 0 [(.d (.st 1))] [] [(.d (.int .i64)), (.d (.int .i64))] [] true k_ref03_Len (R := Int × Int) (fun x => (x.1, x.2.1)) (fun r => (r.1, r.2, ())) (fun n x => go_ref03_Len n x.1)
  (fun n => []) (ann [] (Tryz.f85.body.getD .skip) 0).1
noncomputable def t_ref03_Len : List (FI dat) := [I_ref03_Check]
theorem g_ref03_Len : (I_ref03_Len).Good Tryz.prog dat (tb t_ref03_Len) := FI.of_good (hD := dat_ok _) Tryz.func85 Tryz.ntmps85 Tryz.call85 (by kernel_rfl) (of_decide_eq_true (by kernel_rfl)) (by kernel_rfl) (fun n => by kernel_rfl) (fun x => by kernel_rfl) (fun _ => rfl) trivial
  (fun n => fun x => (go_ref03_Len.eq_2 x.1 n).trans (by kernel_rfl))
  (fun n => trivial)
  (fun x => .inl rfl)
theorem r_ref03_Len : OkL Tryz.prog [I_ref03_Len] := one_ok (dat_ok _) (bs := [I_ref03_Check]) ⟨ok_ref03_Check, trivial⟩ g_ref03_Len
theorem ok_ref03_Len : FOk Tryz.prog I_ref03_Len := r_ref03_Len.1
def go_ref04_one : Nat → Int → GValue → Option (Int × GValue)
  | 0, _, _ => none
  | n + 1, a0, a1 => 
    pIf (a0 == 11)
      (pIf (a1.kind != 2)
        (some (20, (GValue.mk 0 (GRatio.mk 0 0) false [] [])))
        ((go_ref03_Is n (!a1.truth)).bind fun y0 =>
        some (0, y0.re)))
      (pIf (a0 == 15)
        (pIf (a1.kind != 1)
          (some (20, (GValue.mk 0 (GRatio.mk 0 0) false [] [])))
          ((go_ref01_Floor n a1.num).bind fun y1 =>
          (go_ref04_whole n y1.1).bind fun y2 =>
          some (y2.1, y2.2.re)))
        ((go_ref03_Len n a1.re).bind fun y3 =>
        pIf (y3.2 != 0)
          (some (y3.2, (GValue.mk 0 (GRatio.mk 0 0) false [] [])))
          ((go_ref04_whole n y3.1).bind fun y4 =>
          some (y4.1, y4.2.re))))
def k_ref04_one : LSh := ⟨[(4, (.ptr 0 0)), (5, (.d (.int .i64)))], [(.st 1)], 0, 50⟩
noncomputable def I_ref04_one : FI dat := FI.of dat 64 50 0 [(.d (.int .u8)), (.d (.st 1))] [] [(.d (.st 1)), (.d (.int .i64))] [] true k_ref04_one (R := Int × GValue) (fun x => (x.1, x.2.1)) (fun r => (r.2, r.1, ())) (fun n x => go_ref04_one n x.1 x.2.1)
  (fun n => []) (ann [] (Tryz.f64.body.getD .skip) 0).1
noncomputable def t_ref04_one : List (FI dat) := [I_ref03_Is, I_ref01_Floor, I_ref04_whole, I_ref03_Len]
theorem g_ref04_one : (I_ref04_one).Good Tryz.prog dat (tb t_ref04_one) := FI.of_good (hD := dat_ok _) Tryz.func64 Tryz.ntmps64 Tryz.call64 (by kernel_rfl) (of_decide_eq_true (by kernel_rfl)) (by kernel_rfl) (fun n => by kernel_rfl) (fun x => by kernel_rfl) (fun _ => rfl) trivial
  (fun n => fun x => (go_ref04_one.eq_2 x.1 x.2.1 n).trans (by kernel_rfl))
  (fun n => trivial)
  (fun x => .inl rfl)
theorem r_ref04_one : OkL Tryz.prog [I_ref04_one] := one_ok (dat_ok _) (bs := [I_ref03_Is, I_ref01_Floor, I_ref04_whole, I_ref03_Len]) ⟨ok_ref03_Is, ok_ref01_Floor, ok_ref04_whole, ok_ref03_Len, trivial⟩ g_ref04_one
theorem ok_ref04_one : FOk Tryz.prog I_ref04_one := r_ref04_one.1
def go_ref03_both : Nat → GValue → GValue → Option Int
  | 0, _, _ => none
  | n + 1, a0, a1 => 
    (go_ref03_Check n a0.re).bind fun y0 =>
    pIf (y0 != 0)
      ((go_ref03_Check n a0.re).bind fun y1 =>
      some y1)
      ((go_ref03_Check n a1.re).bind fun y2 =>
      some y2)
def k_ref03_both : LSh := ⟨[(4, (.d (.int .i64)))], [], 0, 12⟩
noncomputable def I_ref03_both : FI dat := FI.of dat 121 12 0 [(.d (.st 1)), (.d (.st 1))] [] [(.d (.int .i64))] [] true k_ref03_both (R := Int) (fun x => x.1) (fun r => (r, ())) (fun n x => go_ref03_both n x.1 x.2.1)
  (fun n => []) (ann [] (Tryz.f121.body.getD .skip) 0).1
noncomputable def t_ref03_both : List (FI dat) := [I_ref03_Check]
theorem g_ref03_both : (I_ref03_both).Good Tryz.prog dat (tb t_ref03_both) := FI.of_good (hD := dat_ok _) Tryz.func121 Tryz.ntmps121 Tryz.call121 (by kernel_rfl) (of_decide_eq_true (by kernel_rfl)) (by kernel_rfl) (fun n => by kernel_rfl) (fun x => by kernel_rfl) (fun _ => rfl) trivial
  (fun n => fun x => (go_ref03_both.eq_2 x.1 x.2.1 n).trans (by kernel_rfl))
  (fun n => trivial)
  (fun x => .inl rfl)
theorem r_ref03_both : OkL Tryz.prog [I_ref03_both] := one_ok (dat_ok _) (bs := [I_ref03_Check]) ⟨ok_ref03_Check, trivial⟩ g_ref03_both
theorem ok_ref03_both : FOk Tryz.prog I_ref03_both := r_ref03_both.1
def go_ref01_Both : Nat → GRatio → GRatio → Option Int
  | 0, _, _ => none
  | n + 1, a0, a1 => 
    (go_ref01_Check n a0).bind fun y0 =>
    pIf (y0 != 0)
      ((go_ref01_Check n a0).bind fun y1 =>
      some y1)
      ((go_ref01_Check n a1).bind fun y2 =>
      some y2)
def k_ref01_Both : LSh := ⟨[(4, (.d (.int .i64)))], [], 0, 12⟩
noncomputable def I_ref01_Both : FI dat := FI.of dat 125 12 0 [(.d (.st 0)), (.d (.st 0))] [] [(.d (.int .i64))] [] true k_ref01_Both (R := Int) (fun x => x.1) (fun r => (r, ())) (fun n x => go_ref01_Both n x.1 x.2.1)
  (fun n => []) (ann [] (Tryz.f125.body.getD .skip) 0).1
noncomputable def t_ref01_Both : List (FI dat) := [I_ref01_Check]
theorem g_ref01_Both : (I_ref01_Both).Good Tryz.prog dat (tb t_ref01_Both) := FI.of_good (hD := dat_ok _) Tryz.func125 Tryz.ntmps125 Tryz.call125 (by kernel_rfl) (of_decide_eq_true (by kernel_rfl)) (by kernel_rfl) (fun n => by kernel_rfl) (fun x => by kernel_rfl) (fun _ => rfl) trivial
  (fun n => fun x => (go_ref01_Both.eq_2 x.1 x.2.1 n).trans (by kernel_rfl))
  (fun n => trivial)
  (fun x => .inl rfl)
theorem r_ref01_Both : OkL Tryz.prog [I_ref01_Both] := one_ok (dat_ok _) (bs := [I_ref01_Check]) ⟨ok_ref01_Check, trivial⟩ g_ref01_Both
theorem ok_ref01_Both : FOk Tryz.prog I_ref01_Both := r_ref01_Both.1
mutual
def go_ref01_Make : Nat → Int → Int → Option (Int × GRatio)
  | 0, _, _ => none
  | n + 1, a0, a1 => 
    pIf (a1 == 0)
      (some (18, (GRatio.mk 0 0)))
      (pIf (a0 == (-9223372036854775808))
        (go_ref01_Make_L0 n a1 a0 (a1 == (-9223372036854775808)) (GRatio.mk 0 0))
        (go_ref01_Make_L0 n a1 a0 false (GRatio.mk 0 0)))
def go_ref01_Make_L0 : Nat → Int → Int → Bool → GRatio → Option (Int × GRatio)
  | 0, _, _, _, _ => none
  | n + 1, a0, a1, a2, a3 => 
    pIf a2
      (some (0, (GRatio.mk 1 1)))
      (pIf (a1 == (-9223372036854775808))
        (go_ref01_Make_L1 n a0 a1 true a3)
        (go_ref01_Make_L1 n a0 a1 (a0 == (-9223372036854775808)) a3))
def go_ref01_Make_L1 : Nat → Int → Int → Bool → GRatio → Option (Int × GRatio)
  | 0, _, _, _, _ => none
  | n + 1, a0, a1, a2, a3 => 
    pIf a2
      ((rem .i64 a1 2).bind fun x0 =>
      pIf (x0 == 0)
        ((rem .i64 a0 2).bind fun x1 =>
        go_ref01_Make_L2 n a0 a1 (x1 == 0) a3)
        (go_ref01_Make_L2 n a0 a1 false a3))
      (pIf (decide (a0 < 0))
        (go_ref01_Make_L3 n (IntKind.i64.wrap (0 - a0)) (IntKind.i64.wrap (0 - a1)) a3)
        (go_ref01_Make_L3 n a0 a1 a3))
def go_ref01_Make_L2 : Nat → Int → Int → Bool → GRatio → Option (Int × GRatio)
  | 0, _, _, _, _ => none
  | n + 1, a0, a1, a2, a3 => 
    pIf a2
      ((quo .i64 a1 2).bind fun x2 =>
      (quo .i64 a0 2).bind fun x3 =>
      (go_ref01_Make n x2 x3).bind fun y4 =>
      some (y4.1, y4.2))
      (some (16, (GRatio.mk 0 0)))
def go_ref01_Make_L3 : Nat → Int → Int → GRatio → Option (Int × GRatio)
  | 0, _, _, _ => none
  | n + 1, a0, a1, a2 => 
    (go_ref01_common n a1 a0).bind fun y5 =>
    (quo .i64 a1 y5).bind fun x6 =>
    (quo .i64 a0 y5).bind fun x7 =>
    (go_ref01_Check n (GRatio.mk x6 x7)).bind fun y8 =>
    pIf (y8 != 0)
      (some (16, (GRatio.mk 0 0)))
      (some (0, (GRatio.mk x6 x7)))
end
def k_ref01_Make : LSh := ⟨[(4, (.ptr 0 0)), (5, (.d (.int .i64)))], [(.st 0)], 0, 61⟩
noncomputable def I_ref01_Make : FI dat := FI.of dat 126 61 0 [(.d (.int .i64)), (.d (.int .i64))] [] [(.d (.st 0)), (.d (.int .i64))] [] true k_ref01_Make (R := Int × GRatio) (fun x => (x.1, x.2.1)) (fun r => (r.2, r.1, ())) (fun n x => go_ref01_Make n x.1 x.2.1)
  (fun n => [(0, ⟨⟨[(4, (.ptr 0 0)), (1, (.d (.int .i64))), (0, (.d (.int .i64))), (16, (.d .bool))], [(.st 0)], 0, 61⟩, fun x => go_ref01_Make_L0 n x.1 x.2.1 x.2.2.1 x.2.2.2.1⟩), (1, ⟨⟨[(4, (.ptr 0 0)), (1, (.d (.int .i64))), (0, (.d (.int .i64))), (23, (.d .bool))], [(.st 0)], 0, 61⟩, fun x => go_ref01_Make_L1 n x.1 x.2.1 x.2.2.1 x.2.2.2.1⟩), (2, ⟨⟨[(4, (.ptr 0 0)), (1, (.d (.int .i64))), (0, (.d (.int .i64))), (31, (.d .bool))], [(.st 0)], 0, 61⟩, fun x => go_ref01_Make_L2 n x.1 x.2.1 x.2.2.1 x.2.2.2.1⟩), (3, ⟨⟨[(4, (.ptr 0 0)), (1, (.d (.int .i64))), (0, (.d (.int .i64)))], [(.st 0)], 0, 61⟩, fun x => go_ref01_Make_L3 n x.1 x.2.1 x.2.2.1⟩)]) (ann [(13, 0), (21, 1), (25, 2), (40, 3)] (Tryz.f126.body.getD .skip) 0).1
noncomputable def t_ref01_Make : List (FI dat) := [I_ref01_Make] ++ [I_ref01_common, I_ref01_Check]
theorem g_ref01_Make : (I_ref01_Make).Good Tryz.prog dat (tb t_ref01_Make) := FI.of_good (hD := dat_ok _) Tryz.func126 Tryz.ntmps126 Tryz.call126 (by kernel_rfl) (of_decide_eq_true (by kernel_rfl)) (by kernel_rfl) (fun n => by kernel_rfl) (fun x => by kernel_rfl) (fun _ => rfl) ⟨fun _ => rfl, fun _ => rfl, fun _ => rfl, fun _ => rfl, trivial⟩
  (fun n => fun x => (go_ref01_Make.eq_2 x.1 x.2.1 n).trans (by kernel_rfl))
  (fun n => ⟨fun x => (go_ref01_Make_L0.eq_2 x.1 x.2.1 x.2.2.1 x.2.2.2.1 n).trans (by kernel_rfl),
    fun x => (go_ref01_Make_L1.eq_2 x.1 x.2.1 x.2.2.1 x.2.2.2.1 n).trans (by kernel_rfl),
    fun x => (go_ref01_Make_L2.eq_2 x.1 x.2.1 x.2.2.1 x.2.2.2.1 n).trans (by kernel_rfl),
    fun x => (go_ref01_Make_L3.eq_2 x.1 x.2.1 x.2.2.1 n).trans (by kernel_rfl),
    trivial⟩)
  (fun x => .inl rfl)
theorem r_ref01_Make : OkL Tryz.prog [I_ref01_Make] := ring_ok (dat_ok _) (bs := [I_ref01_common, I_ref01_Check]) ⟨ok_ref01_common, ok_ref01_Check, trivial⟩ ⟨g_ref01_Make, trivial⟩
theorem ok_ref01_Make : FOk Tryz.prog I_ref01_Make := r_ref01_Make.1
end Go.Proofs.YtfhpamcehnfhoaaGreat

namespace Go.Proofs.YtfhpamcehnfhoaaGreat
open Go Go.Ab
set_option linter.unusedVariables false
set_option maxRecDepth 100000
def go_ref01_Add : Nat → GRatio → GRatio → Option (Int × GRatio)
  | 0, _, _ => none
  | n + 1, a0, a1 => 
    (go_ref01_Both n a0 a1).bind fun y0 =>
    pIf (y0 != 0)
      ((go_ref01_Both n a0 a1).bind fun y1 =>
      some (y1, (GRatio.mk 0 0)))
      ((go_ref01_Make n (IntKind.i64.wrap ((IntKind.i64.wrap (a0.num * a1.den)) + (IntKind.i64.wrap (a1.num * a0.den)))) (IntKind.i64.wrap (a0.den * a1.den))).bind fun y2 =>
      some (y2.1, y2.2))
def k_ref01_Add : LSh := ⟨[(4, (.ptr 0 0)), (5, (.d (.int .i64)))], [(.st 0)], 0, 33⟩
noncomputable def I_ref01_Add : FI dat := FI.of dat 122 33 0 [(.d (.st 0)), (.d (.st 0))] [] [(.d (.st 0)), (.d (.int .i64))] [] true k_ref01_Add (R := Int × GRatio) (fun x => (x.1, x.2.1)) (fun r => (r.2, r.1, ())) (fun n x => go_ref01_Add n x.1 x.2.1)
  (fun n => []) (ann [] (Tryz.f122.body.getD .skip) 0).1
noncomputable def t_ref01_Add : List (FI dat) := [I_ref01_Both, I_ref01_Make]
theorem g_ref01_Add : (I_ref01_Add).Good Tryz.prog dat (tb t_ref01_Add) := FI.of_good (hD := dat_ok _) Tryz.func122 Tryz.ntmps122 Tryz.call122 (by kernel_rfl) (of_decide_eq_true (by kernel_rfl)) (by kernel_rfl) (fun n => by kernel_rfl) (fun x => by kernel_rfl) (fun _ => rfl) trivial
  (fun n => fun x => (go_ref01_Add.eq_2 x.1 x.2.1 n).trans (by kernel_rfl))
  (fun n => trivial)
  (fun x => .inl rfl)
theorem r_ref01_Add : OkL Tryz.prog [I_ref01_Add] := one_ok (dat_ok _) (bs := [I_ref01_Both, I_ref01_Make]) ⟨ok_ref01_Both, ok_ref01_Make, trivial⟩ g_ref01_Add
theorem ok_ref01_Add : FOk Tryz.prog I_ref01_Add := r_ref01_Add.1
def go_ref03_Str : Nat → (List UInt8) → Option GValue
  | 0, _ => none
  | n + 1, a0 => 
    some (GValue.mk 3 (GRatio.mk 0 0) false a0 [])
def k_ref03_Str : LSh := ⟨[(2, (.ptr 0 0))], [(.st 1)], 0, 5⟩
noncomputable def I_ref03_Str : FI dat := FI.of dat 123 5 0 [(.d .str)] [] [(.d (.st 1))] [] true k_ref03_Str (R := GValue) (fun x => x.1) (fun r => (r, ())) (fun n x => go_ref03_Str n x.1)
  (fun n => []) (ann [] (Tryz.f123.body.getD .skip) 0).1
noncomputable def t_ref03_Str : List (FI dat) := []
theorem g_ref03_Str : (I_ref03_Str).Good Tryz.prog dat (tb t_ref03_Str) := FI.of_good (hD := dat_ok _) Tryz.func123 Tryz.ntmps123 Tryz.call123 (by kernel_rfl) (of_decide_eq_true (by kernel_rfl)) (by kernel_rfl) (fun n => by kernel_rfl) (fun x => by kernel_rfl) (fun _ => rfl) trivial
  (fun n => fun x => (go_ref03_Str.eq_2 x.1 n).trans (by kernel_rfl))
  (fun n => trivial)
  (fun x => .inl rfl)
theorem r_ref03_Str : OkL Tryz.prog [I_ref03_Str] := one_ok (dat_ok _) (bs := []) trivial g_ref03_Str
theorem ok_ref03_Str : FOk Tryz.prog I_ref03_Str := r_ref03_Str.1
mutual
def go_ref03_Twin : Nat → GValue → Option GValue
  | 0, _ => none
  | n + 1, a0 => 
    go_ref03_Twin_L0 n 0 a0.kind a0.num.num a0.num.den a0.truth a0.str a0.re 0 0 0 false [] [] []
def go_ref03_Twin_L0 : Nat → Int → Int → Int → Int → Bool → (List UInt8) → GValue → Int → Int → Int → Bool → (List UInt8) → (List GValue) → (List GValue) → Option GValue
  | 0, _, _, _, _, _, _, _, _, _, _, _, _, _, _ => none
  | n + 1, a0, a1, a2, a3, a4, a5, a6, a7, a8, a9, a10, a11, a12, a13 => 
    pIf (decide (a0 < (a6.list.length : Int)))
      ((ix a6.list a0).bind fun x0 =>
      (go_ref03_Twin n x0.re).bind fun y1 =>
      (ext a12 [y1.re]).bind fun x2 =>
      go_ref03_Twin_L0 n (IntKind.i64.wrap (a0 + 1)) a1 a2 a3 a4 a5 a6.re a7 a8 a9 a10 a11 x2 a13)
      (some (GValue.mk a1 (GRatio.mk a2 a3) a4 a5 a12))
end
def k_ref03_Twin : LSh := ⟨[(2, (.ptr 0 0))], [(.st 1)], 0, 26⟩
noncomputable def I_ref03_Twin : FI dat := FI.of dat 28 26 0 [(.d (.st 1))] [] [(.d (.st 1))] [] true k_ref03_Twin (R := GValue) (fun x => x.1) (fun r => (r, ())) (fun n x => go_ref03_Twin n x.1)
  (fun n => [(0, ⟨⟨[(4, (.d (.int .i64))), (3, (.ptr 0 0)), (1, (.ptr 1 0)), (2, (.ptr 2 0))], [(.cells [(.d (.int .u8)), (.d (.int .i64)), (.d (.int .i64)), (.d .bool), (.d .str), (.own 3)]), (.st 1), (.cells [(.d (.int .u8)), (.d (.int .i64)), (.d (.int .i64)), (.d .bool), (.d .str), (.own 4)]), (.acc 26 (.st 1) true), (.acc 26 (.st 1) true)], 0, 26⟩, fun x => go_ref03_Twin_L0 n x.1 x.2.1 x.2.2.1 x.2.2.2.1 x.2.2.2.2.1 x.2.2.2.2.2.1 x.2.2.2.2.2.2.1 x.2.2.2.2.2.2.2.1 x.2.2.2.2.2.2.2.2.1 x.2.2.2.2.2.2.2.2.2.1 x.2.2.2.2.2.2.2.2.2.2.1 x.2.2.2.2.2.2.2.2.2.2.2.1 x.2.2.2.2.2.2.2.2.2.2.2.2.1 x.2.2.2.2.2.2.2.2.2.2.2.2.2.1⟩)]) (ann [(10, 0)] (Tryz.f28.body.getD .skip) 0).1
noncomputable def t_ref03_Twin : List (FI dat) := [I_ref03_Twin] ++ []
theorem g_ref03_Twin : (I_ref03_Twin).Good Tryz.prog dat (tb t_ref03_Twin) := FI.of_good (hD := dat_ok _) Tryz.func28 Tryz.ntmps28 Tryz.call28 (by kernel_rfl) (of_decide_eq_true (by kernel_rfl)) (by kernel_rfl) (fun n => by kernel_rfl) (fun x => by kernel_rfl) (fun _ => rfl) ⟨fun _ => rfl, trivial⟩
  (fun n => fun x => (go_ref03_Twin.eq_2 x.1 n).trans (by kernel_rfl))
  (fun n => ⟨fun x => (go_ref03_Twin_L0.eq_2 x.1 x.2.1 x.2.2.1 x.2.2.2.1 x.2.2.2.2.1 x.2.2.2.2.2.1 x.2.2.2.2.2.2.1 x.2.2.2.2.2.2.2.1 x.2.2.2.2.2.2.2.2.1 x.2.2.2.2.2.2.2.2.2.1 x.2.2.2.2.2.2.2.2.2.2.1 x.2.2.2.2.2.2.2.2.2.2.2.1 x.2.2.2.2.2.2.2.2.2.2.2.2.1 x.2.2.2.2.2.2.2.2.2.2.2.2.2.1 n).trans (by kernel_rfl),
    trivial⟩)
  (fun x => .inl rfl)
theorem r_ref03_Twin : OkL Tryz.prog [I_ref03_Twin] := ring_ok (dat_ok _) (bs := []) trivial ⟨g_ref03_Twin, trivial⟩
theorem ok_ref03_Twin : FOk Tryz.prog I_ref03_Twin := r_ref03_Twin.1
mutual
def go_ref03_Twin_s2 : Nat → GValue → Option (Int × Int × Int × Bool × (List UInt8) × (List GValue))
  | 0, _ => none
  | n + 1, a0 => 
    go_ref03_Twin_s2_L0 n 0 a0.kind a0.num.num a0.num.den a0.truth a0.str a0.re 0 0 0 false [] [] []
def go_ref03_Twin_s2_L0 : Nat → Int → Int → Int → Int → Bool → (List UInt8) → GValue → Int → Int → Int → Bool → (List UInt8) → (List GValue) → (List GValue) → Option (Int × Int × Int × Bool × (List UInt8) × (List GValue))
  | 0, _, _, _, _, _, _, _, _, _, _, _, _, _, _ => none
  | n + 1, a0, a1, a2, a3, a4, a5, a6, a7, a8, a9, a10, a11, a12, a13 => 
    pIf (decide (a0 < (a6.list.length : Int)))
      ((ix a6.list a0).bind fun x0 =>
      (go_ref03_Twin n x0.re).bind fun y1 =>
      (ext a12 [y1.re]).bind fun x2 =>
      go_ref03_Twin_s2_L0 n (IntKind.i64.wrap (a0 + 1)) a1 a2 a3 a4 a5 a6.re a7 a8 a9 a10 a11 x2 a13)
      (some (a1, a2, a3, a4, a5, a12))
end
def k_ref03_Twin_s2 : LSh := ⟨[(2, (.ptr 0 0))], [(.cells [(.d (.int .u8)), (.d (.int .i64)), (.d (.int .i64)), (.d .bool), (.d .str), (.own 1)]), (.acc 26 (.st 1) true)], 0, 26⟩
noncomputable def I_ref03_Twin_s2 : FI dat := FI.of dat 28 26 0 [(.d (.st 1))] [] [(.agg [(.d (.int .u8)), (.d (.int .i64)), (.d (.int .i64)), (.d .bool), (.d .str), (.own 1)])] [(.cells [(.d (.int .u8)), (.d (.int .i64)), (.d (.int .i64)), (.d .bool), (.d .str), (.own 1)]), (.acc 26 (.st 1) true)] false k_ref03_Twin_s2 (R := Int × Int × Int × Bool × (List UInt8) × (List GValue)) (fun x => (x.1, x.2.1, x.2.2.1, x.2.2.2.1, x.2.2.2.2.1, x.2.2.2.2.2.1)) (fun r => (r.1, r.2.1, r.2.2.1, r.2.2.2.1, r.2.2.2.2.1, r.1, r.2.1, r.2.2.1, r.2.2.2.1, r.2.2.2.2.1, r.2.2.2.2.2, ())) (fun n x => go_ref03_Twin_s2 n x.1)
  (fun n => [(0, ⟨⟨[(4, (.d (.int .i64))), (3, (.ptr 0 0)), (1, (.ptr 1 0)), (2, (.ptr 2 0))], [(.cells [(.d (.int .u8)), (.d (.int .i64)), (.d (.int .i64)), (.d .bool), (.d .str), (.own 3)]), (.st 1), (.cells [(.d (.int .u8)), (.d (.int .i64)), (.d (.int .i64)), (.d .bool), (.d .str), (.own 4)]), (.acc 26 (.st 1) true), (.acc 26 (.st 1) true)], 0, 26⟩, fun x => go_ref03_Twin_s2_L0 n x.1 x.2.1 x.2.2.1 x.2.2.2.1 x.2.2.2.2.1 x.2.2.2.2.2.1 x.2.2.2.2.2.2.1 x.2.2.2.2.2.2.2.1 x.2.2.2.2.2.2.2.2.1 x.2.2.2.2.2.2.2.2.2.1 x.2.2.2.2.2.2.2.2.2.2.1 x.2.2.2.2.2.2.2.2.2.2.2.1 x.2.2.2.2.2.2.2.2.2.2.2.2.1 x.2.2.2.2.2.2.2.2.2.2.2.2.2.1⟩)]) (ann [(10, 0)] (Tryz.f28.body.getD .skip) 0).1
noncomputable def t_ref03_Twin_s2 : List (FI dat) := [I_ref03_Twin]
theorem g_ref03_Twin_s2 : (I_ref03_Twin_s2).Good Tryz.prog dat (tb t_ref03_Twin_s2) := FI.of_good (hD := dat_ok _) Tryz.func28 Tryz.ntmps28 Tryz.call28 (by kernel_rfl) (of_decide_eq_true (by kernel_rfl)) (by kernel_rfl) (fun n => by kernel_rfl) (fun x => by kernel_rfl) (fun _ => rfl) ⟨fun _ => rfl, trivial⟩
  (fun n => fun x => (go_ref03_Twin_s2.eq_2 x.1 n).trans (by kernel_rfl))
  (fun n => ⟨fun x => (go_ref03_Twin_s2_L0.eq_2 x.1 x.2.1 x.2.2.1 x.2.2.2.1 x.2.2.2.2.1 x.2.2.2.2.2.1 x.2.2.2.2.2.2.1 x.2.2.2.2.2.2.2.1 x.2.2.2.2.2.2.2.2.1 x.2.2.2.2.2.2.2.2.2.1 x.2.2.2.2.2.2.2.2.2.2.1 x.2.2.2.2.2.2.2.2.2.2.2.1 x.2.2.2.2.2.2.2.2.2.2.2.2.1 x.2.2.2.2.2.2.2.2.2.2.2.2.2.1 n).trans (by kernel_rfl),
    trivial⟩)
  (fun x => .inr (by kernel_rfl))
theorem r_ref03_Twin_s2 : OkL Tryz.prog [I_ref03_Twin_s2] := one_ok (dat_ok _) (bs := [I_ref03_Twin]) ⟨ok_ref03_Twin, trivial⟩ g_ref03_Twin_s2
theorem ok_ref03_Twin_s2 : FOk Tryz.prog I_ref03_Twin_s2 := r_ref03_Twin_s2.1
mutual
def go_ref03_Add : Nat → GValue → GValue → Option (Int × GValue)
  | 0, _, _ => none
  | n + 1, a0, a1 => 
    (go_ref03_both n a0.re a1.re).bind fun y0 =>
    pIf (y0 != 0)
      ((go_ref03_both n a0.re a1.re).bind fun y1 =>
      some (y1, (GValue.mk 0 (GRatio.mk 0 0) false [] [])))
      (pIf (a0.kind != a1.kind)
        (go_ref03_Add_L0 n true 0 0 0 false [] a1.re a0.re [])
        (go_ref03_Add_L0 n (a0.kind == 2) 0 0 0 false [] a1.re a0.re []))
def go_ref03_Add_L0 : Nat → Bool → Int → Int → Int → Bool → (List UInt8) → GValue → GValue → (List GValue) → Option (Int × GValue)
  | 0, _, _, _, _, _, _, _, _, _ => none
  | n + 1, a0, a1, a2, a3, a4, a5, a6, a7, a8 => 
    pIf a0
      (some (20, (GValue.mk 0 (GRatio.mk 0 0) false [] [])))
      (pIf (a7.kind == 1)
        ((go_ref01_Add n a7.num a6.num).bind fun y2 =>
        pIf (y2.1 != 0)
          (some (y2.1, (GValue.mk 0 (GRatio.mk 0 0) false [] [])))
          ((go_ref03_Of n y2.2).bind fun y3 =>
          some (0, y3.re)))
        (pIf (a7.kind == 3)
          (pIf (decide ((IntKind.i64.wrap ((a7.str.length : Int) + (a6.str.length : Int))) > 60))
            (some (4, (GValue.mk 0 (GRatio.mk 0 0) false [] [])))
            ((cat a7.str a6.str).bind fun x4 =>
            (go_ref03_Str n x4).bind fun y5 =>
            some (0, y5.re)))
          ((go_ref03_Twin_s2 n a7.re).bind fun y6 =>
          (go_ref03_Twin_s2 n a6.re).bind fun y7 =>
          (ext y6.2.2.2.2.2 y7.2.2.2.2.2).bind fun x8 =>
          (go_ref03_Parts n (GValue.mk y6.1 (GRatio.mk y6.2.1 y6.2.2.1) y6.2.2.2.1 y6.2.2.2.2.1 x8)).bind fun y9 =>
          pIf (decide (y9 > 100))
            (some (4, (GValue.mk 0 (GRatio.mk 0 0) false [] [])))
            (some (0, (GValue.mk y6.1 (GRatio.mk y6.2.1 y6.2.2.1) y6.2.2.2.1 y6.2.2.2.2.1 x8))))))
end
def k_ref03_Add : LSh := ⟨[(4, (.ptr 0 0)), (5, (.d (.int .i64)))], [(.st 1)], 0, 77⟩
noncomputable def I_ref03_Add : FI dat := FI.of dat 86 77 0 [(.d (.st 1)), (.d (.st 1))] [] [(.d (.st 1)), (.d (.int .i64))] [] true k_ref03_Add (R := Int × GValue) (fun x => (x.1, x.2.1)) (fun r => (r.2, r.1, ())) (fun n x => go_ref03_Add n x.1 x.2.1)
  (fun n => [(0, ⟨⟨[(4, (.ptr 0 0)), (3, (.ptr 1 0)), (2, (.ptr 2 0)), (26, (.d .bool))], [(.cells [(.d (.int .u8)), (.d (.int .i64)), (.d (.int .i64)), (.d .bool), (.d .str), (.own 3)]), (.st 1), (.st 1), (.acc 26 (.st 1) true)], 0, 77⟩, fun x => go_ref03_Add_L0 n x.1 x.2.1 x.2.2.1 x.2.2.2.1 x.2.2.2.2.1 x.2.2.2.2.2.1 x.2.2.2.2.2.2.1 x.2.2.2.2.2.2.2.1 x.2.2.2.2.2.2.2.2.1⟩)]) (ann [(13, 0)] (Tryz.f86.body.getD .skip) 0).1
noncomputable def t_ref03_Add : List (FI dat) := [I_ref03_both, I_ref01_Add, I_ref03_Of, I_ref03_Str, I_ref03_Twin_s2, I_ref03_Parts]
theorem g_ref03_Add : (I_ref03_Add).Good Tryz.prog dat (tb t_ref03_Add) := FI.of_good (hD := dat_ok _) Tryz.func86 Tryz.ntmps86 Tryz.call86 (by kernel_rfl) (of_decide_eq_true (by kernel_rfl)) (by kernel_rfl) (fun n => by kernel_rfl) (fun x => by kernel_rfl) (fun _ => rfl) ⟨fun _ => rfl, trivial⟩
  (fun n => fun x => (go_ref03_Add.eq_2 x.1 x.2.1 n).trans (by kernel_rfl))
  (fun n => ⟨fun x => (go_ref03_Add_L0.eq_2 x.1 x.2.1 x.2.2.1 x.2.2.2.1 x.2.2.2.2.1 x.2.2.2.2.2.1 x.2.2.2.2.2.2.1 x.2.2.2.2.2.2.2.1 x.2.2.2.2.2.2.2.2.1 n).trans (by kernel_rfl),
    trivial⟩)
  (fun x => .inl rfl)
theorem r_ref03_Add : OkL Tryz.prog [I_ref03_Add] := one_ok (dat_ok _) (bs := [I_ref03_both, I_ref01_Add, I_ref03_Of, I_ref03_Str, I_ref03_Twin_s2, I_ref03_Parts]) ⟨ok_ref03_both, ok_ref01_Add, ok_ref03_Of, ok_ref03_Str, ok_ref03_Twin_s2, ok_ref03_Parts, trivial⟩ g_ref03_Add
theorem ok_ref03_Add : FOk Tryz.prog I_ref03_Add := r_ref03_Add.1
def go_ref01_Cmp : Nat → GRatio → GRatio → Option (Int × Int)
  | 0, _, _ => none
  | n + 1, a0, a1 => 
    (go_ref01_Both n a0 a1).bind fun y0 =>
    pIf (y0 != 0)
      ((go_ref01_Both n a0 a1).bind fun y1 =>
      some (0, y1))
      (pIf (decide ((IntKind.i64.wrap (a0.num * a1.den)) < (IntKind.i64.wrap (a1.num * a0.den))))
        (some ((-1), 0))
        (pIf (decide ((IntKind.i64.wrap (a0.num * a1.den)) > (IntKind.i64.wrap (a1.num * a0.den))))
          (some (1, 0))
          (some (0, 0))))
def k_ref01_Cmp : LSh := ⟨[(4, (.d (.int .i64))), (5, (.d (.int .i64)))], [], 0, 35⟩
noncomputable def I_ref01_Cmp : FI dat := FI.of dat 141 35 0 [(.d (.st 0)), (.d (.st 0))] [] [(.d (.int .i64)), (.d (.int .i64))] [] true k_ref01_Cmp (R := Int × Int) (fun x => (x.1, x.2.1)) (fun r => (r.1, r.2, ())) (fun n x => go_ref01_Cmp n x.1 x.2.1)
  (fun n => []) (ann [] (Tryz.f141.body.getD .skip) 0).1
noncomputable def t_ref01_Cmp : List (FI dat) := [I_ref01_Both]
theorem g_ref01_Cmp : (I_ref01_Cmp).Good Tryz.prog dat (tb t_ref01_Cmp) := FI.of_good (hD := dat_ok _) Tryz.func141 Tryz.ntmps141 Tryz.call141 (by kernel_rfl) (of_decide_eq_true (by kernel_rfl)) (by kernel_rfl) (fun n => by kernel_rfl) (fun x => by kernel_rfl) (fun _ => rfl) trivial
  (fun n => fun x => (go_ref01_Cmp.eq_2 x.1 x.2.1 n).trans (by kernel_rfl))
  (fun n => trivial)
  (fun x => .inl rfl)
theorem r_ref01_Cmp : OkL Tryz.prog [I_ref01_Cmp] := one_ok (dat_ok _) (bs := [I_ref01_Both]) ⟨ok_ref01_Both, trivial⟩ g_ref01_Cmp
theorem ok_ref01_Cmp : FOk Tryz.prog I_ref01_Cmp := r_ref01_Cmp.1
mutual
def go_ref03_compare : Nat → GValue → GValue → Option (Int × Int)
  | 0, _, _ => none
  | n + 1, a0, a1 => 
    pIf (a0.kind != a1.kind)
      (some (0, 20))
      (pIf (a0.kind == 1)
        ((go_ref01_Cmp n a0.num a1.num).bind fun y0 =>
        some (y0.1, 0))
        (pIf (a0.kind == 2)
          (pIf (a0.truth == a1.truth)
            (some (0, 0))
            (pIf a1.truth
              (some ((-1), 0))
              (some (1, 0))))
          (pIf (a0.kind == 3)
            (pIf (a0.str == a1.str)
              (some (0, 0))
              (pIf (Op.bytesLess a0.str a1.str)
                (some ((-1), 0))
                (some (1, 0))))
            (go_ref03_compare_L0 n 0 a1.re a0.re))))
def go_ref03_compare_L0 : Nat → Int → GValue → GValue → Option (Int × Int)
  | 0, _, _, _ => none
  | n + 1, a0, a1, a2 => 
    pIf (decide (a0 < (a2.list.length : Int)))
      (go_ref03_compare_L1 n a0 (decide (a0 < (a1.list.length : Int))) a1.re a2.re)
      (go_ref03_compare_L1 n a0 false a1.re a2.re)
def go_ref03_compare_L1 : Nat → Int → Bool → GValue → GValue → Option (Int × Int)
  | 0, _, _, _, _ => none
  | n + 1, a0, a1, a2, a3 => 
    pIf a1
      ((ix a3.list a0).bind fun x1 =>
      (ix a2.list a0).bind fun x2 =>
      (go_ref03_Same n x1.re x2.re).bind fun y3 =>
      pIf (!y3)
        ((ix a3.list a0).bind fun x4 =>
        (ix a2.list a0).bind fun x5 =>
        (go_ref03_compare n x4.re x5.re).bind fun y6 =>
        some (y6.1, y6.2))
        (go_ref03_compare_L0 n (IntKind.i64.wrap (a0 + 1)) a2.re a3.re))
      (pIf (decide ((a3.list.length : Int) < (a2.list.length : Int)))
        (some ((-1), 0))
        (pIf (decide ((a3.list.length : Int) > (a2.list.length : Int)))
          (some (1, 0))
          (some (0, 0))))
end
def k_ref03_compare : LSh := ⟨[(4, (.d (.int .i64))), (5, (.d (.int .i64)))], [], 0, 108⟩
noncomputable def I_ref03_compare : FI dat := FI.of dat 124 108 0 [(.d (.st 1)), (.d (.st 1))] [] [(.d (.int .i64)), (.d (.int .i64))] [] true k_ref03_compare (R := Int × Int) (fun x => (x.1, x.2.1)) (fun r => (r.1, r.2, ())) (fun n x => go_ref03_compare n x.1 x.2.1)
  (fun n => [(0, ⟨⟨[(8, (.d (.int .i64))), (3, (.ptr 0 0)), (2, (.ptr 1 0))], [(.st 1), (.st 1)], 0, 108⟩, fun x => go_ref03_compare_L0 n x.1 x.2.1 x.2.2.1⟩), (1, ⟨⟨[(8, (.d (.int .i64))), (3, (.ptr 0 0)), (2, (.ptr 1 0)), (61, (.d .bool))], [(.st 1), (.st 1)], 0, 108⟩, fun x => go_ref03_compare_L1 n x.1 x.2.1 x.2.2.1 x.2.2.2.1⟩)]) (ann [(71, 0), (75, 1)] (Tryz.f124.body.getD .skip) 0).1
noncomputable def t_ref03_compare : List (FI dat) := [I_ref03_compare] ++ [I_ref01_Cmp, I_ref03_Same]
theorem g_ref03_compare : (I_ref03_compare).Good Tryz.prog dat (tb t_ref03_compare) := FI.of_good (hD := dat_ok _) Tryz.func124 Tryz.ntmps124 Tryz.call124 (by kernel_rfl) (of_decide_eq_true (by kernel_rfl)) (by kernel_rfl) (fun n => by kernel_rfl) (fun x => by kernel_rfl) (fun _ => rfl) ⟨fun _ => rfl, fun _ => rfl, trivial⟩
  (fun n => fun x => (go_ref03_compare.eq_2 x.1 x.2.1 n).trans (by kernel_rfl))
  (fun n => ⟨fun x => (go_ref03_compare_L0.eq_2 x.1 x.2.1 x.2.2.1 n).trans (by kernel_rfl),
    fun x => (go_ref03_compare_L1.eq_2 x.1 x.2.1 x.2.2.1 x.2.2.2.1 n).trans (by kernel_rfl),
    trivial⟩)
  (fun x => .inl rfl)
theorem r_ref03_compare : OkL Tryz.prog [I_ref03_compare] := ring_ok (dat_ok _) (bs := [I_ref01_Cmp, I_ref03_Same]) ⟨ok_ref01_Cmp, ok_ref03_Same, trivial⟩ ⟨g_ref03_compare, trivial⟩
theorem ok_ref03_compare : FOk Tryz.prog I_ref03_compare := r_ref03_compare.1
end Go.Proofs.YtfhpamcehnfhoaaGreat

namespace Go.Proofs.YtfhpamcehnfhoaaGreat
open Go Go.Ab
set_option linter.unusedVariables false
set_option maxRecDepth 100000
def go_ref03_Compare : Nat → GValue → GValue → Option (Int × Int)
  | 0, _, _ => none
  | n + 1, a0, a1 => 
    (go_ref03_both n a0.re a1.re).bind fun y0 =>
    pIf (y0 != 0)
      ((go_ref03_both n a0.re a1.re).bind fun y1 =>
      some (0, y1))
      ((go_ref03_compare n a0.re a1.re).bind fun y2 =>
      some (y2.1, y2.2))
def k_ref03_Compare : LSh := ⟨[(4, (.d (.int .i64))), (5, (.d (.int .i64)))], [], 0, 23⟩
noncomputable def I_ref03_Compare : FI dat := FI.of dat 87 23 0 [(.d (.st 1)), (.d (.st 1))] [] [(.d (.int .i64)), (.d (.int .i64))] [] true k_ref03_Compare (R := Int × Int) (fun x => (x.1, x.2.1)) (fun r => (r.1, r.2, ())) (fun n x => go_ref03_Compare n x.1 x.2.1)
  (fun n => []) (ann [] (Tryz.f87.body.getD .skip) 0).1
noncomputable def t_ref03_Compare : List (FI dat) := [I_ref03_both, I_ref03_compare]
theorem g_ref03_Compare : (I_ref03_Compare).Good Tryz.prog dat (tb t_ref03_Compare) := FI.of_good (hD := dat_ok _) Tryz.func87 Tryz.ntmps87 Tryz.call87 (by kernel_rfl) (of_decide_eq_true (by kernel_rfl)) (by kernel_rfl) (fun n => by kernel_rfl) (fun x => by kernel_rfl) (fun _ => rfl) trivial
  (fun n => fun x => (go_ref03_Compare.eq_2 x.1 x.2.1 n).trans (by kernel_rfl))
  (fun n => trivial)
  (fun x => .inl rfl)
theorem r_ref03_Compare : OkL Tryz.prog [I_ref03_Compare] := one_ok (dat_ok _) (bs := [I_ref03_both, I_ref03_compare]) ⟨ok_ref03_both, ok_ref03_compare, trivial⟩ g_ref03_Compare
theorem ok_ref03_Compare : FOk Tryz.prog I_ref03_Compare := r_ref03_Compare.1
def go_ref01_Sub : Nat → GRatio → GRatio → Option (Int × GRatio)
  | 0, _, _ => none
  | n + 1, a0, a1 => 
    (go_ref01_Both n a0 a1).bind fun y0 =>
    pIf (y0 != 0)
      ((go_ref01_Both n a0 a1).bind fun y1 =>
      some (y1, (GRatio.mk 0 0)))
      ((go_ref01_Make n (IntKind.i64.wrap ((IntKind.i64.wrap (a0.num * a1.den)) - (IntKind.i64.wrap (a1.num * a0.den)))) (IntKind.i64.wrap (a0.den * a1.den))).bind fun y2 =>
      some (y2.1, y2.2))
def k_ref01_Sub : LSh := ⟨[(4, (.ptr 0 0)), (5, (.d (.int .i64)))], [(.st 0)], 0, 33⟩
noncomputable def I_ref01_Sub : FI dat := FI.of dat 89 33 0 [(.d (.st 0)), (.d (.st 0))] [] [(.d (.st 0)), (.d (.int .i64))] [] true k_ref01_Sub (R := Int × GRatio) (fun x => (x.1, x.2.1)) (fun r => (r.2, r.1, ())) (fun n x => go_ref01_Sub n x.1 x.2.1)
  (fun n => []) (ann [] (Tryz.f89.body.getD .skip) 0).1
noncomputable def t_ref01_Sub : List (FI dat) := [I_ref01_Both, I_ref01_Make]
theorem g_ref01_Sub : (I_ref01_Sub).Good Tryz.prog dat (tb t_ref01_Sub) := FI.of_good (hD := dat_ok _) Tryz.func89 Tryz.ntmps89 Tryz.call89 (by kernel_rfl) (of_decide_eq_true (by kernel_rfl)) (by kernel_rfl) (fun n => by kernel_rfl) (fun x => by kernel_rfl) (fun _ => rfl) trivial
  (fun n => fun x => (go_ref01_Sub.eq_2 x.1 x.2.1 n).trans (by kernel_rfl))
  (fun n => trivial)
  (fun x => .inl rfl)
theorem r_ref01_Sub : OkL Tryz.prog [I_ref01_Sub] := one_ok (dat_ok _) (bs := [I_ref01_Both, I_ref01_Make]) ⟨ok_ref01_Both, ok_ref01_Make, trivial⟩ g_ref01_Sub
theorem ok_ref01_Sub : FOk Tryz.prog I_ref01_Sub := r_ref01_Sub.1
def go_ref01_Mul : Nat → GRatio → GRatio → Option (Int × GRatio)
  | 0, _, _ => none
  | n + 1, a0, a1 => 
    (go_ref01_Both n a0 a1).bind fun y0 =>
    pIf (y0 != 0)
      ((go_ref01_Both n a0 a1).bind fun y1 =>
      some (y1, (GRatio.mk 0 0)))
      ((go_ref01_Make n (IntKind.i64.wrap (a0.num * a1.num)) (IntKind.i64.wrap (a0.den * a1.den))).bind fun y2 =>
      some (y2.1, y2.2))
def k_ref01_Mul : LSh := ⟨[(4, (.ptr 0 0)), (5, (.d (.int .i64)))], [(.st 0)], 0, 27⟩
noncomputable def I_ref01_Mul : FI dat := FI.of dat 90 27 0 [(.d (.st 0)), (.d (.st 0))] [] [(.d (.st 0)), (.d (.int .i64))] [] true k_ref01_Mul (R := Int × GRatio) (fun x => (x.1, x.2.1)) (fun r => (r.2, r.1, ())) (fun n x => go_ref01_Mul n x.1 x.2.1)
  (fun n => []) (ann [] (Tryz.f90.body.getD .skip) 0).1
noncomputable def t_ref01_Mul : List (FI dat) := [I_ref01_Both, I_ref01_Make]
theorem g_ref01_Mul : (I_ref01_Mul).Good Tryz.prog dat (tb t_ref01_Mul) := FI.of_good (hD := dat_ok _) Tryz.func90 Tryz.ntmps90 Tryz.call90 (by kernel_rfl) (of_decide_eq_true (by kernel_rfl)) (by kernel_rfl) (fun n => by kernel_rfl) (fun x => by kernel_rfl) (fun _ => rfl) trivial
  (fun n => fun x => (go_ref01_Mul.eq_2 x.1 x.2.1 n).trans (by kernel_rfl))
  (fun n => trivial)
  (fun x => .inl rfl)
theorem r_ref01_Mul : OkL Tryz.prog [I_ref01_Mul] := one_ok (dat_ok _) (bs := [I_ref01_Both, I_ref01_Make]) ⟨ok_ref01_Both, ok_ref01_Make, trivial⟩ g_ref01_Mul
theorem ok_ref01_Mul : FOk Tryz.prog I_ref01_Mul := r_ref01_Mul.1
def go_ref01_Div : Nat → GRatio → GRatio → Option (Int × GRatio)
  | 0, _, _ => none
  | n + 1, a0, a1 => 
    (go_ref01_Both n a0 a1).bind fun y0 =>
    pIf (y0 != 0)
      ((go_ref01_Both n a0 a1).bind fun y1 =>
      some (y1, (GRatio.mk 0 0)))
      ((go_ref01_Make n (IntKind.i64.wrap (a0.num * a1.den)) (IntKind.i64.wrap (a0.den * a1.num))).bind fun y2 =>
      some (y2.1, y2.2))
def k_ref01_Div : LSh := ⟨[(4, (.ptr 0 0)), (5, (.d (.int .i64)))], [(.st 0)], 0, 27⟩
noncomputable def I_ref01_Div : FI dat := FI.of dat 91 27 0 [(.d (.st 0)), (.d (.st 0))] [] [(.d (.st 0)), (.d (.int .i64))] [] true k_ref01_Div (R := Int × GRatio) (fun x => (x.1, x.2.1)) (fun r => (r.2, r.1, ())) (fun n x => go_ref01_Div n x.1 x.2.1)
  (fun n => []) (ann [] (Tryz.f91.body.getD .skip) 0).1
noncomputable def t_ref01_Div : List (FI dat) := [I_ref01_Both, I_ref01_Make]
theorem g_ref01_Div : (I_ref01_Div).Good Tryz.prog dat (tb t_ref01_Div) := FI.of_good (hD := dat_ok _) Tryz.func91 Tryz.ntmps91 Tryz.call91 (by kernel_rfl) (of_decide_eq_true (by kernel_rfl)) (by kernel_rfl) (fun n => by kernel_rfl) (fun x => by kernel_rfl) (fun _ => rfl) trivial
  (fun n => fun x => (go_ref01_Div.eq_2 x.1 x.2.1 n).trans (by kernel_rfl))
  (fun n => trivial)
  (fun x => .inl rfl)
theorem r_ref01_Div : OkL Tryz.prog [I_ref01_Div] := one_ok (dat_ok _) (bs := [I_ref01_Both, I_ref01_Make]) ⟨ok_ref01_Both, ok_ref01_Make, trivial⟩ g_ref01_Div
theorem ok_ref01_Div : FOk Tryz.prog I_ref01_Div := r_ref01_Div.1
mutual
def go_ref03_At : Nat → GValue → Int → Option (Int × GValue)
  | 0, _, _ => none
  | n + 1, a0, a1 => 
    (go_ref03_Len n a0.re).bind fun y0 =>
    pIf (y0.2 != 0)
      (some (y0.2, (GValue.mk 0 (GRatio.mk 0 0) false [] [])))
      (pIf (decide (a1 < 0))
        (go_ref03_At_L0 n a1 true (GValue.mk 0 (GRatio.mk 0 0) false [] []) a0.re)
        (go_ref03_At_L0 n a1 (decide (a1 ≥ y0.1)) (GValue.mk 0 (GRatio.mk 0 0) false [] []) a0.re))
def go_ref03_At_L0 : Nat → Int → Bool → GValue → GValue → Option (Int × GValue)
  | 0, _, _, _, _ => none
  | n + 1, a0, a1, a2, a3 => 
    pIf a1
      (some (2, (GValue.mk 0 (GRatio.mk 0 0) false [] [])))
      (pIf (a3.kind == 3)
        ((sub a3.str a0 (IntKind.i64.wrap (a0 + 1))).bind fun x1 =>
        (go_ref03_Str n x1).bind fun y2 =>
        some (0, y2.re))
        ((ix a3.list a0).bind fun x3 =>
        (go_ref03_Twin n x3.re).bind fun y4 =>
        some (0, y4.re)))
end
def k_ref03_At : LSh := ⟨[(4, (.ptr 0 0)), (5, (.d (.int .i64)))], [(.st 1)], 0, 41⟩
noncomputable def I_ref03_At : FI dat := FI.of dat 88 41 0 [(.d (.st 1)), (.d (.int .i64))] [] [(.d (.st 1)), (.d (.int .i64))] [] true k_ref03_At (R := Int × GValue) (fun x => (x.1, x.2.1)) (fun r => (r.2, r.1, ())) (fun n x => go_ref03_At n x.1 x.2.1)
  (fun n => [(0, ⟨⟨[(4, (.ptr 0 0)), (1, (.d (.int .i64))), (2, (.ptr 1 0)), (23, (.d .bool))], [(.st 1), (.st 1)], 0, 41⟩, fun x => go_ref03_At_L0 n x.1 x.2.1 x.2.2.1 x.2.2.2.1⟩)]) (ann [(15, 0)] (Tryz.f88.body.getD .skip) 0).1
noncomputable def t_ref03_At : List (FI dat) := [I_ref03_Len, I_ref03_Str, I_ref03_Twin]
theorem g_ref03_At : (I_ref03_At).Good Tryz.prog dat (tb t_ref03_At) := FI.of_good (hD := dat_ok _) Tryz.func88 Tryz.ntmps88 Tryz.call88 (by kernel_rfl) (of_decide_eq_true (by kernel_rfl)) (by kernel_rfl) (fun n => by kernel_rfl) (fun x => by kernel_rfl) (fun _ => rfl) ⟨fun _ => rfl, trivial⟩
  (fun n => fun x => (go_ref03_At.eq_2 x.1 x.2.1 n).trans (by kernel_rfl))
  (fun n => ⟨fun x => (go_ref03_At_L0.eq_2 x.1 x.2.1 x.2.2.1 x.2.2.2.1 n).trans (by kernel_rfl),
    trivial⟩)
  (fun x => .inl rfl)
theorem r_ref03_At : OkL Tryz.prog [I_ref03_At] := one_ok (dat_ok _) (bs := [I_ref03_Len, I_ref03_Str, I_ref03_Twin]) ⟨ok_ref03_Len, ok_ref03_Str, ok_ref03_Twin, trivial⟩ g_ref03_At
theorem ok_ref03_At : FOk Tryz.prog I_ref03_At := r_ref03_At.1
def go_ref04_number : Nat → GRatio → Int → Option (Int × GValue)
  | 0, _, _ => none
  | n + 1, a0, a1 => 
    pIf (a1 != 0)
      (some (a1, (GValue.mk 0 (GRatio.mk 0 0) false [] [])))
      ((go_ref03_Of n a0).bind fun y0 =>
      some (0, y0.re))
def k_ref04_number : LSh := ⟨[(4, (.ptr 0 0)), (5, (.d (.int .i64)))], [(.st 1)], 0, 12⟩
noncomputable def I_ref04_number : FI dat := FI.of dat 92 12 0 [(.d (.st 0)), (.d (.int .i64))] [] [(.d (.st 1)), (.d (.int .i64))] [] true k_ref04_number (R := Int × GValue) (fun x => (x.1, x.2.1)) (fun r => (r.2, r.1, ())) (fun n x => go_ref04_number n x.1 x.2.1)
  (fun n => []) (ann [] (Tryz.f92.body.getD .skip) 0).1
noncomputable def t_ref04_number : List (FI dat) := [I_ref03_Of]
theorem g_ref04_number : (I_ref04_number).Good Tryz.prog dat (tb t_ref04_number) := FI.of_good (hD := dat_ok _) Tryz.func92 Tryz.ntmps92 Tryz.call92 (by kernel_rfl) (of_decide_eq_true (by kernel_rfl)) (by kernel_rfl) (fun n => by kernel_rfl) (fun x => by kernel_rfl) (fun _ => rfl) trivial
  (fun n => fun x => (go_ref04_number.eq_2 x.1 x.2.1 n).trans (by kernel_rfl))
  (fun n => trivial)
  (fun x => .inl rfl)
theorem r_ref04_number : OkL Tryz.prog [I_ref04_number] := one_ok (dat_ok _) (bs := [I_ref03_Of]) ⟨ok_ref03_Of, trivial⟩ g_ref04_number
theorem ok_ref04_number : FOk Tryz.prog I_ref04_number := r_ref04_number.1
mutual
def go_ref04_two : Nat → Int → GValue → GValue → Option (Int × GValue)
  | 0, _, _, _ => none
  | n + 1, a0, a1, a2 => 
    pIf (a1.kind == 1)
      (go_ref04_two_L0 n a0 (a2.kind == 1) (GValue.mk 0 (GRatio.mk 0 0) false [] []) a2.re a1.re)
      (go_ref04_two_L0 n a0 false (GValue.mk 0 (GRatio.mk 0 0) false [] []) a2.re a1.re)
def go_ref04_two_L0 : Nat → Int → Bool → GValue → GValue → GValue → Option (Int × GValue)
  | 0, _, _, _, _, _ => none
  | n + 1, a0, a1, a2, a3, a4 => 
    pIf (a4.kind == 2)
      (go_ref04_two_L1 n a0 (a3.kind == 2) a1 a2.re a3.re a4.re)
      (go_ref04_two_L1 n a0 false a1 a2.re a3.re a4.re)
def go_ref04_two_L1 : Nat → Int → Bool → Bool → GValue → GValue → GValue → Option (Int × GValue)
  | 0, _, _, _, _, _, _ => none
  | n + 1, a0, a1, a2, a3, a4, a5 => 
    pIf (a0 == 3)
      ((go_ref03_Add n a5.re a4.re).bind fun y0 =>
      some (y0.1, y0.2.re))
      (pIf (a0 == 8)
        ((go_ref03_Same n a5.re a4.re).bind fun y1 =>
        (go_ref03_Is n y1).bind fun y2 =>
        some (0, y2.re))
        (pIf (a0 == 7)
          (go_ref04_two_L2 n a0 a1 a2 a0 true a3.re a4.re a5.re)
          (pIf (a0 == 13)
            (go_ref04_two_L2 n a0 a1 a2 a0 true a3.re a4.re a5.re)
            (go_ref04_two_L2 n a0 a1 a2 a0 (a0 == 14) a3.re a4.re a5.re))))
def go_ref04_two_L2 : Nat → Int → Bool → Bool → Int → Bool → GValue → GValue → GValue → Option (Int × GValue)
  | 0, _, _, _, _, _, _, _, _ => none
  | n + 1, a0, a1, a2, a3, a4, a5, a6, a7 => 
    pIf a4
      ((go_ref03_Compare n a7.re a6.re).bind fun y3 =>
      pIf (y3.2 != 0)
        (some (y3.2, (GValue.mk 0 (GRatio.mk 0 0) false [] [])))
        (pIf (a0 == 7)
          ((go_ref03_Is n (decide (y3.1 < 0))).bind fun y4 =>
          some (0, y4.re))
          (pIf (a0 == 13)
            (pIf (decide (y3.1 > 0))
              (go_ref04_two_L3 n true a5.re a6.re a7.re)
              (pIf (a0 == 14)
                (go_ref04_two_L3 n (decide (y3.1 < 0)) a5.re a6.re a7.re)
                (go_ref04_two_L3 n false a5.re a6.re a7.re)))
            (pIf (a0 == 14)
              (go_ref04_two_L3 n (decide (y3.1 < 0)) a5.re a6.re a7.re)
              (go_ref04_two_L3 n false a5.re a6.re a7.re)))))
      (pIf (a3 == 9)
        (go_ref04_two_L4 n a0 a1 a2 a3 true a5.re a6.re a7.re)
        (go_ref04_two_L4 n a0 a1 a2 a3 (a3 == 10) a5.re a6.re a7.re))
def go_ref04_two_L3 : Nat → Bool → GValue → GValue → GValue → Option (Int × GValue)
  | 0, _, _, _, _ => none
  | n + 1, a0, a1, a2, a3 => 
    pIf a0
      (some (0, a2.re))
      (some (0, a3.re))
def go_ref04_two_L4 : Nat → Int → Bool → Bool → Int → Bool → GValue → GValue → GValue → Option (Int × GValue)
  | 0, _, _, _, _, _, _, _, _ => none
  | n + 1, a0, a1, a2, a3, a4, a5, a6, a7 => 
    pIf a4
      (pIf (!a1)
        (some (20, (GValue.mk 0 (GRatio.mk 0 0) false [] [])))
        (pIf a7.truth
          (pIf a6.truth
            ((go_ref03_Is n true).bind fun y5 =>
            some (0, y5.re))
            (pIf (a0 == 10)
              (pIf a7.truth
                ((go_ref03_Is n true).bind fun y6 =>
                some (0, y6.re))
                ((go_ref03_Is n a6.truth).bind fun y7 =>
                some (0, y7.re)))
              ((go_ref03_Is n false).bind fun y8 =>
              some (0, y8.re))))
          (pIf (a0 == 10)
            (pIf a7.truth
              ((go_ref03_Is n true).bind fun y9 =>
              some (0, y9.re))
              ((go_ref03_Is n a6.truth).bind fun y10 =>
              some (0, y10.re)))
            ((go_ref03_Is n false).bind fun y11 =>
            some (0, y11.re)))))
      (pIf (a3 == 17)
        (pIf (a6.kind != 1)
          (go_ref04_two_L5 n true a5.re a6.re a7.re)
          (pIf (a7.kind != 4)
            (go_ref04_two_L5 n (a7.kind != 3) a5.re a6.re a7.re)
            (go_ref04_two_L5 n false a5.re a6.re a7.re)))
        (pIf (!a2)
          (some (20, (GValue.mk 0 (GRatio.mk 0 0) false [] [])))
          (pIf (a0 == 4)
            ((go_ref01_Sub n a7.num a6.num).bind fun y12 =>
            go_ref04_two_L6 n y12.1 a5.re y12.2)
            (pIf (a0 == 5)
              ((go_ref01_Mul n a7.num a6.num).bind fun y13 =>
              go_ref04_two_L6 n y13.1 a5.re y13.2)
              (pIf (a0 == 6)
                ((go_ref01_Div n a7.num a6.num).bind fun y14 =>
                go_ref04_two_L6 n y14.1 a5.re y14.2)
                (go_ref04_two_L6 n 0 a5.re (GRatio.mk 0 0)))))))
def go_ref04_two_L5 : Nat → Bool → GValue → GValue → GValue → Option (Int × GValue)
  | 0, _, _, _, _ => none
  | n + 1, a0, a1, a2, a3 => 
    pIf a0
      (some (20, (GValue.mk 0 (GRatio.mk 0 0) false [] [])))
      (pIf (a2.num.den != 1)
        (some (2, (GValue.mk 0 (GRatio.mk 0 0) false [] [])))
        ((go_ref03_At n a3.re a2.num.num).bind fun y15 =>
        some (y15.1, y15.2.re)))
def go_ref04_two_L6 : Nat → Int → GValue → GRatio → Option (Int × GValue)
  | 0, _, _, _ => none
  | n + 1, a0, a1, a2 => 
    (go_ref04_number n a2 a0).bind fun y16 =>
    some (y16.1, y16.2.re)
end
def k_ref04_two : LSh := ⟨[(6, (.ptr 0 0)), (7, (.d (.int .i64)))], [(.st 1)], 0, 184⟩
noncomputable def I_ref04_two : FI dat := FI.of dat 65 184 0 [(.d (.int .u8)), (.d (.st 1)), (.d (.st 1))] [] [(.d (.st 1)), (.d (.int .i64))] [] true k_ref04_two (R := Int × GValue) (fun x => (x.1, x.2.1)) (fun r => (r.2, r.1, ())) (fun n x => go_ref04_two n x.1 x.2.1 x.2.2.1)
  (fun n => [(0, ⟨⟨[(6, (.ptr 0 0)), (5, (.ptr 1 0)), (4, (.ptr 2 0)), (0, (.d (.int .u8))), (8, (.d .bool))], [(.st 1), (.st 1), (.st 1)], 0, 184⟩, fun x => go_ref04_two_L0 n x.1 x.2.1 x.2.2.1 x.2.2.2.1 x.2.2.2.2.1⟩), (1, ⟨⟨[(6, (.ptr 0 0)), (5, (.ptr 1 0)), (4, (.ptr 2 0)), (0, (.d (.int .u8))), (9, (.d .bool)), (8, (.d .bool))], [(.st 1), (.st 1), (.st 1)], 0, 184⟩, fun x => go_ref04_two_L1 n x.1 x.2.1 x.2.2.1 x.2.2.2.1 x.2.2.2.2.1 x.2.2.2.2.2.1⟩), (2, ⟨⟨[(6, (.ptr 0 0)), (5, (.ptr 1 0)), (4, (.ptr 2 0)), (0, (.d (.int .u8))), (9, (.d .bool)), (8, (.d .bool)), (34, (.d (.int .u8))), (51, (.d .bool))], [(.st 1), (.st 1), (.st 1)], 0, 184⟩, fun x => go_ref04_two_L2 n x.1 x.2.1 x.2.2.1 x.2.2.2.1 x.2.2.2.2.1 x.2.2.2.2.2.1 x.2.2.2.2.2.2.1 x.2.2.2.2.2.2.2.1⟩), (3, ⟨⟨[(6, (.ptr 0 0)), (5, (.ptr 1 0)), (4, (.ptr 2 0)), (72, (.d .bool))], [(.st 1), (.st 1), (.st 1)], 0, 184⟩, fun x => go_ref04_two_L3 n x.1 x.2.1 x.2.2.1 x.2.2.2.1⟩), (4, ⟨⟨[(6, (.ptr 0 0)), (5, (.ptr 1 0)), (4, (.ptr 2 0)), (0, (.d (.int .u8))), (9, (.d .bool)), (8, (.d .bool)), (34, (.d (.int .u8))), (89, (.d .bool))], [(.st 1), (.st 1), (.st 1)], 0, 184⟩, fun x => go_ref04_two_L4 n x.1 x.2.1 x.2.2.1 x.2.2.2.1 x.2.2.2.2.1 x.2.2.2.2.2.1 x.2.2.2.2.2.2.1 x.2.2.2.2.2.2.2.1⟩), (5, ⟨⟨[(6, (.ptr 0 0)), (5, (.ptr 1 0)), (4, (.ptr 2 0)), (128, (.d .bool))], [(.st 1), (.st 1), (.st 1)], 0, 184⟩, fun x => go_ref04_two_L5 n x.1 x.2.1 x.2.2.1 x.2.2.2.1⟩), (6, ⟨⟨[(6, (.ptr 0 0)), (17, (.d (.int .i64))), (16, (.ptr 1 0))], [(.st 1), (.st 0)], 0, 184⟩, fun x => go_ref04_two_L6 n x.1 x.2.1 x.2.2.1⟩)]) (ann [(4, 0), (6, 1), (34, 2), (53, 3), (67, 4), (85, 5), (133, 6)] (Tryz.f65.body.getD .skip) 0).1
noncomputable def t_ref04_two : List (FI dat) := [I_ref03_Add, I_ref03_Same, I_ref03_Is, I_ref03_Compare, I_ref01_Sub, I_ref01_Mul, I_ref01_Div, I_ref03_At, I_ref04_number]
theorem g_ref04_two : (I_ref04_two).Good Tryz.prog dat (tb t_ref04_two) := FI.of_good (hD := dat_ok _) Tryz.func65 Tryz.ntmps65 Tryz.call65 (by kernel_rfl) (of_decide_eq_true (by kernel_rfl)) (by kernel_rfl) (fun n => by kernel_rfl) (fun x => by kernel_rfl) (fun _ => rfl) ⟨fun _ => rfl, fun _ => rfl, fun _ => rfl, fun _ => rfl, fun _ => rfl, fun _ => rfl, fun _ => rfl, trivial⟩
  (fun n => fun x => (go_ref04_two.eq_2 x.1 x.2.1 x.2.2.1 n).trans (by kernel_rfl))
  (fun n => ⟨fun x => (go_ref04_two_L0.eq_2 x.1 x.2.1 x.2.2.1 x.2.2.2.1 x.2.2.2.2.1 n).trans (by kernel_rfl),
    fun x => (go_ref04_two_L1.eq_2 x.1 x.2.1 x.2.2.1 x.2.2.2.1 x.2.2.2.2.1 x.2.2.2.2.2.1 n).trans (by kernel_rfl),
    fun x => (go_ref04_two_L2.eq_2 x.1 x.2.1 x.2.2.1 x.2.2.2.1 x.2.2.2.2.1 x.2.2.2.2.2.1 x.2.2.2.2.2.2.1 x.2.2.2.2.2.2.2.1 n).trans (by kernel_rfl),
    fun x => (go_ref04_two_L3.eq_2 x.1 x.2.1 x.2.2.1 x.2.2.2.1 n).trans (by kernel_rfl),
    fun x => (go_ref04_two_L4.eq_2 x.1 x.2.1 x.2.2.1 x.2.2.2.1 x.2.2.2.2.1 x.2.2.2.2.2.1 x.2.2.2.2.2.2.1 x.2.2.2.2.2.2.2.1 n).trans (by kernel_rfl),
    fun x => (go_ref04_two_L5.eq_2 x.1 x.2.1 x.2.2.1 x.2.2.2.1 n).trans (by kernel_rfl),
    fun x => (go_ref04_two_L6.eq_2 x.1 x.2.1 x.2.2.1 n).trans (by kernel_rfl),
    trivial⟩)
  (fun x => .inl rfl)
theorem r_ref04_two : OkL Tryz.prog [I_ref04_two] := one_ok (dat_ok _) (bs := [I_ref03_Add, I_ref03_Same, I_ref03_Is, I_ref03_Compare, I_ref01_Sub, I_ref01_Mul, I_ref01_Div, I_ref03_At, I_ref04_number]) ⟨ok_ref03_Add, ok_ref03_Same, ok_ref03_Is, ok_ref03_Compare, ok_ref01_Sub, ok_ref01_Mul, ok_ref01_Div, ok_ref03_At, ok_ref04_number, trivial⟩ g_ref04_two
theorem ok_ref04_two : FOk Tryz.prog I_ref04_two := r_ref04_two.1
end Go.Proofs.YtfhpamcehnfhoaaGreat
