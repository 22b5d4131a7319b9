/-
  Go functions as Lean functions, by a program of this repo.
-/
import Derived.Test.YtfhpamcehnfhoaaGreatOwn1
import Derived.Test.YtfhpamcehnfhoaaGreatLib2
import Derived.Test.YtfhpamcehnfhoaaGreatProg
import Derived.Test.YtfhpamcehnfhoaaGreatOwn0
import Derived.Test.YtfhpamcehnfhoaaGreatLib6
namespace Go.Proofs.YtfhpamcehnfhoaaGreat
open Go Go.Ab
set_option linter.unusedVariables false
set_option maxRecDepth 100000
mutual
def go_ref04_Worth : Nat → GExpr → (List GBind) → Option (Int × GValue)
  | 0, _, _ => none
  | n + 1, a0, a1 => 
    pIf (a0.op == 1)
      (some (0, a0.value.re))
      (pIf (a0.op == 2)
        ((go_ref04_found n a1 a0.name).bind fun y0 =>
        some (y0.1, y0.2.re))
        (pIf (a0.op == 12)
          ((ix a0.args 0).bind fun x1 =>
          (go_ref04_Worth n x1.re a1).bind fun y2 =>
          pIf (y2.1 != 0)
            (some (y2.1, (GValue.mk 0 (GRatio.mk 0 0) false [] [])))
            (pIf (y2.2.kind != 2)
              (some (20, (GValue.mk 0 (GRatio.mk 0 0) false [] [])))
              (pIf y2.2.truth
                ((ix a0.args 1).bind fun x3 =>
                (go_ref04_Worth n x3.re a1).bind fun y4 =>
                some (y4.1, y4.2.re))
                ((ix a0.args 2).bind fun x5 =>
                (go_ref04_Worth n x5.re a1).bind fun y6 =>
                some (y6.1, y6.2.re)))))
          (go_ref04_Worth_L0 n 0 a1 0 0 0 false [] [] a0.re [])))
def go_ref04_Worth_L0 : Nat → Int → (List GBind) → Int → Int → Int → Bool → (List UInt8) → (List GValue) → GExpr → (List GValue) → Option (Int × GValue)
  | 0, _, _, _, _, _, _, _, _, _, _ => none
  | n + 1, a0, a1, a2, a3, a4, a5, a6, a7, a8, a9 => 
    pIf (decide (a0 < (a8.args.length : Int)))
      ((ix a8.args a0).bind fun x7 =>
      (go_ref04_Worth n x7.re a1).bind fun y8 =>
      pIf (y8.1 != 0)
        (some (y8.1, (GValue.mk 0 (GRatio.mk 0 0) false [] [])))
        ((ext a7 [y8.2.re]).bind fun x9 =>
        go_ref04_Worth_L0 n (IntKind.i64.wrap (a0 + 1)) a1 a2 a3 a4 a5 a6 x9 a8.re a9))
      (pIf (a8.op == 18)
        ((go_ref03_Check n (GValue.mk 4 (GRatio.mk 0 0) false [] a7)).bind fun y10 =>
        pIf (y10 != 0)
          ((go_ref03_Check n (GValue.mk 4 (GRatio.mk 0 0) false [] a7)).bind fun y11 =>
          some (y11, (GValue.mk 0 (GRatio.mk 0 0) false [] [])))
          (some (0, (GValue.mk 4 (GRatio.mk 0 0) false [] a7))))
        (pIf ((a7.length : Int) == 1)
          ((ix a7 0).bind fun x12 =>
          (go_ref04_one n a8.op x12.re).bind fun y13 =>
          some (y13.1, y13.2.re))
          ((ix a7 0).bind fun x14 =>
          (ix a7 1).bind fun x15 =>
          (go_ref04_two n a8.op x14.re x15.re).bind fun y16 =>
          some (y16.1, y16.2.re))))
end
def k_ref04_Worth : LSh := ⟨[(4, (.ptr 0 0)), (5, (.d (.int .i64)))], [(.st 1)], 0, 150⟩
noncomputable def I_ref04_Worth : FI dat := FI.of dat 46 150 0 [(.d (.st 2)), (.d (.sl (.st 3)))] [] [(.d (.st 1)), (.d (.int .i64))] [] true k_ref04_Worth (R := Int × GValue) (fun x => (x.1, x.2.1)) (fun r => (r.2, r.1, ())) (fun n x => go_ref04_Worth n x.1 x.2.1)
  (fun n => [(0, ⟨⟨[(4, (.ptr 0 0)), (15, (.d (.int .i64))), (14, (.own 1)), (1, (.d (.sl (.st 3)))), (2, (.ptr 2 0))], [(.cells [(.d (.int .u8)), (.d (.int .i64)), (.d (.int .i64)), (.d .bool), (.d .str), (.own 3)]), (.acc 26 (.st 1) true), (.st 2), (.acc 26 (.st 1) true)], 0, 150⟩, fun x => go_ref04_Worth_L0 n x.1 x.2.1 x.2.2.1 x.2.2.2.1 x.2.2.2.2.1 x.2.2.2.2.2.1 x.2.2.2.2.2.2.1 x.2.2.2.2.2.2.2.1 x.2.2.2.2.2.2.2.2.1 x.2.2.2.2.2.2.2.2.2.1⟩)]) (ann [(63, 0)] (Tryz.f46.body.getD .skip) 0).1
noncomputable def t_ref04_Worth : List (FI dat) := [I_ref04_Worth] ++ [I_ref04_found, I_ref03_Check, I_ref04_one, I_ref04_two]
theorem g_ref04_Worth : (I_ref04_Worth).Good Tryz.prog dat (tb t_ref04_Worth) := FI.of_good (hD := dat_ok _) Tryz.func46 Tryz.ntmps46 Tryz.call46 (by kernel_rfl) (of_decide_eq_true (by kernel_rfl)) (by kernel_rfl) (fun n => by kernel_rfl) (fun x => by kernel_rfl) (fun _ => rfl) ⟨fun _ => rfl, trivial⟩
  (fun n => fun x => (go_ref04_Worth.eq_2 x.1 x.2.1 n).trans (by kernel_rfl))
  (fun n => ⟨fun x => (go_ref04_Worth_L0.eq_2 x.1 x.2.1 x.2.2.1 x.2.2.2.1 x.2.2.2.2.1 x.2.2.2.2.2.1 x.2.2.2.2.2.2.1 x.2.2.2.2.2.2.2.1 x.2.2.2.2.2.2.2.2.1 x.2.2.2.2.2.2.2.2.2.1 n).trans (by kernel_rfl),
    trivial⟩)
  (fun x => .inl rfl)
theorem r_ref04_Worth : OkL Tryz.prog [I_ref04_Worth] := ring_ok (dat_ok _) (bs := [I_ref04_found, I_ref03_Check, I_ref04_one, I_ref04_two]) ⟨ok_ref04_found, ok_ref03_Check, ok_ref04_one, ok_ref04_two, trivial⟩ ⟨g_ref04_Worth, trivial⟩
theorem ok_ref04_Worth : FOk Tryz.prog I_ref04_Worth := r_ref04_Worth.1
def go_ref04_Eval : Nat → GExpr → (List GBind) → Option (Int × GValue)
  | 0, _, _ => none
  | n + 1, a0, a1 => 
    (go_ref04_Check n a0.re).bind fun y0 =>
    pIf (y0 != 0)
      ((go_ref04_Check n a0.re).bind fun y1 =>
      some (y1, (GValue.mk 0 (GRatio.mk 0 0) false [] [])))
      ((go_ref04_Binds n a1).bind fun y2 =>
      pIf (y2 != 0)
        ((go_ref04_Binds n a1).bind fun y3 =>
        some (y3, (GValue.mk 0 (GRatio.mk 0 0) false [] [])))
        ((go_ref04_Worth n a0.re a1).bind fun y4 =>
        (go_ref03_Twin n y4.2.re).bind fun y5 =>
        some (y4.1, y5.re)))
def k_ref04_Eval : LSh := ⟨[(4, (.ptr 0 0)), (5, (.d (.int .i64)))], [(.st 1)], 0, 29⟩
noncomputable def I_ref04_Eval : FI dat := FI.of dat 18 29 0 [(.d (.st 2)), (.d (.sl (.st 3)))] [] [(.d (.st 1)), (.d (.int .i64))] [] true k_ref04_Eval (R := Int × GValue) (fun x => (x.1, x.2.1)) (fun r => (r.2, r.1, ())) (fun n x => go_ref04_Eval n x.1 x.2.1)
  (fun n => []) (ann [] (Tryz.f18.body.getD .skip) 0).1
noncomputable def t_ref04_Eval : List (FI dat) := [I_ref04_Check, I_ref04_Binds, I_ref04_Worth, I_ref03_Twin]
theorem g_ref04_Eval : (I_ref04_Eval).Good Tryz.prog dat (tb t_ref04_Eval) := FI.of_good (hD := dat_ok _) Tryz.func18 Tryz.ntmps18 Tryz.call18 (by kernel_rfl) (of_decide_eq_true (by kernel_rfl)) (by kernel_rfl) (fun n => by kernel_rfl) (fun x => by kernel_rfl) (fun _ => rfl) trivial
  (fun n => fun x => (go_ref04_Eval.eq_2 x.1 x.2.1 n).trans (by kernel_rfl))
  (fun n => trivial)
  (fun x => .inl rfl)
theorem r_ref04_Eval : OkL Tryz.prog [I_ref04_Eval] := one_ok (dat_ok _) (bs := [I_ref04_Check, I_ref04_Binds, I_ref04_Worth, I_ref03_Twin]) ⟨ok_ref04_Check, ok_ref04_Binds, ok_ref04_Worth, ok_ref03_Twin, trivial⟩ g_ref04_Eval
theorem ok_ref04_Eval : FOk Tryz.prog I_ref04_Eval := r_ref04_Eval.1
mutual
def go_slices_Index_string_string : Nat → (List UInt8) → (List (List UInt8)) → Option (Int × (List (List UInt8)))
  | 0, _, _ => none
  | n + 1, a0, a1 => 
    go_slices_Index_string_string_L0 n 0 a0 (a1.length : Int) a1
def go_slices_Index_string_string_L0 : Nat → Int → (List UInt8) → Int → (List (List UInt8)) → Option (Int × (List (List UInt8)))
  | 0, _, _, _, _ => none
  | n + 1, a0, a1, a2, a3 => 
    pIf (decide (a0 < a2))
      ((ix a3 a0).bind fun x0 =>
      pIf (a1 == x0)
        (some (a0, a3))
        (go_slices_Index_string_string_L0 n (IntKind.i64.wrap (a0 + 1)) a1 a2 a3))
      (some ((-1), a3))
end
def k_slices_Index_string_string : LSh := ⟨[(4, (.d (.int .i64)))], [(.acc 9 .str true)], 1, 19⟩
noncomputable def I_slices_Index_string_string : FI dat := FI.of dat 93 19 1 [(.own 0), (.d .str)] [(.acc 9 .str true)] [(.d (.int .i64))] [(.acc 9 .str true)] false k_slices_Index_string_string (R := Int × (List (List UInt8))) (fun x => (x.1, x.2.1)) (fun r => (r.1, r.2, ())) (fun n x => go_slices_Index_string_string n x.1 x.2.1)
  (fun n => [(0, ⟨⟨[(8, (.d (.int .i64))), (0, (.own 0)), (1, (.d .str)), (7, (.d (.int .i64)))], [(.acc 9 .str true)], 1, 19⟩, fun x => go_slices_Index_string_string_L0 n x.1 x.2.1 x.2.2.1 x.2.2.2.1⟩)]) (ann [(6, 0)] (Tryz.f93.body.getD .skip) 0).1
noncomputable def t_slices_Index_string_string : List (FI dat) := []
theorem g_slices_Index_string_string : (I_slices_Index_string_string).Good Tryz.prog dat (tb t_slices_Index_string_string) := FI.of_good (hD := dat_ok _) Tryz.func93 Tryz.ntmps93 Tryz.call93 (by kernel_rfl) (of_decide_eq_true (by kernel_rfl)) (by kernel_rfl) (fun n => by kernel_rfl) (fun x => by kernel_rfl) (fun _ => rfl) ⟨fun _ => rfl, trivial⟩
  (fun n => fun x => (go_slices_Index_string_string.eq_2 x.1 x.2.1 n).trans (by kernel_rfl))
  (fun n => ⟨fun x => (go_slices_Index_string_string_L0.eq_2 x.1 x.2.1 x.2.2.1 x.2.2.2.1 n).trans (by kernel_rfl),
    trivial⟩)
  (fun x => .inr (by kernel_rfl))
theorem r_slices_Index_string_string : OkL Tryz.prog [I_slices_Index_string_string] := one_ok (dat_ok _) (bs := []) trivial g_slices_Index_string_string
theorem ok_slices_Index_string_string : FOk Tryz.prog I_slices_Index_string_string := r_slices_Index_string_string.1
def go_slices_Contains_string_string : Nat → (List UInt8) → (List (List UInt8)) → Option (Bool × (List (List UInt8)))
  | 0, _, _ => none
  | n + 1, a0, a1 => 
    (go_slices_Index_string_string n a0 a1).bind fun y0 =>
    some ((decide (y0.1 ≥ 0)), y0.2)
def k_slices_Contains_string_string : LSh := ⟨[(4, (.d .bool))], [(.acc 9 .str true)], 1, 9⟩
noncomputable def I_slices_Contains_string_string : FI dat := FI.of dat 66 9 1 [(.own 0), (.d .str)] [(.acc 9 .str true)] [(.d .bool)] [(.acc 9 .str true)] false k_slices_Contains_string_string (R := Bool × (List (List UInt8))) (fun x => (x.1, x.2.1)) (fun r => (r.1, r.2, ())) (fun n x => go_slices_Contains_string_string n x.1 x.2.1)
  (fun n => []) (ann [] (Tryz.f66.body.getD .skip) 0).1
noncomputable def t_slices_Contains_string_string : List (FI dat) := [I_slices_Index_string_string]
theorem g_slices_Contains_string_string : (I_slices_Contains_string_string).Good Tryz.prog dat (tb t_slices_Contains_string_string) := FI.of_good (hD := dat_ok _) Tryz.func66 Tryz.ntmps66 Tryz.call66 (by kernel_rfl) (of_decide_eq_true (by kernel_rfl)) (by kernel_rfl) (fun n => by kernel_rfl) (fun x => by kernel_rfl) (fun _ => rfl) trivial
  (fun n => fun x => (go_slices_Contains_string_string.eq_2 x.1 x.2.1 n).trans (by kernel_rfl))
  (fun n => trivial)
  (fun x => .inr (by kernel_rfl))
theorem r_slices_Contains_string_string : OkL Tryz.prog [I_slices_Contains_string_string] := one_ok (dat_ok _) (bs := [I_slices_Index_string_string]) ⟨ok_slices_Index_string_string, trivial⟩ g_slices_Contains_string_string
theorem ok_slices_Contains_string_string : FOk Tryz.prog I_slices_Contains_string_string := r_slices_Contains_string_string.1
mutual
def go_expr_names : Nat → GExpr → (List (List UInt8)) → Option (List (List UInt8))
  | 0, _, _ => none
  | n + 1, a0, a1 => 
    pIf (a0.op == 2)
      ((go_slices_Contains_string_string n a0.name a1).bind fun y0 =>
      go_expr_names_L0 n (!y0.1) y0.2 a0.re)
      (go_expr_names_L0 n false a1 a0.re)
def go_expr_names_L0 : Nat → Bool → (List (List UInt8)) → GExpr → Option (List (List UInt8))
  | 0, _, _, _ => none
  | n + 1, a0, a1, a2 => 
    pIf a0
      ((ext a1 [a2.name]).bind fun x1 =>
      go_expr_names_L1 n x1 a2.re)
      (go_expr_names_L1 n a1 a2.re)
def go_expr_names_L1 : Nat → (List (List UInt8)) → GExpr → Option (List (List UInt8))
  | 0, _, _ => none
  | n + 1, a0, a1 => 
    go_expr_names_L2 n 0 a1.args (a1.args.length : Int) a0
def go_expr_names_L2 : Nat → Int → (List GExpr) → Int → (List (List UInt8)) → Option (List (List UInt8))
  | 0, _, _, _, _ => none
  | n + 1, a0, a1, a2, a3 => 
    pIf (decide (a0 < a2))
      ((ix a1 a0).bind fun x2 =>
      (go_expr_names n x2.re a3).bind fun y3 =>
      go_expr_names_L2 n (IntKind.i64.wrap (a0 + 1)) a1 a2 y3)
      (some a3)
end
def k_expr_names : LSh := ⟨[], [(.cells [(.own 1)]), (.acc 9 .str true)], 1, 38⟩
noncomputable def I_expr_names : FI dat := FI.of dat 47 38 1 [(.d (.st 2)), (.ptr 0 0)] [(.cells [(.own 1)]), (.acc 9 .str true)] [] [(.cells [(.own 1)]), (.acc 9 .str true)] false k_expr_names (R := List (List UInt8)) (fun x => x.1) (fun r => (r, ())) (fun n x => go_expr_names n x.1 x.2.1)
  (fun n => [(0, ⟨⟨[(1, (.ptr 0 0)), (2, (.ptr 2 0)), (17, (.d .bool))], [(.cells [(.own 1)]), (.acc 9 .str true), (.st 2)], 1, 38⟩, fun x => go_expr_names_L0 n x.1 x.2.1 x.2.2.1⟩), (1, ⟨⟨[(1, (.ptr 0 0)), (2, (.ptr 2 0))], [(.cells [(.own 1)]), (.acc 9 .str true), (.st 2)], 1, 38⟩, fun x => go_expr_names_L1 n x.1 x.2.1⟩), (2, ⟨⟨[(30, (.d (.int .i64))), (1, (.ptr 0 0)), (28, (.d (.sl (.st 2)))), (29, (.d (.int .i64)))], [(.cells [(.own 1)]), (.acc 9 .str true)], 1, 38⟩, fun x => go_expr_names_L2 n x.1 x.2.1 x.2.2.1 x.2.2.2.1⟩)]) (ann [(5, 0), (8, 1), (11, 2)] (Tryz.f47.body.getD .skip) 0).1
noncomputable def t_expr_names : List (FI dat) := [I_expr_names] ++ [I_slices_Contains_string_string]
theorem g_expr_names : (I_expr_names).Good Tryz.prog dat (tb t_expr_names) := FI.of_good (hD := dat_ok _) Tryz.func47 Tryz.ntmps47 Tryz.call47 (by kernel_rfl) (of_decide_eq_true (by kernel_rfl)) (by kernel_rfl) (fun n => by kernel_rfl) (fun x => by kernel_rfl) (fun _ => rfl) ⟨fun _ => rfl, fun _ => rfl, fun _ => rfl, trivial⟩
  (fun n => fun x => (go_expr_names.eq_2 x.1 x.2.1 n).trans (by kernel_rfl))
  (fun n => ⟨fun x => (go_expr_names_L0.eq_2 x.1 x.2.1 x.2.2.1 n).trans (by kernel_rfl),
    fun x => (go_expr_names_L1.eq_2 x.1 x.2.1 n).trans (by kernel_rfl),
    fun x => (go_expr_names_L2.eq_2 x.1 x.2.1 x.2.2.1 x.2.2.2.1 n).trans (by kernel_rfl),
    trivial⟩)
  (fun x => .inr (by kernel_rfl))
theorem r_expr_names : OkL Tryz.prog [I_expr_names] := ring_ok (dat_ok _) (bs := [I_slices_Contains_string_string]) ⟨ok_slices_Contains_string_string, trivial⟩ ⟨g_expr_names, trivial⟩
theorem ok_expr_names : FOk Tryz.prog I_expr_names := r_expr_names.1
def go_expr_Names : Nat → GExpr → Option ((List (List UInt8)) × Int)
  | 0, _ => none
  | n + 1, a0 => 
    (go_expr_Check n a0.re).bind fun y0 =>
    pIf (y0 != 0)
      (some ([], y0))
      ((go_expr_names n a0.re []).bind fun y1 =>
      (go_slices_Sort_string_string n y1).bind fun y2 =>
      some (y2, 0))
def k_expr_Names : LSh := ⟨[(2, (.d (.sl .str))), (3, (.d (.int .i64)))], [], 0, 16⟩
noncomputable def I_expr_Names : FI dat := FI.of dat 19 16 0 [(.d (.st 2))] [] [(.d (.sl .str)), (.d (.int .i64))] [] true k_expr_Names (R := (List (List UInt8)) × Int) (fun x => (x.1, x.2.1)) (fun r => (r.1, r.2, ())) (fun n x => go_expr_Names n x.1)
  (fun n => []) (ann [] (Tryz.f19.body.getD .skip) 0).1
noncomputable def t_expr_Names : List (FI dat) := [I_expr_Check, I_expr_names, I_slices_Sort_string_string]
theorem g_expr_Names : (I_expr_Names).Good Tryz.prog dat (tb t_expr_Names) := FI.of_good (hD := dat_ok _) Tryz.func19 Tryz.ntmps19 Tryz.call19 (by kernel_rfl) (of_decide_eq_true (by kernel_rfl)) (by kernel_rfl) (fun n => by kernel_rfl) (fun x => by kernel_rfl) (fun _ => rfl) trivial
  (fun n => fun x => (go_expr_Names.eq_2 x.1 n).trans (by kernel_rfl))
  (fun n => trivial)
  (fun x => .inl rfl)
theorem r_expr_Names : OkL Tryz.prog [I_expr_Names] := one_ok (dat_ok _) (bs := [I_expr_Check, I_expr_names, I_slices_Sort_string_string]) ⟨ok_expr_Check, ok_expr_names, ok_slices_Sort_string_string, trivial⟩ g_expr_Names
theorem ok_expr_Names : FOk Tryz.prog I_expr_Names := r_expr_Names.1
end Go.Proofs.YtfhpamcehnfhoaaGreat

namespace Go.Proofs.YtfhpamcehnfhoaaGreat
open Go Go.Ab
set_option linter.unusedVariables false
set_option maxRecDepth 100000
mutual
def go_ref04_used : Nat → GExpr → (List (List UInt8)) → Option (List (List UInt8))
  | 0, _, _ => none
  | n + 1, a0, a1 => 
    pIf (a0.op == 2)
      (go_ref04_used_L0 n 0 a0.re a1)
      (go_ref04_used_L3 n a1 a0.re)
def go_ref04_used_L0 : Nat → Int → GExpr → (List (List UInt8)) → Option (List (List UInt8))
  | 0, _, _, _ => none
  | n + 1, a0, a1, a2 => 
    pIf (decide (a0 < (a2.length : Int)))
      ((ix a2 a0).bind fun x0 =>
      go_ref04_used_L1 n a0 (Op.bytesLess x0 a1.name) a1.re a2)
      (go_ref04_used_L1 n a0 false a1.re a2)
def go_ref04_used_L1 : Nat → Int → Bool → GExpr → (List (List UInt8)) → Option (List (List UInt8))
  | 0, _, _, _, _ => none
  | n + 1, a0, a1, a2, a3 => 
    pIf a1
      (go_ref04_used_L0 n (IntKind.i64.wrap (a0 + 1)) a2.re a3)
      (pIf (a0 == (a3.length : Int))
        (go_ref04_used_L2 n a0 true a2.re a3)
        ((ix a3 a0).bind fun x1 =>
        go_ref04_used_L2 n a0 (!(x1 == a2.name)) a2.re a3))
def go_ref04_used_L2 : Nat → Int → Bool → GExpr → (List (List UInt8)) → Option (List (List UInt8))
  | 0, _, _, _, _ => none
  | n + 1, a0, a1, a2, a3 => 
    pIf a1
      ((ext a3 [[]]).bind fun x4 =>
      (cutO x4 (IntKind.i64.wrap (a0 + 1))).bind fun x5 =>
      (cutO x4 a0).bind fun x6 =>
      (shiftO x4 (IntKind.i64.wrap (a0 + 1)) a0).bind fun x7 =>
      (ix x7 a0).bind fun x8 =>
      go_ref04_used_L3 n (x7.set (Int.toNat a0) a2.name) a2.re)
      (go_ref04_used_L3 n a3 a2.re)
def go_ref04_used_L3 : Nat → (List (List UInt8)) → GExpr → Option (List (List UInt8))
  | 0, _, _ => none
  | n + 1, a0, a1 => 
    go_ref04_used_L4 n 0 a0 a1.re
def go_ref04_used_L4 : Nat → Int → (List (List UInt8)) → GExpr → Option (List (List UInt8))
  | 0, _, _, _ => none
  | n + 1, a0, a1, a2 => 
    pIf (decide (a0 < (a2.args.length : Int)))
      ((ix a2.args a0).bind fun x2 =>
      (go_ref04_used n x2.re a1).bind fun y3 =>
      go_ref04_used_L4 n (IntKind.i64.wrap (a0 + 1)) y3 a2.re)
      (some a1)
end
def k_ref04_used : LSh := ⟨[(4, (.own 0))], [(.acc 9 .str true)], 0, 69⟩
noncomputable def I_ref04_used : FI dat := FI.of dat 49 69 0 [(.d (.st 2)), (.own 0)] [(.acc 9 .str true)] [(.own 0)] [(.acc 9 .str true)] false k_ref04_used (R := List (List UInt8)) (fun x => x.1) (fun r => (r, ())) (fun n x => go_ref04_used n x.1 x.2.1)
  (fun n => [(0, ⟨⟨[(5, (.d (.int .i64))), (2, (.ptr 0 0)), (1, (.own 1))], [(.st 2), (.acc 9 .str true)], 0, 69⟩, fun x => go_ref04_used_L0 n x.1 x.2.1 x.2.2.1⟩), (1, ⟨⟨[(2, (.ptr 0 0)), (1, (.own 1)), (5, (.d (.int .i64))), (22, (.d .bool))], [(.st 2), (.acc 9 .str true)], 0, 69⟩, fun x => go_ref04_used_L1 n x.1 x.2.1 x.2.2.1 x.2.2.2.1⟩), (2, ⟨⟨[(2, (.ptr 0 0)), (5, (.d (.int .i64))), (1, (.own 1)), (37, (.d .bool))], [(.st 2), (.acc 9 .str true)], 0, 69⟩, fun x => go_ref04_used_L2 n x.1 x.2.1 x.2.2.1 x.2.2.2.1⟩), (3, ⟨⟨[(1, (.own 0)), (2, (.ptr 1 0))], [(.acc 9 .str true), (.st 2)], 0, 69⟩, fun x => go_ref04_used_L3 n x.1 x.2.1⟩), (4, ⟨⟨[(6, (.d (.int .i64))), (1, (.own 0)), (2, (.ptr 1 0))], [(.acc 9 .str true), (.st 2)], 0, 69⟩, fun x => go_ref04_used_L4 n x.1 x.2.1 x.2.2.1⟩)]) (ann [(10, 0), (14, 1), (21, 2), (29, 3), (33, 4)] (Tryz.f49.body.getD .skip) 0).1
noncomputable def t_ref04_used : List (FI dat) := [I_ref04_used] ++ []
theorem g_ref04_used : (I_ref04_used).Good Tryz.prog dat (tb t_ref04_used) := FI.of_good (hD := dat_ok _) Tryz.func49 Tryz.ntmps49 Tryz.call49 (by kernel_rfl) (of_decide_eq_true (by kernel_rfl)) (by kernel_rfl) (fun n => by kernel_rfl) (fun x => by kernel_rfl) (fun _ => rfl) ⟨fun _ => rfl, fun _ => rfl, fun _ => rfl, fun _ => rfl, fun _ => rfl, trivial⟩
  (fun n => fun x => (go_ref04_used.eq_2 x.1 x.2.1 n).trans (by kernel_rfl))
  (fun n => ⟨fun x => (go_ref04_used_L0.eq_2 x.1 x.2.1 x.2.2.1 n).trans (by kernel_rfl),
    fun x => (go_ref04_used_L1.eq_2 x.1 x.2.1 x.2.2.1 x.2.2.2.1 n).trans (by kernel_rfl),
    fun x => (go_ref04_used_L2.eq_2 x.1 x.2.1 x.2.2.1 x.2.2.2.1 n).trans (by kernel_rfl),
    fun x => (go_ref04_used_L3.eq_2 x.1 x.2.1 n).trans (by kernel_rfl),
    fun x => (go_ref04_used_L4.eq_2 x.1 x.2.1 x.2.2.1 n).trans (by kernel_rfl),
    trivial⟩)
  (fun x => .inr (by kernel_rfl))
theorem r_ref04_used : OkL Tryz.prog [I_ref04_used] := ring_ok (dat_ok _) (bs := []) trivial ⟨g_ref04_used, trivial⟩
theorem ok_ref04_used : FOk Tryz.prog I_ref04_used := r_ref04_used.1
def go_ref04_Names : Nat → GExpr → Option ((List (List UInt8)) × Int)
  | 0, _ => none
  | n + 1, a0 => 
    (go_ref04_Check n a0.re).bind fun y0 =>
    pIf (y0 != 0)
      ((go_ref04_Check n a0.re).bind fun y1 =>
      some ([], y1))
      ((go_ref04_used n a0.re []).bind fun y2 =>
      some (y2, 0))
def k_ref04_Names : LSh := ⟨[(2, (.d (.sl .str))), (3, (.d (.int .i64)))], [], 0, 11⟩
noncomputable def I_ref04_Names : FI dat := FI.of dat 20 11 0 [(.d (.st 2))] [] [(.d (.sl .str)), (.d (.int .i64))] [] true k_ref04_Names (R := (List (List UInt8)) × Int) (fun x => (x.1, x.2.1)) (fun r => (r.1, r.2, ())) (fun n x => go_ref04_Names n x.1)
  (fun n => []) (ann [] (Tryz.f20.body.getD .skip) 0).1
noncomputable def t_ref04_Names : List (FI dat) := [I_ref04_Check, I_ref04_used]
theorem g_ref04_Names : (I_ref04_Names).Good Tryz.prog dat (tb t_ref04_Names) := FI.of_good (hD := dat_ok _) Tryz.func20 Tryz.ntmps20 Tryz.call20 (by kernel_rfl) (of_decide_eq_true (by kernel_rfl)) (by kernel_rfl) (fun n => by kernel_rfl) (fun x => by kernel_rfl) (fun _ => rfl) trivial
  (fun n => fun x => (go_ref04_Names.eq_2 x.1 n).trans (by kernel_rfl))
  (fun n => trivial)
  (fun x => .inl rfl)
theorem r_ref04_Names : OkL Tryz.prog [I_ref04_Names] := one_ok (dat_ok _) (bs := [I_ref04_Check, I_ref04_used]) ⟨ok_ref04_Check, ok_ref04_used, trivial⟩ g_ref04_Names
theorem ok_ref04_Names : FOk Tryz.prog I_ref04_Names := r_ref04_Names.1
mutual
def go_gambrellaw04_ExprEvals : Nat → GExpr → (List GBind) → Option Bool
  | 0, _, _ => none
  | n + 1, a0, a1 => 
    (go_ref04_Great n a0.re).bind fun y0 =>
    pIf y0
      (go_gambrellaw04_ExprEvals_L0 n a1 true a0.re)
      ((go_ref04_GreatBinds n a1).bind fun y1 =>
      go_gambrellaw04_ExprEvals_L0 n a1 y1 a0.re)
def go_gambrellaw04_ExprEvals_L0 : Nat → (List GBind) → Bool → GExpr → Option Bool
  | 0, _, _, _ => none
  | n + 1, a0, a1, a2 => 
    pIf a1
      (some true)
      ((go_expr_Eval n a2.re a0).bind fun y2 =>
      (go_ref04_Eval n a2.re a0).bind fun y3 =>
      (go_expr_Names n a2.re).bind fun y4 =>
      (go_ref04_Names n a2.re).bind fun y5 =>
      (go_expr_Check n a2.re).bind fun y6 =>
      (go_ref04_Check n a2.re).bind fun y7 =>
      pIf (y6 != y7)
        (go_gambrellaw04_ExprEvals_L1 n y5.1 y4.1 true)
        ((go_ref03_Same n y2.2.re y3.2.re).bind fun y8 =>
        pIf (!y8)
          (go_gambrellaw04_ExprEvals_L1 n y5.1 y4.1 true)
          (pIf (y2.1 != y3.1)
            (go_gambrellaw04_ExprEvals_L1 n y5.1 y4.1 true)
            (pIf ((y4.1.length : Int) != (y5.1.length : Int))
              (go_gambrellaw04_ExprEvals_L1 n y5.1 y4.1 true)
              (go_gambrellaw04_ExprEvals_L1 n y5.1 y4.1 (y4.2 != y5.2))))))
def go_gambrellaw04_ExprEvals_L1 : Nat → (List (List UInt8)) → (List (List UInt8)) → Bool → Option Bool
  | 0, _, _, _ => none
  | n + 1, a0, a1, a2 => 
    pIf a2
      (some false)
      (go_gambrellaw04_ExprEvals_L2 n 0 a0 a1)
def go_gambrellaw04_ExprEvals_L2 : Nat → Int → (List (List UInt8)) → (List (List UInt8)) → Option Bool
  | 0, _, _, _ => none
  | n + 1, a0, a1, a2 => 
    pIf (decide (a0 < (a2.length : Int)))
      ((ix a2 a0).bind fun x9 =>
      (ix a1 a0).bind fun x10 =>
      pIf (!(x9 == x10))
        (some false)
        (go_gambrellaw04_ExprEvals_L2 n (IntKind.i64.wrap (a0 + 1)) a1 a2))
      (some true)
end
def k_gambrellaw04_ExprEvals : LSh := ⟨[(4, (.d .bool))], [], 0, 85⟩
noncomputable def I_gambrellaw04_ExprEvals : FI dat := FI.of dat 4 85 0 [(.d (.st 2)), (.d (.sl (.st 3)))] [] [(.d .bool)] [] true k_gambrellaw04_ExprEvals (R := Bool) (fun x => x.1) (fun r => (r, ())) (fun n x => go_gambrellaw04_ExprEvals n x.1 x.2.1)
  (fun n => [(0, ⟨⟨[(2, (.ptr 0 0)), (1, (.d (.sl (.st 3)))), (19, (.d .bool))], [(.st 2)], 0, 85⟩, fun x => go_gambrellaw04_ExprEvals_L0 n x.1 x.2.1 x.2.2.1⟩), (1, ⟨⟨[(11, (.d (.sl .str))), (9, (.d (.sl .str))), (69, (.d .bool))], [], 0, 85⟩, fun x => go_gambrellaw04_ExprEvals_L1 n x.1 x.2.1 x.2.2.1⟩), (2, ⟨⟨[(13, (.d (.int .i64))), (11, (.d (.sl .str))), (9, (.d (.sl .str)))], [], 0, 85⟩, fun x => go_gambrellaw04_ExprEvals_L2 n x.1 x.2.1 x.2.2.1⟩)]) (ann [(5, 0), (21, 1), (30, 2)] (Tryz.f4.body.getD .skip) 0).1
noncomputable def t_gambrellaw04_ExprEvals : List (FI dat) := [I_ref04_Great, I_ref04_GreatBinds, I_expr_Eval, I_ref04_Eval, I_expr_Names, I_ref04_Names, I_expr_Check, I_ref04_Check, I_ref03_Same]
theorem g_gambrellaw04_ExprEvals : (I_gambrellaw04_ExprEvals).Good Tryz.prog dat (tb t_gambrellaw04_ExprEvals) := FI.of_good (hD := dat_ok _) Tryz.func4 Tryz.ntmps4 Tryz.call4 (by kernel_rfl) (of_decide_eq_true (by kernel_rfl)) (by kernel_rfl) (fun n => by kernel_rfl) (fun x => by kernel_rfl) (fun _ => rfl) ⟨fun _ => rfl, fun _ => rfl, fun _ => rfl, trivial⟩
  (fun n => fun x => (go_gambrellaw04_ExprEvals.eq_2 x.1 x.2.1 n).trans (by kernel_rfl))
  (fun n => ⟨fun x => (go_gambrellaw04_ExprEvals_L0.eq_2 x.1 x.2.1 x.2.2.1 n).trans (by kernel_rfl),
    fun x => (go_gambrellaw04_ExprEvals_L1.eq_2 x.1 x.2.1 x.2.2.1 n).trans (by kernel_rfl),
    fun x => (go_gambrellaw04_ExprEvals_L2.eq_2 x.1 x.2.1 x.2.2.1 n).trans (by kernel_rfl),
    trivial⟩)
  (fun x => .inl rfl)
theorem r_gambrellaw04_ExprEvals : OkL Tryz.prog [I_gambrellaw04_ExprEvals] := one_ok (dat_ok _) (bs := [I_ref04_Great, I_ref04_GreatBinds, I_expr_Eval, I_ref04_Eval, I_expr_Names, I_ref04_Names, I_expr_Check, I_ref04_Check, I_ref03_Same]) ⟨ok_ref04_Great, ok_ref04_GreatBinds, ok_expr_Eval, ok_ref04_Eval, ok_expr_Names, ok_ref04_Names, ok_expr_Check, ok_ref04_Check, ok_ref03_Same, trivial⟩ g_gambrellaw04_ExprEvals
theorem ok_gambrellaw04_ExprEvals : FOk Tryz.prog I_gambrellaw04_ExprEvals := r_gambrellaw04_ExprEvals.1
theorem la_gambrellaw04_ExprEvals (a0 : GExpr) (a1 : List GBind) : VRL dat [] 0 [dat.tv (.st 2) a0, dat.tv (.sl (.st 3)) a1] [dat.el (.st 2) a0, dat.el (.sl (.st 3)) a1] := by
  simp only [VRL]
  exact ⟨_, _, rfl, VR.tv (dat_ok Tryz.prog) (DR.el _ _), ⟨_, _, rfl, VR.tv (dat_ok Tryz.prog) (DR.el _ _), rfl⟩⟩
theorem go_gambrellaw04_ExprEvals_pc (n : Nat) (a0 : GExpr) (a1 : List GBind) (r : Bool) (h : go_gambrellaw04_ExprEvals n a0 a1 = some r) : PCall Tryz.prog 4 [dat.el (.st 2) a0, dat.el (.sl (.st 3)) a1] (.bool r) := by
  obtain ⟨y, h1, _, _, _, h2⟩ := ok_gambrellaw04_ExprEvals n _ (a0, a1, ()) (fun y => some y.1) (fun _ => none) r (by show (go_gambrellaw04_ExprEvals n a0 a1).bind (fun r => some r) = some r; rw [h]; rfl)
  obtain ⟨vs, k1, k2⟩ := h2 0 [dat.el (.st 2) a0, dat.el (.sl (.st 3)) a1] (la_gambrellaw04_ExprEvals a0 a1)
  injection h1 with h1
  subst h1
  have := k1 [] 0
  replace this : VRL dat [] 0 [TV.bool y.1] vs := this
  simp only [VRL, VR] at this
  obtain ⟨v, r, rfl, rfl, rfl⟩ := this
  exact k2
end Go.Proofs.YtfhpamcehnfhoaaGreat

namespace Go.Proofs.Tryz
open Go Go.Ab
set_option linter.unusedSimpArgs false
@[simp] theorem cellsOf2 : Program.cellsOf Tryz.prog 2 = 1 := by kernel_rfl
@[simp] theorem cellsOf4 : Program.cellsOf Tryz.prog 4 = 1 := by kernel_rfl
@[simp] theorem cellsOf5 : Program.cellsOf Tryz.prog 5 = 1 := by kernel_rfl
@[simp] theorem cellsOf9 : Program.cellsOf Tryz.prog 9 = 1 := by kernel_rfl
@[simp] theorem cellsOf23 : Program.cellsOf Tryz.prog 23 = 2 := by kernel_rfl
@[simp] theorem cellsOf24 : Program.cellsOf Tryz.prog 24 = 1 := by kernel_rfl
@[simp] theorem cellsOf26 : Program.cellsOf Tryz.prog 26 = 6 := by kernel_rfl
@[simp] theorem cellsOf27 : Program.cellsOf Tryz.prog 27 = 1 := by kernel_rfl
@[simp] theorem cellsOf29 : Program.cellsOf Tryz.prog 29 = 9 := by kernel_rfl
@[simp] theorem cellsOf69 : Program.cellsOf Tryz.prog 69 = 7 := by kernel_rfl
end Go.Proofs.Tryz

namespace Go.Proofs.Tryz
open Go Go.Ab
set_option linter.unusedSimpArgs false
theorem reads23 (n : Nat) : Reads Tryz.prog n 23 GRatio.ty := (reads_struct Tryz.underlying23 cellsOf23 (fun m hm => (readsF_cons rfl cellsOf2 (reads_int Tryz.underlying2 m) (readsF_cons rfl cellsOf2 (reads_int Tryz.underlying2 m) readsF_nil)))).conv (fun x => (⟨x.1, x.2.1⟩ : GRatio)) (fun x => by show GRatio.el _ = _; rw [GRatio.el_eq]; simp [Ty.struct, Ty.pair, Ty.unit, Ty.int, Ty.bool, Ty.str, Ty.slice, V.cells, GRatio.ty, GRatio.el_eq, GValue.ty, GValue.el_eq, GExpr.ty, GExpr.el_eq, GBind.ty, GBind.el_eq]) rfl (fun x h => by simp only [GRatio.ty]; rw [GRatio.wf_eq]; simp only [Ty.struct, Ty.pair, Ty.unit, Ty.int, Ty.bool, Ty.str, Ty.slice, GRatio.ty, GValue.ty, GExpr.ty, GBind.ty] at h ⊢; simpa using h) (fun x => by simp only [Ty.struct, Ty.pair, Ty.unit, Ty.int, Ty.bool, Ty.str, Ty.slice, GRatio.ty, GValue.ty, GExpr.ty, GBind.ty]; rw [GRatio.size_eq]; (try dsimp only); omega)
theorem reads26 : ∀ n, Reads Tryz.prog n 26 GValue.ty := fun n => by
  induction n using Nat.strongRecOn with
  | ind n ih => exact (reads_struct Tryz.underlying26 cellsOf26 (fun m hm => (readsF_cons rfl cellsOf5 (reads_int Tryz.underlying5 m) (readsF_cons rfl cellsOf23 (reads23 m) (readsF_cons rfl cellsOf4 (reads_bool Tryz.underlying4 m) (readsF_cons rfl cellsOf9 (reads_str Tryz.underlying9 m) (readsF_cons rfl cellsOf24 (reads_slice Tryz.underlying24 cellsOf26 (by decide) (fun k hk => (ih k (by omega)))) readsF_nil))))))).conv (fun x => (⟨x.1, x.2.1, x.2.2.1, x.2.2.2.1, x.2.2.2.2.1⟩ : GValue)) (fun x => by show GValue.el _ = _; rw [GValue.el_eq]; simp [Ty.struct, Ty.pair, Ty.unit, Ty.int, Ty.bool, Ty.str, Ty.slice, V.cells, GRatio.ty, GRatio.el_eq, GValue.ty, GValue.el_eq, GExpr.ty, GExpr.el_eq, GBind.ty, GBind.el_eq]) rfl (fun x h => by simp only [GValue.ty]; rw [GValue.wf_eq]; simp only [Ty.struct, Ty.pair, Ty.unit, Ty.int, Ty.bool, Ty.str, Ty.slice, GRatio.ty, GValue.ty, GExpr.ty, GBind.ty] at h ⊢; simpa using h) (fun x => by simp only [Ty.struct, Ty.pair, Ty.unit, Ty.int, Ty.bool, Ty.str, Ty.slice, GRatio.ty, GValue.ty, GExpr.ty, GBind.ty]; rw [GValue.size_eq]; (try dsimp only); omega)
theorem reads29 : ∀ n, Reads Tryz.prog n 29 GExpr.ty := fun n => by
  induction n using Nat.strongRecOn with
  | ind n ih => exact (reads_struct Tryz.underlying29 cellsOf29 (fun m hm => (readsF_cons rfl cellsOf5 (reads_int Tryz.underlying5 m) (readsF_cons rfl cellsOf26 (reads26 m) (readsF_cons rfl cellsOf9 (reads_str Tryz.underlying9 m) (readsF_cons rfl cellsOf27 (reads_slice Tryz.underlying27 cellsOf29 (by decide) (fun k hk => (ih k (by omega)))) readsF_nil)))))).conv (fun x => (⟨x.1, x.2.1, x.2.2.1, x.2.2.2.1⟩ : GExpr)) (fun x => by show GExpr.el _ = _; rw [GExpr.el_eq]; simp [Ty.struct, Ty.pair, Ty.unit, Ty.int, Ty.bool, Ty.str, Ty.slice, V.cells, GRatio.ty, GRatio.el_eq, GValue.ty, GValue.el_eq, GExpr.ty, GExpr.el_eq, GBind.ty, GBind.el_eq]) rfl (fun x h => by simp only [GExpr.ty]; rw [GExpr.wf_eq]; simp only [Ty.struct, Ty.pair, Ty.unit, Ty.int, Ty.bool, Ty.str, Ty.slice, GRatio.ty, GValue.ty, GExpr.ty, GBind.ty] at h ⊢; simpa using h) (fun x => by simp only [Ty.struct, Ty.pair, Ty.unit, Ty.int, Ty.bool, Ty.str, Ty.slice, GRatio.ty, GValue.ty, GExpr.ty, GBind.ty]; rw [GExpr.size_eq]; (try dsimp only); omega)
theorem reads69 (n : Nat) : Reads Tryz.prog n 69 GBind.ty := (reads_struct Tryz.underlying69 cellsOf69 (fun m hm => (readsF_cons rfl cellsOf9 (reads_str Tryz.underlying9 m) (readsF_cons rfl cellsOf26 (reads26 m) readsF_nil)))).conv (fun x => (⟨x.1, x.2.1⟩ : GBind)) (fun x => by show GBind.el _ = _; rw [GBind.el_eq]; simp [Ty.struct, Ty.pair, Ty.unit, Ty.int, Ty.bool, Ty.str, Ty.slice, V.cells, GRatio.ty, GRatio.el_eq, GValue.ty, GValue.el_eq, GExpr.ty, GExpr.el_eq, GBind.ty, GBind.el_eq]) rfl (fun x h => by simp only [GBind.ty]; rw [GBind.wf_eq]; simp only [Ty.struct, Ty.pair, Ty.unit, Ty.int, Ty.bool, Ty.str, Ty.slice, GRatio.ty, GValue.ty, GExpr.ty, GBind.ty] at h ⊢; simpa using h) (fun x => by simp only [Ty.struct, Ty.pair, Ty.unit, Ty.int, Ty.bool, Ty.str, Ty.slice, GRatio.ty, GValue.ty, GExpr.ty, GBind.ty]; rw [GBind.size_eq]; (try dsimp only); omega)
theorem arg29 : ArgOf Tryz.prog 29 GExpr.ty := arg_struct Tryz.underlying29 reads29 GExpr.el_agg
theorem arg43 : ArgOf Tryz.prog 43 (Ty.slice GBind.ty) := arg_leaf (fun n => (reads_slice Tryz.underlying43 cellsOf69 (by decide) (fun k hk => (reads69 k)))) (fun _ => rfl) (by rw [Tryz.underlying43])
end Go.Proofs.Tryz

namespace Go.Proofs.YtfhpamcehnfhoaaGreat
open Go Go.Ab
set_option linter.unusedVariables false
theorem ev_gambrellaw04_ExprEvals {r} (a0 a1) : type_of% (evS (fun n => go_gambrellaw04_ExprEvals n a0 a1) r fun n => go_gambrellaw04_ExprEvals.eq_2 a0 a1 n) := evS _ _ fun _ => rfl
theorem ev_gambrellaw04_ExprEvals_L0 {r} (a0 a1 a2) : type_of% (evS (fun n => go_gambrellaw04_ExprEvals_L0 n a0 a1 a2) r fun n => go_gambrellaw04_ExprEvals_L0.eq_2 a0 a1 a2 n) := evS _ _ fun _ => rfl
theorem ev_gambrellaw04_ExprEvals_L1 {r} (a0 a1 a2) : type_of% (evS (fun n => go_gambrellaw04_ExprEvals_L1 n a0 a1 a2) r fun n => go_gambrellaw04_ExprEvals_L1.eq_2 a0 a1 a2 n) := evS _ _ fun _ => rfl
theorem ev_gambrellaw04_ExprEvals_L2 {r} (a0 a1 a2) : type_of% (evS (fun n => go_gambrellaw04_ExprEvals_L2 n a0 a1 a2) r fun n => go_gambrellaw04_ExprEvals_L2.eq_2 a0 a1 a2 n) := evS _ _ fun _ => rfl
theorem ev_ref04_Great {r} (a0) : type_of% (evS (fun n => go_ref04_Great n a0) r fun n => go_ref04_Great.eq_2 a0 n) := evS _ _ fun _ => rfl
theorem ev_ref04_GreatBinds {r} (a0) : type_of% (evS (fun n => go_ref04_GreatBinds n a0) r fun n => go_ref04_GreatBinds.eq_2 a0 n) := evS _ _ fun _ => rfl
theorem ev_ref04_GreatBinds_L0 {r} (a0 a1) : type_of% (evS (fun n => go_ref04_GreatBinds_L0 n a0 a1) r fun n => go_ref04_GreatBinds_L0.eq_2 a0 a1 n) := evS _ _ fun _ => rfl
theorem ev_ref04_GreatBinds_L1 {r} (a0 a1 a2) : type_of% (evS (fun n => go_ref04_GreatBinds_L1 n a0 a1 a2) r fun n => go_ref04_GreatBinds_L1.eq_2 a0 a1 a2 n) := evS _ _ fun _ => rfl
theorem ev_ref04_GreatBinds_L2 {r} (a0 a1 a2) : type_of% (evS (fun n => go_ref04_GreatBinds_L2 n a0 a1 a2) r fun n => go_ref04_GreatBinds_L2.eq_2 a0 a1 a2 n) := evS _ _ fun _ => rfl
theorem ev_expr_Eval {r} (a0 a1) : type_of% (evS (fun n => go_expr_Eval n a0 a1) r fun n => go_expr_Eval.eq_2 a0 a1 n) := evS _ _ fun _ => rfl
theorem ev_expr_Eval_L0 {r} (a0 a1 a2 a3 a4 a5) : type_of% (evS (fun n => go_expr_Eval_L0 n a0 a1 a2 a3 a4 a5) r fun n => go_expr_Eval_L0.eq_2 a0 a1 a2 a3 a4 a5 n) := evS _ _ fun _ => rfl
theorem ev_expr_Eval_L1 {r} (a0 a1 a2 a3 a4 a5 a6) : type_of% (evS (fun n => go_expr_Eval_L1 n a0 a1 a2 a3 a4 a5 a6) r fun n => go_expr_Eval_L1.eq_2 a0 a1 a2 a3 a4 a5 a6 n) := evS _ _ fun _ => rfl
theorem ev_ref04_Eval {r} (a0 a1) : type_of% (evS (fun n => go_ref04_Eval n a0 a1) r fun n => go_ref04_Eval.eq_2 a0 a1 n) := evS _ _ fun _ => rfl
theorem ev_expr_Names {r} (a0) : type_of% (evS (fun n => go_expr_Names n a0) r fun n => go_expr_Names.eq_2 a0 n) := evS _ _ fun _ => rfl
theorem ev_ref04_Names {r} (a0) : type_of% (evS (fun n => go_ref04_Names n a0) r fun n => go_ref04_Names.eq_2 a0 n) := evS _ _ fun _ => rfl
theorem ev_expr_Check {r} (a0) : type_of% (evS (fun n => go_expr_Check n a0) r fun n => go_expr_Check.eq_2 a0 n) := evS _ _ fun _ => rfl
theorem ev_expr_Check_L0 {r} (a0 a1) : type_of% (evS (fun n => go_expr_Check_L0 n a0 a1) r fun n => go_expr_Check_L0.eq_2 a0 a1 n) := evS _ _ fun _ => rfl
theorem ev_ref04_Check {r} (a0) : type_of% (evS (fun n => go_ref04_Check n a0) r fun n => go_ref04_Check.eq_2 a0 n) := evS _ _ fun _ => rfl
theorem ev_ref04_Check_L0 {r} (a0 a1) : type_of% (evS (fun n => go_ref04_Check_L0 n a0 a1) r fun n => go_ref04_Check_L0.eq_2 a0 a1 n) := evS _ _ fun _ => rfl
theorem ev_ref03_Same {r} (a0 a1) : type_of% (evS (fun n => go_ref03_Same n a0 a1) r fun n => go_ref03_Same.eq_2 a0 a1 n) := evS _ _ fun _ => rfl
theorem ev_ref03_Same_L0 {r} (a0 a1 a2) : type_of% (evS (fun n => go_ref03_Same_L0 n a0 a1 a2) r fun n => go_ref03_Same_L0.eq_2 a0 a1 a2 n) := evS _ _ fun _ => rfl
theorem ev_ref03_Same_L1 {r} (a0 a1 a2) : type_of% (evS (fun n => go_ref03_Same_L1 n a0 a1 a2) r fun n => go_ref03_Same_L1.eq_2 a0 a1 a2 n) := evS _ _ fun _ => rfl
theorem ev_ref04_great {r} (a0 a1) : type_of% (evS (fun n => go_ref04_great n a0 a1) r fun n => go_ref04_great.eq_2 a0 a1 n) := evS _ _ fun _ => rfl
theorem ev_ref04_great_L0 {r} (a0 a1 a2) : type_of% (evS (fun n => go_ref04_great_L0 n a0 a1 a2) r fun n => go_ref04_great_L0.eq_2 a0 a1 a2 n) := evS _ _ fun _ => rfl
theorem ev_ref04_great_L1 {r} (a0 a1 a2) : type_of% (evS (fun n => go_ref04_great_L1 n a0 a1 a2) r fun n => go_ref04_great_L1.eq_2 a0 a1 a2 n) := evS _ _ fun _ => rfl
theorem ev_ref04_Parts {r} (a0) : type_of% (evS (fun n => go_ref04_Parts n a0) r fun n => go_ref04_Parts.eq_2 a0 n) := evS _ _ fun _ => rfl
theorem ev_ref04_Parts_L0 {r} (a0 a1 a2) : type_of% (evS (fun n => go_ref04_Parts_L0 n a0 a1 a2) r fun n => go_ref04_Parts_L0.eq_2 a0 a1 a2 n) := evS _ _ fun _ => rfl
theorem ev_ref03_Great {r} (a0) : type_of% (evS (fun n => go_ref03_Great n a0) r fun n => go_ref03_Great.eq_2 a0 n) := evS _ _ fun _ => rfl
theorem ev_label_Name {r} (a0) : type_of% (evS (fun n => go_label_Name n a0) r fun n => go_label_Name.eq_2 a0 n) := evS _ _ fun _ => rfl
theorem ev_label_Name_L0 {r} (a0 a1) : type_of% (evS (fun n => go_label_Name_L0 n a0 a1) r fun n => go_label_Name_L0.eq_2 a0 a1 n) := evS _ _ fun _ => rfl
theorem ev_label_Name_L1 {r} (a0 a1) : type_of% (evS (fun n => go_label_Name_L1 n a0 a1) r fun n => go_label_Name_L1.eq_2 a0 a1 n) := evS _ _ fun _ => rfl
theorem ev_label_Name_L2 {r} (a0 a1 a2 a3 a4) : type_of% (evS (fun n => go_label_Name_L2 n a0 a1 a2 a3 a4) r fun n => go_label_Name_L2.eq_2 a0 a1 a2 a3 a4 n) := evS _ _ fun _ => rfl
theorem ev_label_Name_L3 {r} (a0 a1 a2) : type_of% (evS (fun n => go_label_Name_L3 n a0 a1 a2) r fun n => go_label_Name_L3.eq_2 a0 a1 a2 n) := evS _ _ fun _ => rfl
theorem ev_value_Check {r} (a0) : type_of% (evS (fun n => go_value_Check n a0) r fun n => go_value_Check.eq_2 a0 n) := evS _ _ fun _ => rfl
theorem ev_value_Check_L0 {r} (a0 a1) : type_of% (evS (fun n => go_value_Check_L0 n a0 a1) r fun n => go_value_Check_L0.eq_2 a0 a1 n) := evS _ _ fun _ => rfl
theorem ev_expr_worth {r} (a0 a1) : type_of% (evS (fun n => go_expr_worth n a0 a1) r fun n => go_expr_worth.eq_2 a0 a1 n) := evS _ _ fun _ => rfl
theorem ev_ref04_Binds {r} (a0) : type_of% (evS (fun n => go_ref04_Binds n a0) r fun n => go_ref04_Binds.eq_2 a0 n) := evS _ _ fun _ => rfl
theorem ev_ref04_Binds_L0 {r} (a0 a1) : type_of% (evS (fun n => go_ref04_Binds_L0 n a0 a1) r fun n => go_ref04_Binds_L0.eq_2 a0 a1 n) := evS _ _ fun _ => rfl
theorem ev_ref04_Binds_L1 {r} (a0 a1 a2) : type_of% (evS (fun n => go_ref04_Binds_L1 n a0 a1 a2) r fun n => go_ref04_Binds_L1.eq_2 a0 a1 a2 n) := evS _ _ fun _ => rfl
theorem ev_ref04_Worth {r} (a0 a1) : type_of% (evS (fun n => go_ref04_Worth n a0 a1) r fun n => go_ref04_Worth.eq_2 a0 a1 n) := evS _ _ fun _ => rfl
theorem ev_ref04_Worth_L0 {r} (a0 a1 a2 a3 a4 a5 a6 a7 a8 a9) : type_of% (evS (fun n => go_ref04_Worth_L0 n a0 a1 a2 a3 a4 a5 a6 a7 a8 a9) r fun n => go_ref04_Worth_L0.eq_2 a0 a1 a2 a3 a4 a5 a6 a7 a8 a9 n) := evS _ _ fun _ => rfl
theorem ev_ref03_Twin {r} (a0) : type_of% (evS (fun n => go_ref03_Twin n a0) r fun n => go_ref03_Twin.eq_2 a0 n) := evS _ _ fun _ => rfl
theorem ev_ref03_Twin_L0 {r} (a0 a1 a2 a3 a4 a5 a6 a7 a8 a9 a10 a11 a12 a13) : type_of% (evS (fun n => go_ref03_Twin_L0 n a0 a1 a2 a3 a4 a5 a6 a7 a8 a9 a10 a11 a12 a13) r fun n => go_ref03_Twin_L0.eq_2 a0 a1 a2 a3 a4 a5 a6 a7 a8 a9 a10 a11 a12 a13 n) := evS _ _ fun _ => rfl
theorem ev_expr_names {r} (a0 a1) : type_of% (evS (fun n => go_expr_names n a0 a1) r fun n => go_expr_names.eq_2 a0 a1 n) := evS _ _ fun _ => rfl
theorem ev_expr_names_L0 {r} (a0 a1 a2) : type_of% (evS (fun n => go_expr_names_L0 n a0 a1 a2) r fun n => go_expr_names_L0.eq_2 a0 a1 a2 n) := evS _ _ fun _ => rfl
theorem ev_expr_names_L1 {r} (a0 a1) : type_of% (evS (fun n => go_expr_names_L1 n a0 a1) r fun n => go_expr_names_L1.eq_2 a0 a1 n) := evS _ _ fun _ => rfl
theorem ev_expr_names_L2 {r} (a0 a1 a2 a3) : type_of% (evS (fun n => go_expr_names_L2 n a0 a1 a2 a3) r fun n => go_expr_names_L2.eq_2 a0 a1 a2 a3 n) := evS _ _ fun _ => rfl
theorem ev_ref04_used {r} (a0 a1) : type_of% (evS (fun n => go_ref04_used n a0 a1) r fun n => go_ref04_used.eq_2 a0 a1 n) := evS _ _ fun _ => rfl
theorem ev_ref04_used_L0 {r} (a0 a1 a2) : type_of% (evS (fun n => go_ref04_used_L0 n a0 a1 a2) r fun n => go_ref04_used_L0.eq_2 a0 a1 a2 n) := evS _ _ fun _ => rfl
theorem ev_ref04_used_L1 {r} (a0 a1 a2 a3) : type_of% (evS (fun n => go_ref04_used_L1 n a0 a1 a2 a3) r fun n => go_ref04_used_L1.eq_2 a0 a1 a2 a3 n) := evS _ _ fun _ => rfl
theorem ev_ref04_used_L2 {r} (a0 a1 a2 a3) : type_of% (evS (fun n => go_ref04_used_L2 n a0 a1 a2 a3) r fun n => go_ref04_used_L2.eq_2 a0 a1 a2 a3 n) := evS _ _ fun _ => rfl
theorem ev_ref04_used_L3 {r} (a0 a1) : type_of% (evS (fun n => go_ref04_used_L3 n a0 a1) r fun n => go_ref04_used_L3.eq_2 a0 a1 n) := evS _ _ fun _ => rfl
theorem ev_ref04_used_L4 {r} (a0 a1 a2) : type_of% (evS (fun n => go_ref04_used_L4 n a0 a1 a2) r fun n => go_ref04_used_L4.eq_2 a0 a1 a2 n) := evS _ _ fun _ => rfl
theorem ev_expr_measure {r} (a0) : type_of% (evS (fun n => go_expr_measure n a0) r fun n => go_expr_measure.eq_2 a0 n) := evS _ _ fun _ => rfl
theorem ev_expr_measure_L0 {r} (a0 a1 a2 a3 a4) : type_of% (evS (fun n => go_expr_measure_L0 n a0 a1 a2 a3 a4) r fun n => go_expr_measure_L0.eq_2 a0 a1 a2 a3 a4 n) := evS _ _ fun _ => rfl
theorem ev_expr_fine {r} (a0) : type_of% (evS (fun n => go_expr_fine n a0) r fun n => go_expr_fine.eq_2 a0 n) := evS _ _ fun _ => rfl
theorem ev_expr_fine_L0 {r} (a0 a1) : type_of% (evS (fun n => go_expr_fine_L0 n a0 a1) r fun n => go_expr_fine_L0.eq_2 a0 a1 n) := evS _ _ fun _ => rfl
theorem ev_expr_fine_L1 {r} (a0 a1) : type_of% (evS (fun n => go_expr_fine_L1 n a0 a1) r fun n => go_expr_fine_L1.eq_2 a0 a1 n) := evS _ _ fun _ => rfl
theorem ev_expr_fine_L2 {r} (a0 a1) : type_of% (evS (fun n => go_expr_fine_L2 n a0 a1) r fun n => go_expr_fine_L2.eq_2 a0 a1 n) := evS _ _ fun _ => rfl
theorem ev_expr_fine_L3 {r} (a0 a1) : type_of% (evS (fun n => go_expr_fine_L3 n a0 a1) r fun n => go_expr_fine_L3.eq_2 a0 a1 n) := evS _ _ fun _ => rfl
theorem ev_expr_fine_L4 {r} (a0) : type_of% (evS (fun n => go_expr_fine_L4 n a0) r fun n => go_expr_fine_L4.eq_2 a0 n) := evS _ _ fun _ => rfl
theorem ev_ref04_Deep {r} (a0) : type_of% (evS (fun n => go_ref04_Deep n a0) r fun n => go_ref04_Deep.eq_2 a0 n) := evS _ _ fun _ => rfl
theorem ev_ref04_Deep_L0 {r} (a0 a1 a2) : type_of% (evS (fun n => go_ref04_Deep_L0 n a0 a1 a2) r fun n => go_ref04_Deep_L0.eq_2 a0 a1 a2 n) := evS _ _ fun _ => rfl
theorem ev_ref04_fine {r} (a0) : type_of% (evS (fun n => go_ref04_fine n a0) r fun n => go_ref04_fine.eq_2 a0 n) := evS _ _ fun _ => rfl
theorem ev_ref04_fine_L0 {r} (a0 a1) : type_of% (evS (fun n => go_ref04_fine_L0 n a0 a1) r fun n => go_ref04_fine_L0.eq_2 a0 a1 n) := evS _ _ fun _ => rfl
theorem ev_ref04_fine_L1 {r} (a0 a1) : type_of% (evS (fun n => go_ref04_fine_L1 n a0 a1) r fun n => go_ref04_fine_L1.eq_2 a0 a1 n) := evS _ _ fun _ => rfl
theorem ev_ref04_fine_L2 {r} (a0 a1) : type_of% (evS (fun n => go_ref04_fine_L2 n a0 a1) r fun n => go_ref04_fine_L2.eq_2 a0 a1 n) := evS _ _ fun _ => rfl
theorem ev_ref04_fine_L3 {r} (a0 a1) : type_of% (evS (fun n => go_ref04_fine_L3 n a0 a1) r fun n => go_ref04_fine_L3.eq_2 a0 a1 n) := evS _ _ fun _ => rfl
theorem ev_ref03_great {r} (a0 a1) : type_of% (evS (fun n => go_ref03_great n a0 a1) r fun n => go_ref03_great.eq_2 a0 a1 n) := evS _ _ fun _ => rfl
theorem ev_ref03_great_L0 {r} (a0 a1 a2) : type_of% (evS (fun n => go_ref03_great_L0 n a0 a1 a2) r fun n => go_ref03_great_L0.eq_2 a0 a1 a2 n) := evS _ _ fun _ => rfl
theorem ev_ref03_great_L1 {r} (a0 a1 a2) : type_of% (evS (fun n => go_ref03_great_L1 n a0 a1 a2) r fun n => go_ref03_great_L1.eq_2 a0 a1 a2 n) := evS _ _ fun _ => rfl
theorem ev_ref03_Parts {r} (a0) : type_of% (evS (fun n => go_ref03_Parts n a0) r fun n => go_ref03_Parts.eq_2 a0 n) := evS _ _ fun _ => rfl
theorem ev_ref03_Parts_L0 {r} (a0 a1 a2) : type_of% (evS (fun n => go_ref03_Parts_L0 n a0 a1 a2) r fun n => go_ref03_Parts_L0.eq_2 a0 a1 a2 n) := evS _ _ fun _ => rfl
theorem ev_ref03_Parts_L1 {r} (a0 a1 a2 a3) : type_of% (evS (fun n => go_ref03_Parts_L1 n a0 a1 a2 a3) r fun n => go_ref03_Parts_L1.eq_2 a0 a1 a2 a3 n) := evS _ _ fun _ => rfl
theorem ev_value_measure {r} (a0) : type_of% (evS (fun n => go_value_measure n a0) r fun n => go_value_measure.eq_2 a0 n) := evS _ _ fun _ => rfl
theorem ev_value_measure_L0 {r} (a0 a1 a2 a3 a4) : type_of% (evS (fun n => go_value_measure_L0 n a0 a1 a2 a3 a4) r fun n => go_value_measure_L0.eq_2 a0 a1 a2 a3 a4 n) := evS _ _ fun _ => rfl
theorem ev_value_measure_L1 {r} (a0 a1) : type_of% (evS (fun n => go_value_measure_L1 n a0 a1) r fun n => go_value_measure_L1.eq_2 a0 a1 n) := evS _ _ fun _ => rfl
theorem ev_value_fine {r} (a0) : type_of% (evS (fun n => go_value_fine n a0) r fun n => go_value_fine.eq_2 a0 n) := evS _ _ fun _ => rfl
theorem ev_value_fine_L0 {r} (a0 a1 a2) : type_of% (evS (fun n => go_value_fine_L0 n a0 a1 a2) r fun n => go_value_fine_L0.eq_2 a0 a1 a2 n) := evS _ _ fun _ => rfl
theorem ev_value_fine_L1 {r} (a0 a1 a2 a3) : type_of% (evS (fun n => go_value_fine_L1 n a0 a1 a2 a3) r fun n => go_value_fine_L1.eq_2 a0 a1 a2 a3 n) := evS _ _ fun _ => rfl
theorem ev_value_fine_L2 {r} (a0 a1 a2 a3) : type_of% (evS (fun n => go_value_fine_L2 n a0 a1 a2 a3) r fun n => go_value_fine_L2.eq_2 a0 a1 a2 a3 n) := evS _ _ fun _ => rfl
theorem ev_value_fine_L3 {r} (a0) : type_of% (evS (fun n => go_value_fine_L3 n a0) r fun n => go_value_fine_L3.eq_2 a0 n) := evS _ _ fun _ => rfl
theorem ev_expr_eval {r} (a0 a1) : type_of% (evS (fun n => go_expr_eval n a0 a1) r fun n => go_expr_eval.eq_2 a0 a1 n) := evS _ _ fun _ => rfl
theorem ev_expr_eval_L0 {r} (a0 a1 a2 a3 a4 a5 a6 a7) : type_of% (evS (fun n => go_expr_eval_L0 n a0 a1 a2 a3 a4 a5 a6 a7) r fun n => go_expr_eval_L0.eq_2 a0 a1 a2 a3 a4 a5 a6 a7 n) := evS _ _ fun _ => rfl
theorem ev_expr_eval_L1 {r} (a0 a1 a2 a3 a4 a5 a6 a7 a8 a9 a10 a11) : type_of% (evS (fun n => go_expr_eval_L1 n a0 a1 a2 a3 a4 a5 a6 a7 a8 a9 a10 a11) r fun n => go_expr_eval_L1.eq_2 a0 a1 a2 a3 a4 a5 a6 a7 a8 a9 a10 a11 n) := evS _ _ fun _ => rfl
theorem ev_value_Twin {r} (a0) : type_of% (evS (fun n => go_value_Twin n a0) r fun n => go_value_Twin.eq_2 a0 n) := evS _ _ fun _ => rfl
theorem ev_ref02_Name {r} (a0) : type_of% (evS (fun n => go_ref02_Name n a0) r fun n => go_ref02_Name.eq_2 a0 n) := evS _ _ fun _ => rfl
theorem ev_ref02_Name_L0 {r} (a0 a1) : type_of% (evS (fun n => go_ref02_Name_L0 n a0 a1) r fun n => go_ref02_Name_L0.eq_2 a0 a1 n) := evS _ _ fun _ => rfl
theorem ev_ref02_Name_L1 {r} (a0 a1 a2) : type_of% (evS (fun n => go_ref02_Name_L1 n a0 a1 a2) r fun n => go_ref02_Name_L1.eq_2 a0 a1 a2 n) := evS _ _ fun _ => rfl
theorem ev_ref03_Check {r} (a0) : type_of% (evS (fun n => go_ref03_Check n a0) r fun n => go_ref03_Check.eq_2 a0 n) := evS _ _ fun _ => rfl
theorem ev_ref03_Check_L0 {r} (a0 a1) : type_of% (evS (fun n => go_ref03_Check_L0 n a0 a1) r fun n => go_ref03_Check_L0.eq_2 a0 a1 n) := evS _ _ fun _ => rfl
theorem ev_ref04_found {r} (a0 a1) : type_of% (evS (fun n => go_ref04_found n a0 a1) r fun n => go_ref04_found.eq_2 a0 a1 n) := evS _ _ fun _ => rfl
theorem ev_ref04_found_L0 {r} (a0 a1 a2 a3) : type_of% (evS (fun n => go_ref04_found_L0 n a0 a1 a2 a3) r fun n => go_ref04_found_L0.eq_2 a0 a1 a2 a3 n) := evS _ _ fun _ => rfl
theorem ev_ref04_one {r} (a0 a1) : type_of% (evS (fun n => go_ref04_one n a0 a1) r fun n => go_ref04_one.eq_2 a0 a1 n) := evS _ _ fun _ => rfl
theorem ev_ref04_two {r} (a0 a1 a2) : type_of% (evS (fun n => go_ref04_two n a0 a1 a2) r fun n => go_ref04_two.eq_2 a0 a1 a2 n) := evS _ _ fun _ => rfl
theorem ev_ref04_two_L0 {r} (a0 a1 a2 a3 a4) : type_of% (evS (fun n => go_ref04_two_L0 n a0 a1 a2 a3 a4) r fun n => go_ref04_two_L0.eq_2 a0 a1 a2 a3 a4 n) := evS _ _ fun _ => rfl
theorem ev_ref04_two_L1 {r} (a0 a1 a2 a3 a4 a5) : type_of% (evS (fun n => go_ref04_two_L1 n a0 a1 a2 a3 a4 a5) r fun n => go_ref04_two_L1.eq_2 a0 a1 a2 a3 a4 a5 n) := evS _ _ fun _ => rfl
theorem ev_ref04_two_L2 {r} (a0 a1 a2 a3 a4 a5 a6 a7) : type_of% (evS (fun n => go_ref04_two_L2 n a0 a1 a2 a3 a4 a5 a6 a7) r fun n => go_ref04_two_L2.eq_2 a0 a1 a2 a3 a4 a5 a6 a7 n) := evS _ _ fun _ => rfl
theorem ev_ref04_two_L3 {r} (a0 a1 a2 a3) : type_of% (evS (fun n => go_ref04_two_L3 n a0 a1 a2 a3) r fun n => go_ref04_two_L3.eq_2 a0 a1 a2 a3 n) := evS _ _ fun _ => rfl
theorem ev_ref04_two_L4 {r} (a0 a1 a2 a3 a4 a5 a6 a7) : type_of% (evS (fun n => go_ref04_two_L4 n a0 a1 a2 a3 a4 a5 a6 a7) r fun n => go_ref04_two_L4.eq_2 a0 a1 a2 a3 a4 a5 a6 a7 n) := evS _ _ fun _ => rfl
theorem ev_ref04_two_L5 {r} (a0 a1 a2 a3) : type_of% (evS (fun n => go_ref04_two_L5 n a0 a1 a2 a3) r fun n => go_ref04_two_L5.eq_2 a0 a1 a2 a3 n) := evS _ _ fun _ => rfl
theorem ev_ref04_two_L6 {r} (a0 a1 a2) : type_of% (evS (fun n => go_ref04_two_L6 n a0 a1 a2) r fun n => go_ref04_two_L6.eq_2 a0 a1 a2 n) := evS _ _ fun _ => rfl
theorem ev_slices_Contains_string_string {r} (a0 a1) : type_of% (evS (fun n => go_slices_Contains_string_string n a0 a1) r fun n => go_slices_Contains_string_string.eq_2 a0 a1 n) := evS _ _ fun _ => rfl
theorem ev_expr_count {r} (a0) : type_of% (evS (fun n => go_expr_count n a0) r fun n => go_expr_count.eq_2 a0 n) := evS _ _ fun _ => rfl
theorem ev_expr_count_L0 {r} (a0 a1 a2) : type_of% (evS (fun n => go_expr_count_L0 n a0 a1 a2) r fun n => go_expr_count_L0.eq_2 a0 a1 a2 n) := evS _ _ fun _ => rfl
theorem ev_expr_count_L1 {r} (a0 a1 a2) : type_of% (evS (fun n => go_expr_count_L1 n a0 a1 a2) r fun n => go_expr_count_L1.eq_2 a0 a1 a2 n) := evS _ _ fun _ => rfl
theorem ev_expr_count_L2 {r} (a0 a1 a2) : type_of% (evS (fun n => go_expr_count_L2 n a0 a1 a2) r fun n => go_expr_count_L2.eq_2 a0 a1 a2 n) := evS _ _ fun _ => rfl
theorem ev_expr_count_L3 {r} (a0 a1 a2) : type_of% (evS (fun n => go_expr_count_L3 n a0 a1 a2) r fun n => go_expr_count_L3.eq_2 a0 a1 a2 n) := evS _ _ fun _ => rfl
theorem ev_expr_count_L4 {r} : type_of% (evS (fun n => go_expr_count_L4 n) r fun n => go_expr_count_L4.eq_2 n) := evS _ _ fun _ => rfl
theorem ev_expr_count_L5 {r} (a0) : type_of% (evS (fun n => go_expr_count_L5 n a0) r fun n => go_expr_count_L5.eq_2 a0 n) := evS _ _ fun _ => rfl
theorem ev_expr_named {r} (a0) : type_of% (evS (fun n => go_expr_named n a0) r fun n => go_expr_named.eq_2 a0 n) := evS _ _ fun _ => rfl
theorem ev_value_Same {r} (a0 a1) : type_of% (evS (fun n => go_value_Same n a0 a1) r fun n => go_value_Same.eq_2 a0 a1 n) := evS _ _ fun _ => rfl
theorem ev_value_Same_L0 {r} (a0 a1 a2) : type_of% (evS (fun n => go_value_Same_L0 n a0 a1 a2) r fun n => go_value_Same_L0.eq_2 a0 a1 a2 n) := evS _ _ fun _ => rfl
theorem ev_value_Same_L1 {r} (a0 a1 a2 a3) : type_of% (evS (fun n => go_value_Same_L1 n a0 a1 a2 a3) r fun n => go_value_Same_L1.eq_2 a0 a1 a2 a3 n) := evS _ _ fun _ => rfl
theorem ev_slices_ContainsFunc_api_Expr_api_Expr {r} (a0) : type_of% (evS (fun n => go_slices_ContainsFunc_api_Expr_api_Expr n a0) r fun n => go_slices_ContainsFunc_api_Expr_api_Expr.eq_2 a0 n) := evS _ _ fun _ => rfl
theorem ev_ref04_args {r} (a0) : type_of% (evS (fun n => go_ref04_args n a0) r fun n => go_ref04_args.eq_2 a0 n) := evS _ _ fun _ => rfl
theorem ev_ref04_args_L0 {r} (a0 a1) : type_of% (evS (fun n => go_ref04_args_L0 n a0 a1) r fun n => go_ref04_args_L0.eq_2 a0 a1 n) := evS _ _ fun _ => rfl
theorem ev_ref04_args_L1 {r} (a0 a1) : type_of% (evS (fun n => go_ref04_args_L1 n a0 a1) r fun n => go_ref04_args_L1.eq_2 a0 a1 n) := evS _ _ fun _ => rfl
theorem ev_ref04_args_L2 {r} (a0 a1) : type_of% (evS (fun n => go_ref04_args_L2 n a0 a1) r fun n => go_ref04_args_L2.eq_2 a0 a1 n) := evS _ _ fun _ => rfl
theorem ev_ref04_Named {r} (a0) : type_of% (evS (fun n => go_ref04_Named n a0) r fun n => go_ref04_Named.eq_2 a0 n) := evS _ _ fun _ => rfl
theorem ev_ratio_Check {r} (a0) : type_of% (evS (fun n => go_ratio_Check n a0) r fun n => go_ratio_Check.eq_2 a0 n) := evS _ _ fun _ => rfl
theorem ev_ratio_Check_L0 {r} (a0) : type_of% (evS (fun n => go_ratio_Check_L0 n a0) r fun n => go_ratio_Check_L0.eq_2 a0 n) := evS _ _ fun _ => rfl
theorem ev_slices_IndexFunc_api_Bind_api_Bind {r} (a0 a1 a2 a3 a4 a5 a6 a7 a8 a9) : type_of% (evS (fun n => go_slices_IndexFunc_api_Bind_api_Bind n a0 a1 a2 a3 a4 a5 a6 a7 a8 a9) r fun n => go_slices_IndexFunc_api_Bind_api_Bind.eq_2 a0 a1 a2 a3 a4 a5 a6 a7 a8 a9 n) := evS _ _ fun _ => rfl
theorem ev_slices_IndexFunc_api_Bind_api_Bind_L0 {r} (a0 a1 a2 a3 a4 a5 a6 a7 a8 a9 a10 a11) : type_of% (evS (fun n => go_slices_IndexFunc_api_Bind_api_Bind_L0 n a0 a1 a2 a3 a4 a5 a6 a7 a8 a9 a10 a11) r fun n => go_slices_IndexFunc_api_Bind_api_Bind_L0.eq_2 a0 a1 a2 a3 a4 a5 a6 a7 a8 a9 a10 a11 n) := evS _ _ fun _ => rfl
theorem ev_expr_must {r} (a0) : type_of% (evS (fun n => go_expr_must n a0) r fun n => go_expr_must.eq_2 a0 n) := evS _ _ fun _ => rfl
theorem ev_expr_kind {r} (a0 a1) : type_of% (evS (fun n => go_expr_kind n a0 a1) r fun n => go_expr_kind.eq_2 a0 a1 n) := evS _ _ fun _ => rfl
theorem ev_expr_kind_L0 {r} (a0 a1 a2 a3) : type_of% (evS (fun n => go_expr_kind_L0 n a0 a1 a2 a3) r fun n => go_expr_kind_L0.eq_2 a0 a1 a2 a3 n) := evS _ _ fun _ => rfl
theorem ev_expr_kind_L1 {r} (a0 a1 a2 a3) : type_of% (evS (fun n => go_expr_kind_L1 n a0 a1 a2 a3) r fun n => go_expr_kind_L1.eq_2 a0 a1 a2 a3 n) := evS _ _ fun _ => rfl
theorem ev_expr_apply {r} (a0 a1) : type_of% (evS (fun n => go_expr_apply n a0 a1) r fun n => go_expr_apply.eq_2 a0 a1 n) := evS _ _ fun _ => rfl
theorem ev_expr_apply_L0 {r} (a0 a1 a2 a3 a4) : type_of% (evS (fun n => go_expr_apply_L0 n a0 a1 a2 a3 a4) r fun n => go_expr_apply_L0.eq_2 a0 a1 a2 a3 a4 n) := evS _ _ fun _ => rfl
theorem ev_expr_apply_L1 {r} (a0 a1 a2) : type_of% (evS (fun n => go_expr_apply_L1 n a0 a1 a2) r fun n => go_expr_apply_L1.eq_2 a0 a1 a2 n) := evS _ _ fun _ => rfl
theorem ev_expr_apply_L2 {r} (a0 a1) : type_of% (evS (fun n => go_expr_apply_L2 n a0 a1) r fun n => go_expr_apply_L2.eq_2 a0 a1 n) := evS _ _ fun _ => rfl
theorem ev_value_Twin_1 {r} (a0) : type_of% (evS (fun n => go_value_Twin_1 n a0) r fun n => go_value_Twin_1.eq_2 a0 n) := evS _ _ fun _ => rfl
theorem ev_value_Twin_1_L0 {r} (a0 a1 a2 a3 a4 a5 a6 a7 a8 a9 a10) : type_of% (evS (fun n => go_value_Twin_1_L0 n a0 a1 a2 a3 a4 a5 a6 a7 a8 a9 a10) r fun n => go_value_Twin_1_L0.eq_2 a0 a1 a2 a3 a4 a5 a6 a7 a8 a9 a10 n) := evS _ _ fun _ => rfl
theorem ev_ref02_letter {r} (a0) : type_of% (evS (fun n => go_ref02_letter n a0) r fun n => go_ref02_letter.eq_2 a0 n) := evS _ _ fun _ => rfl
theorem ev_ref02_digit {r} (a0) : type_of% (evS (fun n => go_ref02_digit n a0) r fun n => go_ref02_digit.eq_2 a0 n) := evS _ _ fun _ => rfl
theorem ev_ref03_Deep {r} (a0) : type_of% (evS (fun n => go_ref03_Deep n a0) r fun n => go_ref03_Deep.eq_2 a0 n) := evS _ _ fun _ => rfl
theorem ev_ref03_Deep_L0 {r} (a0 a1 a2) : type_of% (evS (fun n => go_ref03_Deep_L0 n a0 a1 a2) r fun n => go_ref03_Deep_L0.eq_2 a0 a1 a2 n) := evS _ _ fun _ => rfl
theorem ev_ref03_Deep_L1 {r} (a0 a1 a2 a3) : type_of% (evS (fun n => go_ref03_Deep_L1 n a0 a1 a2 a3) r fun n => go_ref03_Deep_L1.eq_2 a0 a1 a2 a3 n) := evS _ _ fun _ => rfl
theorem ev_ref03_fine {r} (a0) : type_of% (evS (fun n => go_ref03_fine n a0) r fun n => go_ref03_fine.eq_2 a0 n) := evS _ _ fun _ => rfl
theorem ev_ref03_fine_L0 {r} (a0 a1) : type_of% (evS (fun n => go_ref03_fine_L0 n a0 a1) r fun n => go_ref03_fine_L0.eq_2 a0 a1 n) := evS _ _ fun _ => rfl
theorem ev_ref03_fine_L1 {r} (a0 a1) : type_of% (evS (fun n => go_ref03_fine_L1 n a0 a1) r fun n => go_ref03_fine_L1.eq_2 a0 a1 n) := evS _ _ fun _ => rfl
theorem ev_ref03_fine_L2 {r} (a0 a1 a2) : type_of% (evS (fun n => go_ref03_fine_L2 n a0 a1 a2) r fun n => go_ref03_fine_L2.eq_2 a0 a1 a2 n) := evS _ _ fun _ => rfl
theorem ev_ref03_fine_L3 {r} (a0 a1) : type_of% (evS (fun n => go_ref03_fine_L3 n a0 a1) r fun n => go_ref03_fine_L3.eq_2 a0 a1 n) := evS _ _ fun _ => rfl
theorem ev_ref03_fine_L4 {r} (a0 a1) : type_of% (evS (fun n => go_ref03_fine_L4 n a0 a1) r fun n => go_ref03_fine_L4.eq_2 a0 a1 n) := evS _ _ fun _ => rfl
theorem ev_ref03_Is {r} (a0) : type_of% (evS (fun n => go_ref03_Is n a0) r fun n => go_ref03_Is.eq_2 a0 n) := evS _ _ fun _ => rfl
theorem ev_ref01_Floor {r} (a0) : type_of% (evS (fun n => go_ref01_Floor n a0) r fun n => go_ref01_Floor.eq_2 a0 n) := evS _ _ fun _ => rfl
theorem ev_ref01_Floor_L0 {r} (a0) : type_of% (evS (fun n => go_ref01_Floor_L0 n a0) r fun n => go_ref01_Floor_L0.eq_2 a0 n) := evS _ _ fun _ => rfl
theorem ev_ref04_whole {r} (a0) : type_of% (evS (fun n => go_ref04_whole n a0) r fun n => go_ref04_whole.eq_2 a0 n) := evS _ _ fun _ => rfl
theorem ev_ref03_Len {r} (a0) : type_of% (evS (fun n => go_ref03_Len n a0) r fun n => go_ref03_Len.eq_2 a0 n) := evS _ _ fun _ => rfl
theorem ev_ref03_Add {r} (a0 a1) : type_of% (evS (fun n => go_ref03_Add n a0 a1) r fun n => go_ref03_Add.eq_2 a0 a1 n) := evS _ _ fun _ => rfl
theorem ev_ref03_Add_L0 {r} (a0 a1 a2 a3 a4 a5 a6 a7 a8) : type_of% (evS (fun n => go_ref03_Add_L0 n a0 a1 a2 a3 a4 a5 a6 a7 a8) r fun n => go_ref03_Add_L0.eq_2 a0 a1 a2 a3 a4 a5 a6 a7 a8 n) := evS _ _ fun _ => rfl
theorem ev_ref03_Compare {r} (a0 a1) : type_of% (evS (fun n => go_ref03_Compare n a0 a1) r fun n => go_ref03_Compare.eq_2 a0 a1 n) := evS _ _ fun _ => rfl
theorem ev_ref01_Sub {r} (a0 a1) : type_of% (evS (fun n => go_ref01_Sub n a0 a1) r fun n => go_ref01_Sub.eq_2 a0 a1 n) := evS _ _ fun _ => rfl
theorem ev_ref01_Mul {r} (a0 a1) : type_of% (evS (fun n => go_ref01_Mul n a0 a1) r fun n => go_ref01_Mul.eq_2 a0 a1 n) := evS _ _ fun _ => rfl
theorem ev_ref01_Div {r} (a0 a1) : type_of% (evS (fun n => go_ref01_Div n a0 a1) r fun n => go_ref01_Div.eq_2 a0 a1 n) := evS _ _ fun _ => rfl
theorem ev_ref03_At {r} (a0 a1) : type_of% (evS (fun n => go_ref03_At n a0 a1) r fun n => go_ref03_At.eq_2 a0 a1 n) := evS _ _ fun _ => rfl
theorem ev_ref03_At_L0 {r} (a0 a1 a2 a3) : type_of% (evS (fun n => go_ref03_At_L0 n a0 a1 a2 a3) r fun n => go_ref03_At_L0.eq_2 a0 a1 a2 a3 n) := evS _ _ fun _ => rfl
theorem ev_ref04_number {r} (a0 a1) : type_of% (evS (fun n => go_ref04_number n a0 a1) r fun n => go_ref04_number.eq_2 a0 a1 n) := evS _ _ fun _ => rfl
theorem ev_slices_Index_string_string {r} (a0 a1) : type_of% (evS (fun n => go_slices_Index_string_string n a0 a1) r fun n => go_slices_Index_string_string.eq_2 a0 a1 n) := evS _ _ fun _ => rfl
theorem ev_slices_Index_string_string_L0 {r} (a0 a1 a2 a3) : type_of% (evS (fun n => go_slices_Index_string_string_L0 n a0 a1 a2 a3) r fun n => go_slices_Index_string_string_L0.eq_2 a0 a1 a2 a3 n) := evS _ _ fun _ => rfl
theorem ev_slices_IndexFunc_api_Expr_api_Expr {r} (a0) : type_of% (evS (fun n => go_slices_IndexFunc_api_Expr_api_Expr n a0) r fun n => go_slices_IndexFunc_api_Expr_api_Expr.eq_2 a0 n) := evS _ _ fun _ => rfl
theorem ev_slices_IndexFunc_api_Expr_api_Expr_L0 {r} (a0 a1 a2) : type_of% (evS (fun n => go_slices_IndexFunc_api_Expr_api_Expr_L0 n a0 a1 a2) r fun n => go_slices_IndexFunc_api_Expr_api_Expr_L0.eq_2 a0 a1 a2 n) := evS _ _ fun _ => rfl
theorem ev_ratio_size {r} (a0) : type_of% (evS (fun n => go_ratio_size n a0) r fun n => go_ratio_size.eq_2 a0 n) := evS _ _ fun _ => rfl
theorem ev_ratio_gcd {r} (a0 a1) : type_of% (evS (fun n => go_ratio_gcd n a0 a1) r fun n => go_ratio_gcd.eq_2 a0 a1 n) := evS _ _ fun _ => rfl
theorem ev_ratio_gcd_L0 {r} (a0 a1) : type_of% (evS (fun n => go_ratio_gcd_L0 n a0 a1) r fun n => go_ratio_gcd_L0.eq_2 a0 a1 n) := evS _ _ fun _ => rfl
theorem ev_expr_eval_1 {r} (a0 a1 a2 a3 a4 a5 a6 a7 a8 a9) : type_of% (evS (fun n => go_expr_eval_1 n a0 a1 a2 a3 a4 a5 a6 a7 a8 a9) r fun n => go_expr_eval_1.eq_2 a0 a1 a2 a3 a4 a5 a6 a7 a8 a9 n) := evS _ _ fun _ => rfl
theorem ev_value_Add {r} (a0 a1) : type_of% (evS (fun n => go_value_Add n a0 a1) r fun n => go_value_Add.eq_2 a0 a1 n) := evS _ _ fun _ => rfl
theorem ev_value_Add_L0 {r} (a0 a1 a2 a3 a4 a5 a6 a7 a8 a9 a10 a11) : type_of% (evS (fun n => go_value_Add_L0 n a0 a1 a2 a3 a4 a5 a6 a7 a8 a9 a10 a11) r fun n => go_value_Add_L0.eq_2 a0 a1 a2 a3 a4 a5 a6 a7 a8 a9 a10 a11 n) := evS _ _ fun _ => rfl
theorem ev_ratio_Sub {r} (a0 a1) : type_of% (evS (fun n => go_ratio_Sub n a0 a1) r fun n => go_ratio_Sub.eq_2 a0 a1 n) := evS _ _ fun _ => rfl
theorem ev_expr_number {r} (a0 a1) : type_of% (evS (fun n => go_expr_number n a0 a1) r fun n => go_expr_number.eq_2 a0 a1 n) := evS _ _ fun _ => rfl
theorem ev_ratio_Mul {r} (a0 a1) : type_of% (evS (fun n => go_ratio_Mul n a0 a1) r fun n => go_ratio_Mul.eq_2 a0 a1 n) := evS _ _ fun _ => rfl
theorem ev_ratio_Div {r} (a0 a1) : type_of% (evS (fun n => go_ratio_Div n a0 a1) r fun n => go_ratio_Div.eq_2 a0 a1 n) := evS _ _ fun _ => rfl
theorem ev_expr_truth {r} (a0) : type_of% (evS (fun n => go_expr_truth n a0) r fun n => go_expr_truth.eq_2 a0 n) := evS _ _ fun _ => rfl
theorem ev_value_Compare {r} (a0 a1) : type_of% (evS (fun n => go_value_Compare n a0 a1) r fun n => go_value_Compare.eq_2 a0 a1 n) := evS _ _ fun _ => rfl
theorem ev_ratio_Floor {r} (a0) : type_of% (evS (fun n => go_ratio_Floor n a0) r fun n => go_ratio_Floor.eq_2 a0 n) := evS _ _ fun _ => rfl
theorem ev_ratio_Make {r} (a0 a1) : type_of% (evS (fun n => go_ratio_Make n a0 a1) r fun n => go_ratio_Make.eq_2 a0 a1 n) := evS _ _ fun _ => rfl
theorem ev_ratio_Make_L0 {r} (a0 a1 a2 a3 a4 a5) : type_of% (evS (fun n => go_ratio_Make_L0 n a0 a1 a2 a3 a4 a5) r fun n => go_ratio_Make_L0.eq_2 a0 a1 a2 a3 a4 a5 n) := evS _ _ fun _ => rfl
theorem ev_ratio_Make_L1 {r} (a0 a1) : type_of% (evS (fun n => go_ratio_Make_L1 n a0 a1) r fun n => go_ratio_Make_L1.eq_2 a0 a1 n) := evS _ _ fun _ => rfl
theorem ev_value_Len {r} (a0) : type_of% (evS (fun n => go_value_Len n a0) r fun n => go_value_Len.eq_2 a0 n) := evS _ _ fun _ => rfl
theorem ev_value_At {r} (a0 a1) : type_of% (evS (fun n => go_value_At n a0 a1) r fun n => go_value_At.eq_2 a0 a1 n) := evS _ _ fun _ => rfl
theorem ev_value_At_L0 {r} (a0 a1 a2 a3) : type_of% (evS (fun n => go_value_At_L0 n a0 a1 a2 a3) r fun n => go_value_At_L0.eq_2 a0 a1 a2 a3 n) := evS _ _ fun _ => rfl
theorem ev_ref01_Check {r} (a0) : type_of% (evS (fun n => go_ref01_Check n a0) r fun n => go_ref01_Check.eq_2 a0 n) := evS _ _ fun _ => rfl
theorem ev_ref01_Check_L0 {r} (a0) : type_of% (evS (fun n => go_ref01_Check_L0 n a0) r fun n => go_ref01_Check_L0.eq_2 a0 n) := evS _ _ fun _ => rfl
theorem ev_ref03_Of {r} (a0) : type_of% (evS (fun n => go_ref03_Of n a0) r fun n => go_ref03_Of.eq_2 a0 n) := evS _ _ fun _ => rfl
theorem ev_ref03_both {r} (a0 a1) : type_of% (evS (fun n => go_ref03_both n a0 a1) r fun n => go_ref03_both.eq_2 a0 a1 n) := evS _ _ fun _ => rfl
theorem ev_ref01_Add {r} (a0 a1) : type_of% (evS (fun n => go_ref01_Add n a0 a1) r fun n => go_ref01_Add.eq_2 a0 a1 n) := evS _ _ fun _ => rfl
theorem ev_ref03_Str {r} (a0) : type_of% (evS (fun n => go_ref03_Str n a0) r fun n => go_ref03_Str.eq_2 a0 n) := evS _ _ fun _ => rfl
theorem ev_ref03_Twin_s2 {r} (a0) : type_of% (evS (fun n => go_ref03_Twin_s2 n a0) r fun n => go_ref03_Twin_s2.eq_2 a0 n) := evS _ _ fun _ => rfl
theorem ev_ref03_Twin_s2_L0 {r} (a0 a1 a2 a3 a4 a5 a6 a7 a8 a9 a10 a11 a12 a13) : type_of% (evS (fun n => go_ref03_Twin_s2_L0 n a0 a1 a2 a3 a4 a5 a6 a7 a8 a9 a10 a11 a12 a13) r fun n => go_ref03_Twin_s2_L0.eq_2 a0 a1 a2 a3 a4 a5 a6 a7 a8 a9 a10 a11 a12 a13 n) := evS _ _ fun _ => rfl
theorem ev_ref03_compare {r} (a0 a1) : type_of% (evS (fun n => go_ref03_compare n a0 a1) r fun n => go_ref03_compare.eq_2 a0 a1 n) := evS _ _ fun _ => rfl
theorem ev_ref03_compare_L0 {r} (a0 a1 a2) : type_of% (evS (fun n => go_ref03_compare_L0 n a0 a1 a2) r fun n => go_ref03_compare_L0.eq_2 a0 a1 a2 n) := evS _ _ fun _ => rfl
theorem ev_ref03_compare_L1 {r} (a0 a1 a2 a3) : type_of% (evS (fun n => go_ref03_compare_L1 n a0 a1 a2 a3) r fun n => go_ref03_compare_L1.eq_2 a0 a1 a2 a3 n) := evS _ _ fun _ => rfl
theorem ev_ref01_Both {r} (a0 a1) : type_of% (evS (fun n => go_ref01_Both n a0 a1) r fun n => go_ref01_Both.eq_2 a0 a1 n) := evS _ _ fun _ => rfl
theorem ev_ref01_Make {r} (a0 a1) : type_of% (evS (fun n => go_ref01_Make n a0 a1) r fun n => go_ref01_Make.eq_2 a0 a1 n) := evS _ _ fun _ => rfl
theorem ev_ref01_Make_L0 {r} (a0 a1 a2 a3) : type_of% (evS (fun n => go_ref01_Make_L0 n a0 a1 a2 a3) r fun n => go_ref01_Make_L0.eq_2 a0 a1 a2 a3 n) := evS _ _ fun _ => rfl
theorem ev_ref01_Make_L1 {r} (a0 a1 a2 a3) : type_of% (evS (fun n => go_ref01_Make_L1 n a0 a1 a2 a3) r fun n => go_ref01_Make_L1.eq_2 a0 a1 a2 a3 n) := evS _ _ fun _ => rfl
theorem ev_ref01_Make_L3 {r} (a0 a1 a2) : type_of% (evS (fun n => go_ref01_Make_L3 n a0 a1 a2) r fun n => go_ref01_Make_L3.eq_2 a0 a1 a2 n) := evS _ _ fun _ => rfl
theorem ev_expr_fine_1 {r} (a0) : type_of% (evS (fun n => go_expr_fine_1 n a0) r fun n => go_expr_fine_1.eq_2 a0 n) := evS _ _ fun _ => rfl
theorem ev_value_both {r} (a0 a1) : type_of% (evS (fun n => go_value_both n a0 a1) r fun n => go_value_both.eq_2 a0 a1 n) := evS _ _ fun _ => rfl
theorem ev_ratio_Add {r} (a0 a1) : type_of% (evS (fun n => go_ratio_Add n a0 a1) r fun n => go_ratio_Add.eq_2 a0 a1 n) := evS _ _ fun _ => rfl
theorem ev_value_Twin_s2 {r} (a0) : type_of% (evS (fun n => go_value_Twin_s2 n a0) r fun n => go_value_Twin_s2.eq_2 a0 n) := evS _ _ fun _ => rfl
theorem ev_ratio_run {r} (a0 a1) : type_of% (evS (fun n => go_ratio_run n a0 a1) r fun n => go_ratio_run.eq_2 a0 a1 n) := evS _ _ fun _ => rfl
theorem ev_ratio_run_s2 {r} (a0 a1) : type_of% (evS (fun n => go_ratio_run_s2 n a0 a1) r fun n => go_ratio_run_s2.eq_2 a0 a1 n) := evS _ _ fun _ => rfl
theorem ev_ratio_run_s3 {r} (a0 a1) : type_of% (evS (fun n => go_ratio_run_s3 n a0 a1) r fun n => go_ratio_run_s3.eq_2 a0 a1 n) := evS _ _ fun _ => rfl
theorem ev_value_order {r} (a0 a1) : type_of% (evS (fun n => go_value_order n a0 a1) r fun n => go_value_order.eq_2 a0 a1 n) := evS _ _ fun _ => rfl
theorem ev_value_order_L0 {r} (a0 a1 a2 a3 a4) : type_of% (evS (fun n => go_value_order_L0 n a0 a1 a2 a3 a4) r fun n => go_value_order_L0.eq_2 a0 a1 a2 a3 a4 n) := evS _ _ fun _ => rfl
theorem ev_ratio_floor {r} (a0 a1) : type_of% (evS (fun n => go_ratio_floor n a0 a1) r fun n => go_ratio_floor.eq_2 a0 a1 n) := evS _ _ fun _ => rfl
theorem ev_ratio_floor_L0 {r} (a0) : type_of% (evS (fun n => go_ratio_floor_L0 n a0) r fun n => go_ratio_floor_L0.eq_2 a0 n) := evS _ _ fun _ => rfl
theorem ev_ref01_common {r} (a0 a1) : type_of% (evS (fun n => go_ref01_common n a0 a1) r fun n => go_ref01_common.eq_2 a0 a1 n) := evS _ _ fun _ => rfl
theorem ev_ref01_common_L0 {r} (a0 a1) : type_of% (evS (fun n => go_ref01_common_L0 n a0 a1) r fun n => go_ref01_common_L0.eq_2 a0 a1 n) := evS _ _ fun _ => rfl
theorem ev_ref01_Cmp {r} (a0 a1) : type_of% (evS (fun n => go_ref01_Cmp n a0 a1) r fun n => go_ref01_Cmp.eq_2 a0 a1 n) := evS _ _ fun _ => rfl
theorem ev_ratio_run_s4 {r} (a0 a1) : type_of% (evS (fun n => go_ratio_run_s4 n a0 a1) r fun n => go_ratio_run_s4.eq_2 a0 a1 n) := evS _ _ fun _ => rfl
theorem ev_value_Twin_1_s2 {r} (a0) : type_of% (evS (fun n => go_value_Twin_1_s2 n a0) r fun n => go_value_Twin_1_s2.eq_2 a0 n) := evS _ _ fun _ => rfl
theorem ev_value_Twin_1_s2_L0 {r} (a0 a1 a2 a3 a4 a5 a6 a7 a8 a9 a10) : type_of% (evS (fun n => go_value_Twin_1_s2_L0 n a0 a1 a2 a3 a4 a5 a6 a7 a8 a9 a10) r fun n => go_value_Twin_1_s2_L0.eq_2 a0 a1 a2 a3 a4 a5 a6 a7 a8 a9 a10 n) := evS _ _ fun _ => rfl
theorem ev_ratio_with {r} (a0 a1) : type_of% (evS (fun n => go_ratio_with n a0 a1) r fun n => go_ratio_with.eq_2 a0 a1 n) := evS _ _ fun _ => rfl
theorem ev_ratio_Sub_1 {r} (a0 a1) : type_of% (evS (fun n => go_ratio_Sub_1 n a0 a1) r fun n => go_ratio_Sub_1.eq_2 a0 a1 n) := evS _ _ fun _ => rfl
theorem ev_ratio_calc_set {r} (a0 a1 a2) : type_of% (evS (fun n => go_ratio_calc_set n a0 a1 a2) r fun n => go_ratio_calc_set.eq_2 a0 a1 a2 n) := evS _ _ fun _ => rfl
theorem ev_ratio_Mul_1 {r} (a0 a1) : type_of% (evS (fun n => go_ratio_Mul_1 n a0 a1) r fun n => go_ratio_Mul_1.eq_2 a0 a1 n) := evS _ _ fun _ => rfl
theorem ev_ratio_Div_1 {r} (a0 a1) : type_of% (evS (fun n => go_ratio_Div_1 n a0 a1) r fun n => go_ratio_Div_1.eq_2 a0 a1 n) := evS _ _ fun _ => rfl
theorem ev_ratio_Cmp {r} (a0 a1) : type_of% (evS (fun n => go_ratio_Cmp n a0 a1) r fun n => go_ratio_Cmp.eq_2 a0 a1 n) := evS _ _ fun _ => rfl
theorem ev_strings_Compare {r} (a0 a1) : type_of% (evS (fun n => go_strings_Compare n a0 a1) r fun n => go_strings_Compare.eq_2 a0 a1 n) := evS _ _ fun _ => rfl
theorem ev_ratio_Add_1 {r} (a0 a1) : type_of% (evS (fun n => go_ratio_Add_1 n a0 a1) r fun n => go_ratio_Add_1.eq_2 a0 a1 n) := evS _ _ fun _ => rfl
theorem ev_cmp_Or_api_Errno {r} (a0) : type_of% (evS (fun n => go_cmp_Or_api_Errno n a0) r fun n => go_cmp_Or_api_Errno.eq_2 a0 n) := evS _ _ fun _ => rfl
theorem ev_cmp_Or_api_Errno_L0 {r} (a0 a1 a2 a3) : type_of% (evS (fun n => go_cmp_Or_api_Errno_L0 n a0 a1 a2 a3) r fun n => go_cmp_Or_api_Errno_L0.eq_2 a0 a1 a2 a3 n) := evS _ _ fun _ => rfl
theorem ev_cmp_Compare_int64 {r} (a0 a1) : type_of% (evS (fun n => go_cmp_Compare_int64 n a0 a1) r fun n => go_cmp_Compare_int64.eq_2 a0 a1 n) := evS _ _ fun _ => rfl
theorem ev_cmp_isNaN_int64 {r} (a0) : type_of% (evS (fun n => go_cmp_isNaN_int64 n a0) r fun n => go_cmp_isNaN_int64.eq_2 a0 n) := evS _ _ fun _ => rfl
end Go.Proofs.YtfhpamcehnfhoaaGreat

namespace Go.Proofs.YtfhpamcehnfhoaaGreat
open Go Go.Ab
set_option linter.unusedVariables false
set_option linter.unusedSimpArgs false
/-- a number of 64 bits -/
def I64 (x : Int) : Prop := -9223372036854775808 ≤ x ∧ x ≤ 9223372036854775807
theorem ratio_size {x : Int} (h : I64 x) : Ev (fun n => go_ratio_size n x) (x.natAbs : Int) := by
  unfold I64 at h
  rw [ev_ratio_size]
  simp only [Ev.pif, Ev.some_iff, decide_eq_true_eq]
  split
  · rw [wUn (x := x) (by omega), wUn (by omega)]; omega
  · rw [wU (by omega)]; omega
theorem ratio_gcd0 : ∀ (b a : Nat), Ev (fun n => go_ratio_gcd_L0 n (b : Int) (a : Int)) (Nat.gcd a b : Int) := by
  intro b
  induction b using Nat.strongRecOn with
  | ind b ih =>
    intro a
    rw [ev_ratio_gcd_L0]
    by_cases hb : b = 0
    · subst hb
      simp [Ev.pif, Ev.some_iff]
    · have hm : rem .u64 (a : Int) (b : Int) = some ((a % b : Nat) : Int) := by
        unfold rem; rw [if_neg (by omega), Int.tmod_eq_emod_of_nonneg (by omega)]; simp
      rw [Ev.pif_t (by simpa using hb), Ev.opt_iff hm]
      have := ih (a % b) (Nat.mod_lt _ (by omega)) b
      rw [Nat.gcd_comm a b, Nat.gcd_rec b a, Nat.gcd_comm]
      exact this
theorem ratio_gcd {a b : Nat} : Ev (fun n => go_ratio_gcd n (a : Int) (b : Int)) (Nat.gcd a b : Int) := by
  rw [ev_ratio_gcd]; exact ratio_gcd0 b a
/-- a valid ratio -/
def rok (r : GRatio) : Bool := decide (1 ≤ r.den) && decide (r.den ≤ 1000000000) && decide (r.num.natAbs ≤ 1000000000) && (Nat.gcd r.num.natAbs r.den.natAbs == 1)
theorem rok_iff {r : GRatio} : rok r = true ↔ 1 ≤ r.den ∧ r.den ≤ 1000000000 ∧ r.num.natAbs ≤ 1000000000 ∧ Nat.gcd r.num.natAbs r.den.natAbs = 1 := by
  simp [rok, and_assoc]
theorem ratio_Check {r : GRatio} (h : I64 r.num) : Ev (fun n => go_ratio_Check n r) (if rok r then 0 else 8) := by
  have l0 : ∀ b, Ev (fun n => go_ratio_Check_L0 n b) (if b then 8 else 0) := fun b => by
    rw [ev_ratio_Check_L0]; cases b <;> simp [Ev.pif, Ev.some_iff]
  rw [ev_ratio_Check]
  simp only [Ev.pif, decide_eq_true_eq]
  split
  · refine (l0 _).to ?_; rw [if_pos rfl, if_neg]; rw [rok_iff]; omega
  split
  · refine (l0 _).to ?_; rw [if_pos rfl, if_neg]; rw [rok_iff]; omega
  rw [Ev.bind_iff (ratio_size h)]
  simp only [Ev.pif, decide_eq_true_eq]
  split
  · refine (l0 _).to ?_; rw [if_pos rfl, if_neg]; rw [rok_iff]; omega
  rw [Ev.bind_iff (ratio_size h), wU (by omega)]
  have hd : r.den = (r.den.natAbs : Int) := by omega
  rw [hd, Ev.bind_iff ratio_gcd]
  refine (l0 _).to ?_
  have : ((((Nat.gcd r.num.natAbs r.den.natAbs : Nat) : Int) != 1) = true) ↔ ¬ rok r = true := by
    rw [rok_iff]
    simp only [bne_iff_ne, ne_eq]
    omega
  by_cases hr : rok r = true
  · rw [if_neg (by rw [this]; simpa using hr), if_pos hr]
  · rw [if_pos (by rw [this]; exact hr), if_neg hr]
theorem gcd_tmod (a b : Int) : Nat.gcd a.natAbs b.natAbs = Nat.gcd b.natAbs (a.tmod b).natAbs := by
  rw [Int.natAbs_tmod, Nat.gcd_comm a.natAbs, Nat.gcd_rec b.natAbs a.natAbs, Nat.gcd_comm]
theorem ref01_common0 : ∀ (m : Nat) (b a : Int), b.natAbs = m → I64 a → I64 b → ¬ a = -9223372036854775808 → ¬ b = -9223372036854775808 → Ev (fun n => go_ref01_common_L0 n b a) (Nat.gcd a.natAbs b.natAbs : Int) := by
  intro m
  induction m using Nat.strongRecOn with
  | ind m ih =>
    intro b a hm ha hb ha0 hb0
    unfold I64 at ha hb
    rw [ev_ref01_common_L0]
    by_cases h0 : b = 0
    · subst h0
      simp only [Ev.pif, Ev.some_iff, decide_eq_true_eq]
      rw [if_neg (by simp)]
      split
      · rw [wI (by omega)]; simp; omega
      · simp; omega
    · have hr : rem .i64 a b = some (a.tmod b) := by unfold rem; rw [if_neg h0]
      have h1 : (a.tmod b).natAbs < b.natAbs := by rw [Int.natAbs_tmod]; exact Nat.mod_lt _ (by omega)
      rw [Ev.pif_t (by simpa using h0), Ev.opt_iff hr]
      have := ih _ (by rw [← hm]; exact h1) (a.tmod b) b rfl hb (by unfold I64; omega) hb0 (by omega)
      rw [gcd_tmod a b]
      exact this
theorem ref01_common {a b : Int} (ha : I64 a) (hb : I64 b) (ha0 : ¬ a = -9223372036854775808) (hb0 : ¬ b = -9223372036854775808) : Ev (fun n => go_ref01_common n a b) (Nat.gcd a.natAbs b.natAbs : Int) := by
  rw [ev_ref01_common]; exact ref01_common0 _ b a rfl ha hb ha0 hb0
theorem ref01_Check {r : GRatio} : Ev (fun n => go_ref01_Check n r) (if rok r then 0 else 8) := by
  have l0 : ∀ b, Ev (fun n => go_ref01_Check_L0 n b) (if b then 8 else 0) := fun b => by
    rw [ev_ref01_Check_L0]; cases b <;> simp [Ev.pif, Ev.some_iff]
  rw [ev_ref01_Check]
  simp only [Ev.pif, decide_eq_true_eq]
  split
  · refine (l0 _).to ?_; rw [if_pos rfl, if_neg]; rw [rok_iff]; omega
  split
  · refine (l0 _).to ?_; rw [if_pos rfl, if_neg]; rw [rok_iff]; omega
  split
  · refine (l0 _).to ?_; rw [if_pos rfl, if_neg]; rw [rok_iff]; omega
  split
  · refine (l0 _).to ?_; rw [if_pos rfl, if_neg]; rw [rok_iff]; omega
  rw [Ev.bind_iff (ref01_common (by unfold I64; omega) (by unfold I64; omega) (by omega) (by omega))]
  refine (l0 _).to ?_
  have : ((((Nat.gcd r.num.natAbs r.den.natAbs : Nat) : Int) != 1) = true) ↔ ¬ rok r = true := by
    rw [rok_iff]
    simp only [bne_iff_ne, ne_eq]
    omega
  by_cases hr : rok r = true
  · rw [if_neg (by rw [this]; simpa using hr), if_pos hr]
  · rw [if_pos (by rw [this]; exact hr), if_neg hr]
/-- the ratio of two numbers -/
def rmake (num den : Int) : Int × GRatio :=
  if den = 0 then (18, ⟨0, 0⟩) else
  if num.natAbs / Nat.gcd num.natAbs den.natAbs ≤ 1000000000 ∧ den.natAbs / Nat.gcd num.natAbs den.natAbs ≤ 1000000000 then
    (0, ⟨if decide (num < 0) = decide (den < 0) then ((num.natAbs / Nat.gcd num.natAbs den.natAbs : Nat) : Int) else -((num.natAbs / Nat.gcd num.natAbs den.natAbs : Nat) : Int), ((den.natAbs / Nat.gcd num.natAbs den.natAbs : Nat) : Int)⟩)
  else (16, ⟨0, 0⟩)
theorem quo_nat {k : IntKind} {a b : Nat} (hk : ∀ c : Nat, c ≤ a → k.wrap (c : Int) = c) (hb : b ≠ 0) : quo k (a : Int) (b : Int) = some ((a / b : Nat) : Int) := by
  unfold quo
  rw [if_neg (by omega), Int.tdiv_eq_ediv_of_nonneg (by omega), ← Int.natCast_ediv, hk _ (Nat.div_le_self _ _)]
theorem ratio_Make {num den : Int} (hn : I64 num) (hd : I64 den) : Ev (fun n => go_ratio_Make n num den) (rmake num den) := by
  have l1 : ∀ a b, Ev (fun n => go_ratio_Make_L1 n a b) (0, b) := fun a b => by rw [ev_ratio_Make_L1]; exact Ev.some_iff.2 rfl
  unfold I64 at hn hd
  rw [ev_ratio_Make]
  unfold rmake
  by_cases h0 : den = 0
  · rw [Ev.pif_t (by simpa using h0), Ev.some_iff, if_pos h0]
  rw [Ev.pif_f (by simpa using h0), Ev.bind_iff (ratio_size hn), Ev.bind_iff (ratio_size hd), Ev.bind_iff ratio_gcd, if_neg h0]
  have hg : Nat.gcd num.natAbs den.natAbs ≠ 0 := fun h => by have := (Nat.gcd_eq_zero_iff.1 h).2; omega
  rw [Ev.opt_iff (quo_nat (fun c hc => wU (by omega)) hg), Ev.opt_iff (quo_nat (fun c hc => wU (by omega)) hg)]
  have hln : num.natAbs / Nat.gcd num.natAbs den.natAbs ≤ num.natAbs := Nat.div_le_self _ _
  have hld : den.natAbs / Nat.gcd num.natAbs den.natAbs ≤ den.natAbs := Nat.div_le_self _ _
  generalize num.natAbs / Nat.gcd num.natAbs den.natAbs = p at hln ⊢
  generalize den.natAbs / Nat.gcd num.natAbs den.natAbs = q at hld ⊢
  have bad : ∀ b, b = true → ¬ (p ≤ 1000000000 ∧ q ≤ 1000000000) → Ev (fun n => go_ratio_Make_L0 n den num (q : Int) (p : Int) b ⟨0, 0⟩) (if p ≤ 1000000000 ∧ q ≤ 1000000000 then (0, (⟨if decide (num < 0) = decide (den < 0) then (p : Int) else -(p : Int), (q : Int)⟩ : GRatio)) else (16, ⟨0, 0⟩)) := fun b hb h => by
    rw [ev_ratio_Make_L0, Ev.pif_t hb, Ev.some_iff, if_neg h]
  simp only [Ev.pif, decide_eq_true_eq]
  split
  · exact bad _ rfl (by omega)
  by_cases hq : q ≤ 1000000000
  · rw [ev_ratio_Make_L0, Ev.pif_f (by simpa using (by omega : (q : Int) ≤ 1000000000)), if_pos ⟨by omega, hq⟩]
    rw [wI (x := (p : Int)) (by omega), wI (x := (q : Int)) (by omega), wI (by omega)]
    simp only [Ev.pif]
    cases h1 : decide (num < 0) <;> cases h2 : decide (den < 0) <;> (simp; exact l1 _ _)
  · exact bad _ (by simp; omega) (by omega)
theorem rmake_ok {num den : Int} (h : (rmake num den).1 = 0) : rok (rmake num den).2 = true := by
  unfold rmake at h ⊢
  split at h
  · cases h
  · rename_i h0
    split at h
    · rename_i hc
      rw [if_neg h0, if_pos hc, rok_iff]
      have hgp : 0 < Nat.gcd num.natAbs den.natAbs := Nat.gcd_pos_of_pos_right _ (by omega)
      have hco : Nat.gcd (num.natAbs / Nat.gcd num.natAbs den.natAbs) (den.natAbs / Nat.gcd num.natAbs den.natAbs) = 1 := (by rw [Nat.gcd_div (Nat.gcd_dvd_left _ _) (Nat.gcd_dvd_right _ _), Nat.div_self hgp])
      have hq : 1 ≤ den.natAbs / Nat.gcd num.natAbs den.natAbs := (Nat.one_le_div_iff hgp).2 (Nat.le_of_dvd (by omega) (Nat.gcd_dvd_right _ _))
      generalize num.natAbs / Nat.gcd num.natAbs den.natAbs = p at hco hc ⊢
      generalize den.natAbs / Nat.gcd num.natAbs den.natAbs = q at hco hc hq ⊢
      refine ⟨by simp; omega, by simp; omega, ?_, ?_⟩
      · simp only; split <;> omega
      · simp only
        split
        · simpa using hco
        · rw [Int.natAbs_neg]; simpa using hco
    · cases h
theorem ref01_Make {num den : Int} (hn : -9223372036854775808 < num ∧ num ≤ 9223372036854775807) (hd : -9223372036854775808 < den ∧ den ≤ 9223372036854775807) : Ev (fun n => go_ref01_Make n num den) (rmake num den) := by
  have l3 : ∀ (a b : Int) (c : GRatio), (a = den ∧ b = num ∧ 0 < den) ∨ (a = -den ∧ b = -num ∧ den < 0) → Ev (fun n => go_ref01_Make_L3 n a b c) (rmake num den) := fun a b c h => by
    have hap : 0 < a := by omega
    have hda : a.natAbs = den.natAbs := by omega
    have hba : b.natAbs = num.natAbs := by omega
    rw [ev_ref01_Make_L3, Ev.bind_iff (ref01_common (by unfold I64; omega) (by unfold I64; omega) (by omega) (by omega)), hda, hba]
    have hgp : 0 < Nat.gcd num.natAbs den.natAbs := Nat.gcd_pos_of_pos_right _ (by omega)
    have hq1 : quo .i64 b ((Nat.gcd num.natAbs den.natAbs : Nat) : Int) = some (if b < 0 then -((num.natAbs / Nat.gcd num.natAbs den.natAbs : Nat) : Int) else ((num.natAbs / Nat.gcd num.natAbs den.natAbs : Nat) : Int)) := by
      have hle : num.natAbs / Nat.gcd num.natAbs den.natAbs ≤ num.natAbs := Nat.div_le_self _ _
      unfold quo
      rw [if_neg (by omega)]
      split
      · have : b = -(num.natAbs : Int) := by omega
        rw [this, Int.neg_tdiv, Int.tdiv_eq_ediv_of_nonneg (by omega), ← Int.natCast_ediv]
        generalize num.natAbs / Nat.gcd num.natAbs den.natAbs = p at hle ⊢
        rw [wI (by omega)]
      · have : b = (num.natAbs : Int) := by omega
        rw [this, Int.tdiv_eq_ediv_of_nonneg (by omega), ← Int.natCast_ediv]
        generalize num.natAbs / Nat.gcd num.natAbs den.natAbs = p at hle ⊢
        rw [wI (by omega)]
    have hq2 : quo .i64 a ((Nat.gcd num.natAbs den.natAbs : Nat) : Int) = some ((den.natAbs / Nat.gcd num.natAbs den.natAbs : Nat) : Int) := by
      have hle : den.natAbs / Nat.gcd num.natAbs den.natAbs ≤ den.natAbs := Nat.div_le_self _ _
      have : a = (den.natAbs : Int) := by omega
      rw [this]
      exact quo_nat (fun c hc => wI (by omega)) (by omega)
    rw [Ev.opt_iff hq1, Ev.opt_iff hq2, Ev.bind_iff ref01_Check]
    have hco : Nat.gcd (num.natAbs / Nat.gcd num.natAbs den.natAbs) (den.natAbs / Nat.gcd num.natAbs den.natAbs) = 1 := (by rw [Nat.gcd_div (Nat.gcd_dvd_left _ _) (Nat.gcd_dvd_right _ _), Nat.div_self hgp])
    have hq : 1 ≤ den.natAbs / Nat.gcd num.natAbs den.natAbs := (Nat.one_le_div_iff hgp).2 (Nat.le_of_dvd (by omega) (Nat.gcd_dvd_right _ _))
    unfold rmake
    rw [if_neg (show ¬ den = 0 by omega)]
    have hpn : num = 0 → num.natAbs / Nat.gcd num.natAbs den.natAbs = 0 := fun h => by rw [h]; simp
    generalize num.natAbs / Nat.gcd num.natAbs den.natAbs = p at hco hpn ⊢
    generalize den.natAbs / Nat.gcd num.natAbs den.natAbs = q at hco hq ⊢
    have hrok : rok ⟨if b < 0 then -(p : Int) else p, (q : Int)⟩ = true ↔ p ≤ 1000000000 ∧ q ≤ 1000000000 := by
      rw [rok_iff]
      have : (if b < 0 then -(p : Int) else (p : Int)).natAbs = p := by split <;> omega
      simp only [this, Int.natAbs_natCast, hco, and_true]
      omega
    have hsg : (if b < 0 then -(p : Int) else (p : Int)) = if decide (num < 0) = decide (den < 0) then (p : Int) else -(p : Int) := by
      by_cases hp : p = 0
      · subst hp; simp
      rcases h with ⟨_, h2, h3⟩ | ⟨_, h2, h3⟩
      · have e2 : decide (den < 0) = false := by simp; omega
        rw [e2, h2]
        by_cases h4 : num < 0 <;> simp [h4]
      · have e2 : decide (den < 0) = true := by simp; omega
        rw [e2, h2]
        by_cases h4 : num < 0
        · rw [if_neg (by omega)]; simp [h4]
        · by_cases h5 : num = 0
          · exact (hp (hpn h5)).elim
          · rw [if_pos (by omega)]; simp [h4]
    by_cases hc : p ≤ 1000000000 ∧ q ≤ 1000000000
    · rw [if_pos (hrok.2 hc), Ev.pif_f (by simp), Ev.some_iff, if_pos hc, hsg]
    · rw [if_neg (fun hh => hc (hrok.1 hh)), Ev.pif_t (by simp), Ev.some_iff, if_neg hc]
  have l1 : ∀ c, Ev (fun n => go_ref01_Make_L1 n den num false c) (rmake num den) ∨ den = 0 := fun c => by
    by_cases h0 : den = 0
    · exact .inr h0
    left
    rw [ev_ref01_Make_L1, Ev.pif_f rfl]
    simp only [Ev.pif, decide_eq_true_eq]
    split
    · rw [wI (by omega), wI (by omega)]
      exact l3 _ _ _ (.inr ⟨by omega, by omega, by omega⟩)
    · exact l3 _ _ _ (.inl ⟨rfl, rfl, by omega⟩)
  rw [ev_ref01_Make]
  by_cases h0 : den = 0
  · rw [Ev.pif_t (by simpa using h0), Ev.some_iff]
    unfold rmake; rw [if_pos h0]
  rw [Ev.pif_f (by simpa using h0), Ev.pif_f (by simp; omega), ev_ref01_Make_L0, Ev.pif_f rfl, Ev.pif_f (by simp; omega)]
  have : (den == -9223372036854775808) = false := by simp; omega
  rw [this]
  exact (l1 _).resolve_right h0
end Go.Proofs.YtfhpamcehnfhoaaGreat

namespace Go.Proofs.YtfhpamcehnfhoaaGreat
open Go Go.Ab
set_option linter.unusedVariables false
set_option linter.unusedSimpArgs false
theorem cmp_Or2 {x y : Int} : Ev (fun n => go_cmp_Or_api_Errno n [x, y]) (if x = 0 then y else x) := by
  rw [ev_cmp_Or_api_Errno, ev_cmp_Or_api_Errno_L0, Ev.pif_t (by rfl), Ev.opt_iff (show ix [x, y] 0 = some x from rfl)]
  by_cases hx : x = 0
  · subst hx
    rw [Ev.pif_f (by simp), if_pos rfl, ev_cmp_Or_api_Errno_L0, Ev.pif_t (by rfl), Ev.opt_iff (show ix [0, y] (IntKind.i64.wrap (0 + 1)) = some y from rfl)]
    by_cases hy : y = 0
    · subst hy
      rw [Ev.pif_f (by simp), ev_cmp_Or_api_Errno_L0, Ev.pif_f (by rfl), Ev.some_iff]
    · rw [Ev.pif_t (by simpa using hy), Ev.some_iff]
  · rw [Ev.pif_t (by simpa using hx), Ev.some_iff, if_neg hx]
def wfR (r : GRatio) : Prop := I64 r.num ∧ I64 r.den
theorem wfR_of_ok {r : GRatio} (h : rok r = true) : wfR r := by
  rw [rok_iff] at h; unfold wfR I64; omega
theorem ratio_with0 {a b : GRatio} (ha : wfR a) (hb : wfR b) : Ev (fun n => go_ratio_with n a b) ⟨a, b, ⟨0, 0⟩, if rok a && rok b then 0 else 8⟩ := by
  rw [ev_ratio_with, Ev.bind_iff (ratio_Check ha.1), Ev.bind_iff (ratio_Check hb.1), Ev.bind_iff cmp_Or2, Ev.some_iff]
  cases rok a <;> cases rok b <;> rfl
theorem ratio_with {a b : GRatio} (ha : wfR a) (hb : wfR b) {k : Int} (hk : k = if rok a && rok b then 0 else 8) : Ev (fun n => go_ratio_with n a b) ⟨a, b, ⟨0, 0⟩, k⟩ := by subst hk; exact ratio_with0 ha hb
/-- an operation with two ratios -/
def rbin (f : GRatio → GRatio → Int × Int) (a b : GRatio) : Int × GRatio := if rok a && rok b then rmake (f a b).1 (f a b).2 else (8, ⟨0, 0⟩)
def fadd (a b : GRatio) : Int × Int := (a.num * b.den + b.num * a.den, a.den * b.den)
def fsub (a b : GRatio) : Int × Int := (a.num * b.den - b.num * a.den, a.den * b.den)
def fmul (a b : GRatio) : Int × Int := (a.num * b.num, a.den * b.den)
def fdiv (a b : GRatio) : Int × Int := (a.num * b.den, a.den * b.num)
theorem mul_b {x y : Int} (hx : -1000000000 ≤ x ∧ x ≤ 1000000000) (hy : -1000000000 ≤ y ∧ y ≤ 1000000000) : -1000000000000000000 ≤ x * y ∧ x * y ≤ 1000000000000000000 := by
  have h : (x * y).natAbs ≤ 1000000000 * 1000000000 := by
    rw [Int.natAbs_mul]; exact Nat.mul_le_mul (by omega) (by omega)
  omega
theorem rok_b {r : GRatio} (h : rok r = true) : (-1000000000 ≤ r.num ∧ r.num ≤ 1000000000) ∧ (-1000000000 ≤ r.den ∧ r.den ≤ 1000000000) ∧ 1 ≤ r.den := by
  rw [rok_iff] at h; omega
theorem calc_set {num den : Int} {c : GCalc} (hn : I64 num) (hd : I64 den) (he : c.e = 0) : Ev (fun n => go_ratio_calc_set n num den c) ⟨c.a, c.b, (rmake num den).2, (rmake num den).1⟩ := by
  rw [ev_ratio_calc_set, Ev.pif_t (by simp [he]), Ev.bind_iff (ratio_Make hn hd), Ev.some_iff]
theorem ratio_run_s4 {a b : GRatio} (ha : wfR a) (hb : wfR b) : Ev (fun n => go_ratio_run_s4 n a b) ((rbin fadd a b).2, (rbin fadd a b).1) := by
  unfold rbin
  cases h : rok a && rok b
  · rw [ev_ratio_run_s4, Ev.bind_iff (ratio_with ha hb (k := 8) (by rw [h]; rfl))]
    simp [Ev.pif, Ev.some_iff, go_ratio_run_1]
  · simp only [Bool.and_eq_true] at h
    obtain ⟨a1, a2, _⟩ := rok_b h.1
    obtain ⟨b1, b2, _⟩ := rok_b h.2
    have m1 := mul_b a1 b2; have m2 := mul_b b1 a2; have m3 := mul_b a2 b2
    rw [ev_ratio_run_s4, Ev.bind_iff (ratio_with ha hb (k := 0) (by rw [h.1, h.2]; rfl))]
    have hf : Ev (fun n => go_ratio_Add_1 n a b) (fadd a b) := by
      rw [ev_ratio_Add_1, Ev.some_iff, wI (x := a.num * b.den) (by omega), wI (x := b.num * a.den) (by omega), wI (by omega), wI (by omega)]; rfl
    rw [Ev.pif_t (by rfl), Ev.bind_iff hf, Ev.bind_iff (calc_set (by unfold I64 fadd; simp only; omega) (by unfold I64 fadd; simp only; omega) rfl)]
    simp [Ev.some_iff, go_ratio_run_1]
theorem ratio_run {a b : GRatio} (ha : wfR a) (hb : wfR b) : Ev (fun n => go_ratio_run n a b) ((rbin fsub a b).2, (rbin fsub a b).1) := by
  unfold rbin
  cases h : rok a && rok b
  · rw [ev_ratio_run, Ev.bind_iff (ratio_with ha hb (k := 8) (by rw [h]; rfl))]
    simp [Ev.pif, Ev.some_iff, go_ratio_run_1]
  · simp only [Bool.and_eq_true] at h
    obtain ⟨a1, a2, _⟩ := rok_b h.1
    obtain ⟨b1, b2, _⟩ := rok_b h.2
    have m1 := mul_b a1 b2; have m2 := mul_b b1 a2; have m3 := mul_b a2 b2
    rw [ev_ratio_run, Ev.bind_iff (ratio_with ha hb (k := 0) (by rw [h.1, h.2]; rfl))]
    have hf : Ev (fun n => go_ratio_Sub_1 n a b) (fsub a b) := by
      rw [ev_ratio_Sub_1, Ev.some_iff, wI (x := a.num * b.den) (by omega), wI (x := b.num * a.den) (by omega), wI (by omega), wI (by omega)]; rfl
    rw [Ev.pif_t (by rfl), Ev.bind_iff hf, Ev.bind_iff (calc_set (by unfold I64 fsub; simp only; omega) (by unfold I64 fsub; simp only; omega) rfl)]
    simp [Ev.some_iff, go_ratio_run_1]
theorem ratio_run_s2 {a b : GRatio} (ha : wfR a) (hb : wfR b) : Ev (fun n => go_ratio_run_s2 n a b) ((rbin fmul a b).2, (rbin fmul a b).1) := by
  unfold rbin
  cases h : rok a && rok b
  · rw [ev_ratio_run_s2, Ev.bind_iff (ratio_with ha hb (k := 8) (by rw [h]; rfl))]
    simp [Ev.pif, Ev.some_iff, go_ratio_run_1]
  · simp only [Bool.and_eq_true] at h
    obtain ⟨a1, a2, _⟩ := rok_b h.1
    obtain ⟨b1, b2, _⟩ := rok_b h.2
    have m1 := mul_b a1 b1; have m3 := mul_b a2 b2
    rw [ev_ratio_run_s2, Ev.bind_iff (ratio_with ha hb (k := 0) (by rw [h.1, h.2]; rfl))]
    have hf : Ev (fun n => go_ratio_Mul_1 n a b) (fmul a b) := by
      rw [ev_ratio_Mul_1, Ev.some_iff, wI (by omega), wI (by omega)]; rfl
    rw [Ev.pif_t (by rfl), Ev.bind_iff hf, Ev.bind_iff (calc_set (by unfold I64 fmul; simp only; omega) (by unfold I64 fmul; simp only; omega) rfl)]
    simp [Ev.some_iff, go_ratio_run_1]
theorem ratio_run_s3 {a b : GRatio} (ha : wfR a) (hb : wfR b) : Ev (fun n => go_ratio_run_s3 n a b) ((rbin fdiv a b).2, (rbin fdiv a b).1) := by
  unfold rbin
  cases h : rok a && rok b
  · rw [ev_ratio_run_s3, Ev.bind_iff (ratio_with ha hb (k := 8) (by rw [h]; rfl))]
    simp [Ev.pif, Ev.some_iff, go_ratio_run_1]
  · simp only [Bool.and_eq_true] at h
    obtain ⟨a1, a2, _⟩ := rok_b h.1
    obtain ⟨b1, b2, _⟩ := rok_b h.2
    have m1 := mul_b a1 b2; have m3 := mul_b a2 b1
    rw [ev_ratio_run_s3, Ev.bind_iff (ratio_with ha hb (k := 0) (by rw [h.1, h.2]; rfl))]
    have hf : Ev (fun n => go_ratio_Div_1 n a b) (fdiv a b) := by
      rw [ev_ratio_Div_1, Ev.some_iff, wI (by omega), wI (by omega)]; rfl
    rw [Ev.pif_t (by rfl), Ev.bind_iff hf, Ev.bind_iff (calc_set (by unfold I64 fdiv; simp only; omega) (by unfold I64 fdiv; simp only; omega) rfl)]
    simp [Ev.some_iff, go_ratio_run_1]
theorem ratio_Add {a b : GRatio} (ha : wfR a) (hb : wfR b) : Ev (fun n => go_ratio_Add n a b) (rbin fadd a b) := by
  rw [ev_ratio_Add, Ev.bind_iff (ratio_run_s4 ha hb), Ev.some_iff]
theorem ratio_Sub {a b : GRatio} (ha : wfR a) (hb : wfR b) : Ev (fun n => go_ratio_Sub n a b) (rbin fsub a b) := by
  rw [ev_ratio_Sub, Ev.bind_iff (ratio_run ha hb), Ev.some_iff]
theorem ratio_Mul {a b : GRatio} (ha : wfR a) (hb : wfR b) : Ev (fun n => go_ratio_Mul n a b) (rbin fmul a b) := by
  rw [ev_ratio_Mul, Ev.bind_iff (ratio_run_s2 ha hb), Ev.some_iff]
theorem ratio_Div {a b : GRatio} (ha : wfR a) (hb : wfR b) : Ev (fun n => go_ratio_Div n a b) (rbin fdiv a b) := by
  rw [ev_ratio_Div, Ev.bind_iff (ratio_run_s3 ha hb), Ev.some_iff]
theorem ref01_Both {a b : GRatio} : Ev (fun n => go_ref01_Both n a b) (if rok a && rok b then 0 else 8) := by
  rw [ev_ref01_Both, Ev.bind_iff ref01_Check]
  cases ha : rok a
  · rw [Ev.pif_t (by rfl), Ev.bind_iff ref01_Check, Ev.some_iff, ha]; rfl
  · rw [Ev.pif_f (by rfl), Ev.bind_iff ref01_Check, Ev.some_iff]; rfl
theorem ref01_Add {a b : GRatio} : Ev (fun n => go_ref01_Add n a b) (rbin fadd a b) := by
  rw [ev_ref01_Add, Ev.bind_iff ref01_Both]
  unfold rbin
  cases h : rok a && rok b
  · rw [Ev.pif_t (by rfl), Ev.bind_iff ref01_Both, h, Ev.some_iff]; rfl
  · simp only [Bool.and_eq_true] at h
    obtain ⟨a1, a2, _⟩ := rok_b h.1
    obtain ⟨b1, b2, _⟩ := rok_b h.2
    have m1 := mul_b a1 b2; have m2 := mul_b b1 a2; have m3 := mul_b a2 b2
    rw [Ev.pif_f (by rfl), wI (x := a.num * b.den) (by omega), wI (x := b.num * a.den) (by omega), wI (x := _ + _) (by omega), wI (x := a.den * b.den) (by omega), Ev.bind_iff (ref01_Make (by omega) (by omega)), Ev.some_iff]; rfl
theorem ref01_Sub {a b : GRatio} : Ev (fun n => go_ref01_Sub n a b) (rbin fsub a b) := by
  rw [ev_ref01_Sub, Ev.bind_iff ref01_Both]
  unfold rbin
  cases h : rok a && rok b
  · rw [Ev.pif_t (by rfl), Ev.bind_iff ref01_Both, h, Ev.some_iff]; rfl
  · simp only [Bool.and_eq_true] at h
    obtain ⟨a1, a2, _⟩ := rok_b h.1
    obtain ⟨b1, b2, _⟩ := rok_b h.2
    have m1 := mul_b a1 b2; have m2 := mul_b b1 a2; have m3 := mul_b a2 b2
    rw [Ev.pif_f (by rfl), wI (x := a.num * b.den) (by omega), wI (x := b.num * a.den) (by omega), wI (x := _ - _) (by omega), wI (x := a.den * b.den) (by omega), Ev.bind_iff (ref01_Make (by omega) (by omega)), Ev.some_iff]; rfl
theorem ref01_Mul {a b : GRatio} : Ev (fun n => go_ref01_Mul n a b) (rbin fmul a b) := by
  rw [ev_ref01_Mul, Ev.bind_iff ref01_Both]
  unfold rbin
  cases h : rok a && rok b
  · rw [Ev.pif_t (by rfl), Ev.bind_iff ref01_Both, h, Ev.some_iff]; rfl
  · simp only [Bool.and_eq_true] at h
    obtain ⟨a1, a2, _⟩ := rok_b h.1
    obtain ⟨b1, b2, _⟩ := rok_b h.2
    have m1 := mul_b a1 b1; have m3 := mul_b a2 b2
    rw [Ev.pif_f (by rfl), wI (x := a.num * b.num) (by omega), wI (x := a.den * b.den) (by omega), Ev.bind_iff (ref01_Make (by omega) (by omega)), Ev.some_iff]; rfl
theorem ref01_Div {a b : GRatio} : Ev (fun n => go_ref01_Div n a b) (rbin fdiv a b) := by
  rw [ev_ref01_Div, Ev.bind_iff ref01_Both]
  unfold rbin
  cases h : rok a && rok b
  · rw [Ev.pif_t (by rfl), Ev.bind_iff ref01_Both, h, Ev.some_iff]; rfl
  · simp only [Bool.and_eq_true] at h
    obtain ⟨a1, a2, _⟩ := rok_b h.1
    obtain ⟨b1, b2, _⟩ := rok_b h.2
    have m1 := mul_b a1 b2; have m3 := mul_b a2 b1
    rw [Ev.pif_f (by rfl), wI (x := a.num * b.den) (by omega), wI (x := a.den * b.num) (by omega), Ev.bind_iff (ref01_Make (by omega) (by omega)), Ev.some_iff]; rfl
/-- ratios are compared -/
def rcmp (a b : GRatio) : Int := if a.num * b.den < b.num * a.den then -1 else if a.num * b.den > b.num * a.den then 1 else 0
theorem ratio_Cmp {a b : GRatio} (h1 : rok a = true) (h2 : rok b = true) : Ev (fun n => go_ratio_Cmp n a b) (rcmp a b, 0) := by
  obtain ⟨a1, a2, _⟩ := rok_b h1
  obtain ⟨b1, b2, _⟩ := rok_b h2
  have m1 := mul_b a1 b2; have m2 := mul_b b1 a2
  have hnan : ∀ x, Ev (fun n => go_cmp_isNaN_int64 n x) false := fun x => by rw [ev_cmp_isNaN_int64, Ev.some_iff]; simp
  have hc : Ev (fun n => go_cmp_Compare_int64 n (a.num * b.den) (b.num * a.den)) (rcmp a b) := by
    rw [ev_cmp_Compare_int64, Ev.bind_iff (hnan _), Ev.bind_iff (hnan _), Ev.pif_f (by rfl), Ev.pif_f (by rfl)]
    unfold rcmp
    simp only [Ev.pif, Ev.some_iff, decide_eq_true_eq]
    split <;> (try rfl)
    split <;> rfl
  rw [ev_ratio_Cmp, Ev.bind_iff (ratio_with (wfR_of_ok h1) (wfR_of_ok h2) (k := 0) (by rw [h1, h2]; rfl)), Ev.pif_f (by rfl), wI (by omega), wI (by omega), Ev.bind_iff hc, Ev.some_iff]
theorem ref01_Cmp {a b : GRatio} (h1 : rok a = true) (h2 : rok b = true) : Ev (fun n => go_ref01_Cmp n a b) (rcmp a b, 0) := by
  obtain ⟨a1, a2, _⟩ := rok_b h1
  obtain ⟨b1, b2, _⟩ := rok_b h2
  have m1 := mul_b a1 b2; have m2 := mul_b b1 a2
  rw [ev_ref01_Cmp, Ev.bind_iff ref01_Both, h1, h2, Ev.pif_f (by rfl), wI (by omega), wI (by omega)]
  unfold rcmp
  simp only [Ev.pif, Ev.some_iff, decide_eq_true_eq]
  split <;> (try rfl)
  split <;> rfl
/-- the floor of a ratio, and its error -/
def rfloor (a : GRatio) : Int × Int := if rok a then (a.num / a.den, 0) else (0, 8)
theorem floor_num {a b : Int} (ha : -1000000000 ≤ a ∧ a ≤ 1000000000) (hb : 1 ≤ b) : -1000000000 ≤ a / b ∧ a / b ≤ 1000000000 := by
  constructor
  · rw [Int.le_ediv_iff_mul_le (by omega)]
    omega
  · have := Int.ediv_le_self b (a := a)
    by_cases h : 0 ≤ a
    · have := Int.ediv_le_self b h; omega
    · have := Int.ediv_neg_of_neg_of_pos (a := a) (b := b) (by omega) (by omega); omega
theorem ratio_Floor {a : GRatio} (h : wfR a) : Ev (fun n => go_ratio_Floor n a) (rfloor a) := by
  have l0 : ∀ q, Ev (fun n => go_ratio_floor_L0 n q) q := fun q => by rw [ev_ratio_floor_L0, Ev.some_iff]
  rw [ev_ratio_Floor, Ev.bind_iff (ratio_Check h.1)]
  unfold rfloor
  cases hr : rok a
  · rw [Ev.pif_t (by decide), Ev.some_iff]; rfl
  · rw [Ev.pif_f (by decide)]
    obtain ⟨a1, a2, a3⟩ := rok_b hr
    have hq : a.num.tdiv a.den = if 0 ≤ a.num ∨ a.den ∣ a.num then a.num / a.den else a.num / a.den + 1 := by
      rw [Int.tdiv_eq_ediv]
      have : a.den.sign = 1 := Int.sign_eq_one_of_pos (by omega)
      split <;> simp_all
    have hm : a.num.tmod a.den < 0 ↔ ¬ (0 ≤ a.num ∨ a.den ∣ a.num) := by
      constructor
      · intro hlt hh
        rcases hh with hh | hh
        · have := Int.tmod_nonneg a.den hh; omega
        · rw [Int.tmod_eq_zero_of_dvd hh] at hlt; omega
      · intro hh
        have h0 : a.num < 0 := by omega
        have h1 : a.num.tmod a.den ≤ 0 := by
          have e : a.num = -(-a.num) := by omega
          rw [e, Int.neg_tmod]
          have := Int.tmod_nonneg a.den (show 0 ≤ -a.num by omega)
          omega
        have h2 : a.num.tmod a.den ≠ 0 := fun hz => hh (.inr (Int.dvd_of_tmod_eq_zero hz))
        omega
    have hb := floor_num a1 a3
    have hf : Ev (fun n => go_ratio_floor n a.num a.den) (a.num / a.den) := by
      have hq1 : quo .i64 a.num a.den = some (a.num.tdiv a.den) := by
        unfold quo; rw [if_neg (by omega), wI (by rw [hq]; split <;> omega)]
      have hr1 : rem .i64 a.num a.den = some (a.num.tmod a.den) := by unfold rem; rw [if_neg (by omega)]
      rw [ev_ratio_floor, Ev.opt_iff hq1, Ev.opt_iff hr1]
      by_cases hh : 0 ≤ a.num ∨ a.den ∣ a.num
      · rw [Ev.pif_f (by rw [decide_eq_false_iff_not, hm]; exact not_not_intro hh), hq, if_pos hh]; exact l0 _
      · rw [Ev.pif_t (by rw [decide_eq_true_eq, hm]; exact hh), hq, if_neg hh, wI (by omega)]
        exact (l0 _).to (by omega)
    rw [Ev.bind_iff hf, Ev.some_iff]; rfl
theorem ref01_Floor {a : GRatio} : Ev (fun n => go_ref01_Floor n a) (rfloor a) := by
  have l0 : ∀ q, Ev (fun n => go_ref01_Floor_L0 n q) (q, 0) := fun q => by rw [ev_ref01_Floor_L0, Ev.some_iff]
  rw [ev_ref01_Floor, Ev.bind_iff ref01_Check]
  unfold rfloor
  cases hr : rok a
  · rw [Ev.pif_t (by decide), Ev.bind_iff ref01_Check, hr, Ev.some_iff]; rfl
  · rw [Ev.pif_f (by decide)]
    obtain ⟨a1, a2, a3⟩ := rok_b hr
    have hq : a.num.tdiv a.den = if 0 ≤ a.num ∨ a.den ∣ a.num then a.num / a.den else a.num / a.den + 1 := by
      rw [Int.tdiv_eq_ediv]
      have : a.den.sign = 1 := Int.sign_eq_one_of_pos (by omega)
      split <;> simp_all
    have hb := floor_num a1 a3
    have hq1 : quo .i64 a.num a.den = some (a.num.tdiv a.den) := by
      unfold quo; rw [if_neg (by omega), wI (by rw [hq]; split <;> omega)]
    rw [Ev.opt_iff hq1]
    have e1 : a.num / a.den * a.den = a.num - a.num % a.den := by have := Int.ediv_mul_add_emod a.num a.den; omega
    have e2 := Int.emod_nonneg a.num (show a.den ≠ 0 by omega)
    have e3 := Int.emod_lt_of_pos a.num (show 0 < a.den by omega)
    by_cases hh : 0 ≤ a.num ∨ a.den ∣ a.num
    · rw [hq, if_pos hh, wI (by rw [e1]; omega), Ev.pif_f (by rw [e1]; simp; omega)]; exact l0 _
    · rw [hq, if_neg hh]
      have e4 : (a.num / a.den + 1) * a.den = a.num - a.num % a.den + a.den := by rw [Int.add_mul, e1]; omega
      rw [wI (by rw [e4]; omega), Ev.pif_t (by rw [e4]; simp; omega), wI (by omega)]
      exact (l0 _).to (by simp)
end Go.Proofs.YtfhpamcehnfhoaaGreat

namespace Go.Proofs.YtfhpamcehnfhoaaGreat
open Go Go.Ab
set_option linter.unusedVariables false
set_option linter.unusedSimpArgs false
theorem vind {P : GValue → Prop} (h : ∀ v : GValue, (∀ x, x ∈ v.list → P x) → P v) (v : GValue) : P v := h v fun x hx => vind h x
termination_by v
decreasing_by exact GValue.lt_list hx
mutual
def vparts : GValue → Nat
  | ⟨k, _, _, _, l⟩ => if k = 4 then 1 + vpartsL l else 1
def vpartsL : List GValue → Nat
  | [] => 0
  | x :: l => vparts x + vpartsL l
end
mutual
def vdeep : GValue → Nat
  | ⟨k, _, _, _, l⟩ => if k = 4 then max 1 (vdeepL l) else 1
def vdeepL : List GValue → Nat
  | [] => 0
  | x :: l => max (1 + vdeep x) (vdeepL l)
end
theorem vparts_eq (v : GValue) : vparts v = if v.kind = 4 then 1 + vpartsL v.list else 1 := by cases v; rw [vparts]
theorem vdeep_eq (v : GValue) : vdeep v = if v.kind = 4 then max 1 (vdeepL v.list) else 1 := by cases v; rw [vdeep]
theorem size_mem {l : List GValue} {x : GValue} (h : x ∈ l) : x.size ≤ (l.map GValue.size).sum := by
  induction l with
  | nil => cases h
  | cons y l ih =>
    rcases List.mem_cons.1 h with rfl | h
    · simp
    · have := ih h; simp; omega
theorem size_list (v : GValue) : (v.list.map GValue.size).sum + v.str.length + 4 ≤ v.size := by rw [GValue.size_eq]; omega
theorem size_in {v x : GValue} (h : x ∈ v.list) : x.size ≤ v.size := by have := size_mem h; have := size_list v; omega
theorem len_size (l : List GValue) : l.length ≤ (l.map GValue.size).sum := by
  induction l with
  | nil => simp
  | cons x l ih => have := size_list x; simp; omega
theorem vparts_le : ∀ v : GValue, vparts v ≤ v.size := vind fun v ih => by
  have : ∀ l : List GValue, (∀ x, x ∈ l → x ∈ v.list) → vpartsL l ≤ (l.map GValue.size).sum := fun l => by
    induction l with
    | nil => intro _; simp [vpartsL]
    | cons x l ihl =>
      intro hl
      have := ih x (hl x List.mem_cons_self)
      have := ihl fun y hy => hl y (List.mem_cons_of_mem _ hy)
      simp [vpartsL]; omega
  have := this v.list fun _ h => h
  have := size_list v
  rw [vparts_eq]; split <;> omega
theorem vdeep_le : ∀ v : GValue, vdeep v ≤ vparts v := vind fun v ih => by
  have : ∀ l : List GValue, (∀ x, x ∈ l → x ∈ v.list) → vdeepL l ≤ 1 + vpartsL l := fun l => by
    induction l with
    | nil => intro _; simp [vpartsL, vdeepL]
    | cons x l ihl =>
      intro hl
      have := ih x (hl x List.mem_cons_self)
      have := ihl fun y hy => hl y (List.mem_cons_of_mem _ hy)
      simp [vpartsL, vdeepL]; omega
  have := this v.list fun _ h => h
  rw [vparts_eq, vdeep_eq]; split <;> omega
theorem vpartsL_le (l : List GValue) : vpartsL l ≤ (l.map GValue.size).sum := by
  induction l with
  | nil => simp [vpartsL]
  | cons x l ih => have := vparts_le x; simp [vpartsL]; omega
theorem value_measure : ∀ v : GValue, v.size ≤ 1048576 → Ev (fun n => go_value_measure n v) ((vparts v : Int), (vdeep v : Int)) := vind fun v ih hs => by
  have l1 : ∀ d p, Ev (fun n => go_value_measure_L1 n d p) (p, d) := fun d p => by rw [ev_value_measure_L1, Ev.some_iff]
  have hsl := size_list v
  have hlen := len_size v.list
  have loop : ∀ k, k ≤ v.list.length → ∀ d p : Nat, p + vpartsL (v.list.drop k) ≤ 1048577 → d ≤ 1048577 → Ev (fun n => go_value_measure_L0 n (k : Int) (d : Int) (p : Int) v.list (v.list.length : Int)) (((p + vpartsL (v.list.drop k) : Nat) : Int), ((max d (vdeepL (v.list.drop k)) : Nat) : Int)) :=
    down (fun d p hp hd => by
      rw [ev_value_measure_L0, Ev.pif_f (by simp)]
      refine (l1 _ _).to ?_
      simp [vpartsL, vdeepL]) fun k hk ihk d p hp hd => by
      have hx := List.getElem_mem hk
      have hsx := size_in hx
      rw [← List.getElem_cons_drop (h := hk)] at hp ⊢
      simp only [vpartsL, vdeepL] at hp ⊢
      have hpl := vparts_le v.list[k]
      have hdl := vdeep_le v.list[k]
      rw [ev_value_measure_L0, Ev.pif_t (by simpa using hk), Ev.opt_iff (ix_lt hk), GValue.re_eq, Ev.bind_iff (ih _ hx (by omega)), wI (x := _ + 1) (by omega), wI (x := (vdeep _ : Int) + 1) (by omega), wI (x := (p : Int) + _) (by omega)]
      have e1 : (k : Int) + 1 = ((k + 1 : Nat) : Int) := by omega
      have e2 : (vdeep v.list[k] : Int) + 1 = ((1 + vdeep v.list[k] : Nat) : Int) := by omega
      have e3 : (p : Int) + (vparts v.list[k] : Int) = ((p + vparts v.list[k] : Nat) : Int) := by omega
      rw [e1, e2, e3, mxI_nat]
      refine (ihk (max d (1 + vdeep v.list[k])) (p + vparts v.list[k]) (by omega) (by omega)).to ?_
      congr 2 <;> omega
  rw [ev_value_measure]
  by_cases hk : v.kind = 4
  · rw [Ev.pif_t (by simpa using hk)]
    have hv := vpartsL_le v.list
    have := loop 0 (Nat.zero_le _) 1 1 (by simp; omega) (by omega)
    refine this.to ?_
    rw [vparts_eq, vdeep_eq, if_pos hk, if_pos hk, List.drop_zero]
  · rw [Ev.pif_f (by simpa using hk)]
    refine (l1 1 1).to ?_
    rw [vparts_eq, vdeep_eq, if_neg hk, if_neg hk]; rfl
theorem ref03_Parts : ∀ v : GValue, v.size ≤ 1048576 → Ev (fun n => go_ref03_Parts n v) (vparts v : Int) := vind fun v ih hs => by
  have hsl := size_list v
  have hlen := len_size v.list
  rw [ev_ref03_Parts, GValue.re_eq, vparts_eq]
  by_cases hk : v.kind = 4
  · rw [if_pos hk]
    have hkk : (v.kind == 4) = true := by simpa using hk
    have loop : ∀ k, k ≤ v.list.length → ∀ p : Nat, p + vpartsL (v.list.drop k) ≤ 1048577 → Ev (fun n => go_ref03_Parts_L0 n (k : Int) (p : Int) v) ((p + vpartsL (v.list.drop k) : Nat) : Int) :=
      down (fun p hp => by
        rw [ev_ref03_Parts_L0, Ev.pif_f (by simp), ev_ref03_Parts_L1, Ev.pif_f (by rfl), Ev.some_iff]
        simp [vpartsL]) fun k hk ihk p hp => by
        have hx := List.getElem_mem hk
        have hsx := size_in hx
        rw [← List.getElem_cons_drop (h := hk)] at hp ⊢
        simp only [vpartsL] at hp ⊢
        have hpl := vparts_le v.list[k]
        rw [ev_ref03_Parts_L0, Ev.pif_t (by simpa using hk), hkk, GValue.re_eq, ev_ref03_Parts_L1, Ev.pif_t (by rfl), Ev.opt_iff (ix_lt hk), GValue.re_eq, Ev.bind_iff (ih _ hx (by omega)), wI (x := _ + 1) (by omega), wI (x := (p : Int) + _) (by omega)]
        have e1 : (k : Int) + 1 = ((k + 1 : Nat) : Int) := by omega
        have e3 : (p : Int) + (vparts v.list[k] : Int) = ((p + vparts v.list[k] : Nat) : Int) := by omega
        rw [e1, e3, GValue.re_eq]
        refine (ihk (p + vparts v.list[k]) (by omega)).to ?_
        congr 1; omega
    have hv := vpartsL_le v.list
    exact loop 0 (Nat.zero_le _) 1 (by simp; omega)
  · rw [if_neg hk]
    have hkk : (v.kind == 4) = false := by simpa using hk
    have l1 : Ev (fun n => go_ref03_Parts_L1 n 0 1 false v) 1 := by rw [ev_ref03_Parts_L1, Ev.pif_f (by rfl), Ev.some_iff]
    rw [ev_ref03_Parts_L0, hkk, GValue.re_eq, Ev.pif]
    split <;> exact l1
theorem ref03_Deep : ∀ v : GValue, v.size ≤ 1048576 → Ev (fun n => go_ref03_Deep n v) (vdeep v : Int) := vind fun v ih hs => by
  have hsl := size_list v
  have hlen := len_size v.list
  rw [ev_ref03_Deep, GValue.re_eq, vdeep_eq]
  by_cases hk : v.kind = 4
  · rw [if_pos hk]
    have hkk : (v.kind == 4) = true := by simpa using hk
    have loop : ∀ k, k ≤ v.list.length → ∀ p : Nat, p ≤ 1048577 → Ev (fun n => go_ref03_Deep_L0 n (k : Int) (p : Int) v) ((max p (vdeepL (v.list.drop k)) : Nat) : Int) :=
      down (fun p hp => by
        rw [ev_ref03_Deep_L0, Ev.pif_f (by simp), ev_ref03_Deep_L1, Ev.pif_f (by rfl), Ev.some_iff]
        simp [vdeepL]) fun k hk ihk p hp => by
        have hx := List.getElem_mem hk
        have hsx := size_in hx
        rw [← List.getElem_cons_drop (h := hk)]
        simp only [vdeepL]
        have hpl := vparts_le v.list[k]
        have hdl := vdeep_le v.list[k]
        rw [ev_ref03_Deep_L0, Ev.pif_t (by simpa using hk), hkk, GValue.re_eq, ev_ref03_Deep_L1, Ev.pif_t (by rfl), Ev.opt_iff (ix_lt hk), GValue.re_eq, Ev.bind_iff (ih _ hx (by omega)), wI (x := _ + 1) (by omega), wI (x := 1 + _) (by omega)]
        have e1 : (k : Int) + 1 = ((k + 1 : Nat) : Int) := by omega
        have e3 : 1 + (vdeep v.list[k] : Int) = ((1 + vdeep v.list[k] : Nat) : Int) := by omega
        rw [e1, e3, GValue.re_eq, mxI_nat]
        refine (ihk (max p (1 + vdeep v.list[k])) (by omega)).to ?_
        congr 1; omega
    exact loop 0 (Nat.zero_le _) 1 (by omega)
  · rw [if_neg hk]
    have hkk : (v.kind == 4) = false := by simpa using hk
    have l1 : Ev (fun n => go_ref03_Deep_L1 n 0 1 false v) 1 := by rw [ev_ref03_Deep_L1, Ev.pif_f (by rfl), Ev.some_iff]
    rw [ev_ref03_Deep_L0, hkk, GValue.re_eq, Ev.pif]
    split <;> exact l1
end Go.Proofs.YtfhpamcehnfhoaaGreat

namespace Go.Proofs.YtfhpamcehnfhoaaGreat
open Go Go.Ab
set_option linter.unusedVariables false
set_option linter.unusedSimpArgs false
def r0 : GRatio := ⟨0, 0⟩
def v0 : GValue := ⟨0, ⟨0, 0⟩, false, [], []⟩
def chOk (c : UInt8) : Bool := decide (32 ≤ c.toNat) && decide (c.toNat ≤ 126)
def nul (v : GRatio) : Bool := v.num == 0 && v.den == 0
mutual
def vfine : GValue → Bool
  | ⟨k, q, t, s, l⟩ =>
    if k = 1 then rok q && (!t && (s.isEmpty && l.isEmpty))
    else if k = 2 then nul q && (s.isEmpty && l.isEmpty)
    else if k = 3 then nul q && (!t && (l.isEmpty && (decide (s.length ≤ 60) && s.all chOk)))
    else if k = 4 then nul q && (!t && (s.isEmpty && vfineL l))
    else false
def vfineL : List GValue → Bool
  | [] => true
  | x :: l => vfine x && vfineL l
end
theorem vfine_eq (v : GValue) : vfine v =
    if v.kind = 1 then rok v.num && (!v.truth && (v.str.isEmpty && v.list.isEmpty))
    else if v.kind = 2 then nul v.num && (v.str.isEmpty && v.list.isEmpty)
    else if v.kind = 3 then nul v.num && (!v.truth && (v.list.isEmpty && (decide (v.str.length ≤ 60) && v.str.all chOk)))
    else if v.kind = 4 then nul v.num && (!v.truth && (v.str.isEmpty && vfineL v.list))
    else false := by cases v; rw [vfine]
theorem vfineL_all (l : List GValue) : vfineL l = l.all vfine := by
  induction l with
  | nil => rfl
  | cons x l ih => simp [vfineL, ih]
/-- what Check says of a value -/
def vcheck (v : GValue) : Int := if 100 < vparts v ∨ 6 < vdeep v then 4 else if vfine v then 0 else 8
theorem wf_num {v : GValue} (h : v.wf) : wfR v.num := by
  rw [GValue.wf_eq] at h
  have := h.2.1
  rw [GRatio.wf_eq] at this
  simpa [wfR, I64, IntKind.min, IntKind.max, IntKind.signed, IntKind.bits] using this
theorem wf_list {v : GValue} (h : v.wf) : ∀ x ∈ v.list, x.wf := by
  rw [GValue.wf_eq] at h; exact h.2.2.2.2
theorem value_fine_L3 {v : GValue} : Ev (fun n => go_value_fine_L3 n v) (nul v.num && (!v.truth && (v.str.isEmpty && v.list.isEmpty))) := by
  rw [ev_value_fine_L3]
  obtain ⟨k, ⟨p, q⟩, t, s, l⟩ := v
  simp only [Ev.pif, Ev.some_iff, nul, Bool.and_true]
  cases p == 0 <;> cases q == 0 <;> cases t <;> cases s <;> cases l <;> simp <;> omega
theorem value_fine : ∀ v : GValue, v.wf → v.size ≤ 1048576 → Ev (fun n => go_value_fine n v) (vfine v) := vind fun v ih hw hs => by
  have hsl := size_list v
  have hlen := len_size v.list
  rw [ev_value_fine, vfine_eq]
  by_cases h1 : v.kind = 1
  · rw [if_pos h1, Ev.pif_t (by simpa using h1), Ev.bind_iff (ratio_Check (wf_num hw).1)]
    cases hr : rok v.num
    · rw [Ev.pif_t (by rfl), Ev.some_iff]; rfl
    · rw [Ev.pif_f (by rfl)]
      exact value_fine_L3
  rw [if_neg h1, Ev.pif_f (by simpa using h1)]
  by_cases h2 : v.kind = 2
  · rw [if_pos h2, Ev.pif_t (by simpa using h2)]
    exact value_fine_L3
  rw [if_neg h2, Ev.pif_f (by simpa using h2)]
  by_cases h3 : v.kind = 3
  · rw [if_pos h3, Ev.pif_t (by simpa using h3)]
    by_cases hl : v.str.length ≤ 60
    · rw [Ev.pif_f (by simp; omega), GValue.re_eq]
      have loop : ∀ w : GValue, ∀ k, k ≤ v.str.length → Ev (fun n => go_value_fine_L0 n (k : Int) v w) ((v.str.drop k).all chOk && (nul w.num && (!w.truth && (w.str.isEmpty && w.list.isEmpty)))) := fun w =>
        down (by
          rw [ev_value_fine_L0, Ev.pif_f (by simp), GValue.re_eq]
          simpa using value_fine_L3) fun k hk ihk => by
          have bad : Ev (fun n => go_value_fine_L1 n (k : Int) true v w) false := by rw [ev_value_fine_L1, Ev.pif_t (by rfl), Ev.some_iff]
          rw [← List.getElem_cons_drop (h := hk), List.all_cons]
          rw [ev_value_fine_L0, Ev.pif_t (by simpa using hk), Ev.opt_iff (ix_lt hk), GValue.re_eq, GValue.re_eq]
          by_cases c1 : v.str[k].toNat < 32
          · rw [Ev.pif_t (by simp; omega)]
            refine bad.to ?_
            have : chOk v.str[k] = false := by simp [chOk]; omega
            rw [this]; rfl
          · rw [Ev.pif_f (by simp; omega), Ev.opt_iff (ix_lt hk)]
            by_cases c2 : v.str[k].toNat > 126
            · rw [show decide ((v.str[k].toNat : Int) > 126) = true by simp; omega]
              refine bad.to ?_
              have : chOk v.str[k] = false := by simp [chOk]; omega
              rw [this]; rfl
            · rw [show decide ((v.str[k].toNat : Int) > 126) = false by simp; omega, ev_value_fine_L1, Ev.pif_f (by rfl), wrk (by omega), GValue.re_eq, GValue.re_eq]
              have : chOk v.str[k] = true := by simp [chOk]; omega
              rw [this, Bool.true_and]
              exact ihk
      refine (loop ⟨v.kind, v.num, v.truth, [], v.list⟩ 0 (Nat.zero_le _)).to ?_
      simp only [List.drop_zero, hl, decide_true, Bool.true_and, List.isEmpty_nil]
      cases nul v.num <;> cases v.truth <;> cases v.list.isEmpty <;> cases v.str.all chOk <;> rfl
    · rw [Ev.pif_t (by simp; omega), Ev.some_iff]
      simp [hl]
  rw [if_neg h3, Ev.pif_f (by simpa using h3)]
  by_cases h4 : v.kind = 4
  · rw [if_pos h4, Ev.pif_t (by simpa using h4)]
    have loop : ∀ w : GValue, ∀ k, k ≤ v.list.length → Ev (fun n => go_value_fine_L2 n (k : Int) v.list (v.list.length : Int) w) (vfineL (v.list.drop k) && (nul w.num && (!w.truth && (w.str.isEmpty && w.list.isEmpty)))) := fun w =>
      down (by
        rw [ev_value_fine_L2, Ev.pif_f (by simp), GValue.re_eq]
        simpa [vfineL] using value_fine_L3) fun k hk ihk => by
        have hx := List.getElem_mem hk
        have hsx := size_in hx
        rw [← List.getElem_cons_drop (h := hk), vfineL]
        rw [ev_value_fine_L2, Ev.pif_t (by simpa using hk), Ev.opt_iff (ix_lt hk), GValue.re_eq, Ev.bind_iff (ih _ hx (wf_list hw _ hx) (by omega))]
        cases hf : vfine v.list[k]
        · rw [Ev.pif_t (by rfl), Ev.some_iff]; rfl
        · rw [Ev.pif_f (by rfl), wrk (by omega), GValue.re_eq, Bool.true_and]
          exact ihk
    refine (loop ⟨v.kind, v.num, v.truth, v.str, []⟩ 0 (Nat.zero_le _)).to ?_
    simp only [List.drop_zero, List.isEmpty_nil, Bool.and_true]
    cases nul v.num <;> cases v.truth <;> cases v.str.isEmpty <;> cases vfineL v.list <;> rfl
  · rw [if_neg h4, Ev.pif_f (by simpa using h4), Ev.some_iff]
theorem value_Check {v : GValue} (hw : v.wf) (hs : v.size ≤ 1048576) : Ev (fun n => go_value_Check n v) (vcheck v) := by
  have l0 : ∀ b, Ev (fun n => go_value_Check_L0 n b v) (if b then 4 else if vfine v then 0 else 8) := fun b => by
    rw [ev_value_Check_L0]
    cases b
    · rw [Ev.pif_f (by rfl), GValue.re_eq, Ev.bind_iff (value_fine v hw hs)]
      cases vfine v
      · rw [Ev.pif_t (by rfl), Ev.some_iff]; rfl
      · rw [Ev.pif_f (by rfl), Ev.some_iff]; rfl
    · rw [Ev.pif_t (by rfl), Ev.some_iff]; rfl
  rw [ev_value_Check, GValue.re_eq, Ev.bind_iff (value_measure v hs)]
  unfold vcheck
  simp only [Ev.pif]
  by_cases h1 : 100 < vparts v
  · rw [if_pos (by simp; omega), if_pos (.inl h1)]; exact l0 true
  · rw [if_neg (by simp; omega)]
    by_cases h2 : 6 < vdeep v
    · rw [if_pos (.inr h2), show decide ((vdeep v : Int) > 6) = true by simp; omega]; exact l0 true
    · rw [if_neg (by omega), show decide ((vdeep v : Int) > 6) = false by simp; omega]; exact l0 false
theorem ref03_fine : ∀ v : GValue, v.size ≤ 1048576 → Ev (fun n => go_ref03_fine n v) (vfine v) := vind fun v ih hs => by
  have hsl := size_list v
  have hlen := len_size v.list
  rw [ev_ref03_fine, vfine_eq]
  have hnul : ((v.num.num == 0) && ((v.num.den == 0) && true)) = nul v.num := by simp [nul]
  have hstr : ((v.str.length : Int) == 0) = v.str.isEmpty := by cases v.str <;> simp; omega
  have hlst : ((v.list.length : Int) == 0) = v.list.isEmpty := by cases v.list <;> simp; omega
  have hgt : decide ((v.list.length : Int) > 0) = !v.list.isEmpty := by cases v.list <;> simp
  have hgs : decide ((v.str.length : Int) > 0) = !v.str.isEmpty := by cases v.str <;> simp
  simp only [hnul, hstr, hlst, hgt, hgs]
  by_cases h1 : v.kind = 1
  · rw [if_pos h1, Ev.pif_t (by simpa using h1), Ev.bind_iff ref01_Check]
    cases hr : rok v.num <;> cases ht : v.truth <;> cases hss : v.str.isEmpty <;> simp [Ev.pif, Ev.some_iff]
  rw [if_neg h1, Ev.pif_f (by simpa using h1)]
  by_cases h2 : v.kind = 2
  · rw [if_pos h2, Ev.pif_t (by simpa using h2)]
    cases hr : nul v.num <;> cases hss : v.str.isEmpty <;> simp [Ev.pif, Ev.some_iff]
  rw [if_neg h2, Ev.pif_f (by simpa using h2)]
  by_cases h3 : v.kind = 3
  · rw [if_pos h3, Ev.pif_t (by simpa using h3)]
    have bad : Ev (fun n => go_ref03_fine_L0 n true v) false := by rw [ev_ref03_fine_L0, Ev.pif_t (by rfl), Ev.some_iff]
    have loop : ∀ k, k ≤ v.str.length → Ev (fun n => go_ref03_fine_L1 n (k : Int) v) ((v.str.drop k).all chOk) :=
      down (by
        rw [ev_ref03_fine_L1, Ev.pif_f (by simp), Ev.some_iff]
        simp) fun k hk ihk => by
        have bad : Ev (fun n => go_ref03_fine_L2 n (k : Int) true v) false := by rw [ev_ref03_fine_L2, Ev.pif_t (by rfl), Ev.some_iff]
        rw [← List.getElem_cons_drop (h := hk), List.all_cons]
        rw [ev_ref03_fine_L1, Ev.pif_t (by simpa using hk), Ev.opt_iff (ix_lt hk), GValue.re_eq]
        by_cases c1 : v.str[k].toNat < 32
        · rw [Ev.pif_t (by simp; omega)]
          refine bad.to ?_
          have : chOk v.str[k] = false := by simp [chOk]; omega
          rw [this]; rfl
        · rw [Ev.pif_f (by simp; omega), Ev.opt_iff (ix_lt hk)]
          by_cases c2 : v.str[k].toNat > 126
          · rw [show decide ((v.str[k].toNat : Int) > 126) = true by simp; omega]
            refine bad.to ?_
            have : chOk v.str[k] = false := by simp [chOk]; omega
            rw [this]; rfl
          · rw [show decide ((v.str[k].toNat : Int) > 126) = false by simp; omega, ev_ref03_fine_L2, Ev.pif_f (by rfl), wrk (by omega), GValue.re_eq]
            have : chOk v.str[k] = true := by simp [chOk]; omega
            rw [this, Bool.true_and]
            exact ihk
    have good : Ev (fun n => go_ref03_fine_L0 n false v) (v.str.all chOk) := by
      rw [ev_ref03_fine_L0, Ev.pif_f (by rfl), GValue.re_eq]; simpa using loop 0 (Nat.zero_le _)
    rw [GValue.re_eq]
    cases hr : nul v.num
    · rw [Ev.pif_t (by rfl)]; exact bad
    rw [Ev.pif_f (by rfl)]
    cases ht : v.truth
    · rw [Ev.pif_f (by rfl)]
      cases hl : v.list.isEmpty
      · rw [Ev.pif_t (by rfl)]; exact bad
      · rw [Ev.pif_f (by rfl)]
        by_cases h60 : v.str.length ≤ 60
        · rw [show decide ((v.str.length : Int) > 60) = false by simp; omega]
          simpa [h60] using good
        · rw [show decide ((v.str.length : Int) > 60) = true by simp; omega]
          simpa [h60] using bad
    · rw [Ev.pif_t (by rfl)]; exact bad
  rw [if_neg h3, Ev.pif_f (by simpa using h3)]
  by_cases h4 : v.kind = 4
  · rw [if_pos h4, Ev.pif_t (by simpa using h4)]
    have bad : Ev (fun n => go_ref03_fine_L3 n true v) false := by rw [ev_ref03_fine_L3, Ev.pif_t (by rfl), Ev.some_iff]
    have loop : ∀ k, k ≤ v.list.length → Ev (fun n => go_ref03_fine_L4 n (k : Int) v) (vfineL (v.list.drop k)) :=
      down (by
        rw [ev_ref03_fine_L4, Ev.pif_f (by simp), Ev.some_iff]
        simp [vfineL]) fun k hk ihk => by
        have hx := List.getElem_mem hk
        have hsx := size_in hx
        rw [← List.getElem_cons_drop (h := hk), vfineL]
        rw [ev_ref03_fine_L4, Ev.pif_t (by simpa using hk), Ev.opt_iff (ix_lt hk), GValue.re_eq, Ev.bind_iff (ih _ hx (by omega))]
        cases hf : vfine v.list[k]
        · rw [Ev.pif_t (by rfl), Ev.some_iff]; rfl
        · rw [Ev.pif_f (by rfl), wrk (by omega), GValue.re_eq, Bool.true_and]
          exact ihk
    have good : Ev (fun n => go_ref03_fine_L3 n false v) (vfineL v.list) := by
      rw [ev_ref03_fine_L3, Ev.pif_f (by rfl), GValue.re_eq]; simpa using loop 0 (Nat.zero_le _)
    rw [GValue.re_eq]
    cases hr : nul v.num
    · rw [Ev.pif_t (by rfl)]; exact bad
    rw [Ev.pif_f (by rfl)]
    cases ht : v.truth
    · rw [Ev.pif_f (by rfl)]
      cases hl : v.str.isEmpty
      · exact bad
      · simpa using good
    · rw [Ev.pif_t (by rfl)]; exact bad
  · rw [if_neg h4, Ev.pif_f (by simpa using h4), Ev.some_iff]
theorem ref03_Check {v : GValue} (hs : v.size ≤ 1048576) : Ev (fun n => go_ref03_Check n v) (vcheck v) := by
  have l0 : ∀ b, Ev (fun n => go_ref03_Check_L0 n b v) (if b then 4 else if vfine v then 0 else 8) := fun b => by
    rw [ev_ref03_Check_L0]
    cases b
    · rw [Ev.pif_f (by rfl), GValue.re_eq, Ev.bind_iff (ref03_fine v hs)]
      cases vfine v
      · rw [Ev.pif_t (by rfl), Ev.some_iff]; rfl
      · rw [Ev.pif_f (by rfl), Ev.some_iff]; rfl
    · rw [Ev.pif_t (by rfl), Ev.some_iff]; rfl
  rw [ev_ref03_Check, GValue.re_eq, Ev.bind_iff (ref03_Parts v hs)]
  unfold vcheck
  by_cases h1 : 100 < vparts v
  · rw [Ev.pif_t (by simp; omega), if_pos (.inl h1)]; exact l0 true
  · rw [Ev.pif_f (by simp; omega), Ev.bind_iff (ref03_Deep v hs)]
    by_cases h2 : 6 < vdeep v
    · rw [if_pos (.inr h2), show decide ((vdeep v : Int) > 6) = true by simp; omega]; exact l0 true
    · rw [if_neg (by omega), show decide ((vdeep v : Int) > 6) = false by simp; omega]; exact l0 false
end Go.Proofs.YtfhpamcehnfhoaaGreat

namespace Go.Proofs.YtfhpamcehnfhoaaGreat
open Go Go.Ab
set_option linter.unusedVariables false
set_option linter.unusedSimpArgs false
theorem vext {a b : GValue} (h1 : a.kind = b.kind) (h2 : a.num.num = b.num.num) (h3 : a.num.den = b.num.den) (h4 : a.truth = b.truth) (h5 : a.str = b.str) (h6 : a.list = b.list) : a = b := by
  obtain ⟨k, ⟨p, q⟩, t, s, l⟩ := a
  obtain ⟨k', ⟨p', q'⟩, t', s', l'⟩ := b
  simp_all
theorem eqB_cons {α : Type} {x y : α} {l m : List α} : eqB (x :: l) (y :: m) = (eqB x y && eqB l m) := by
  cases h : (eqB x y && eqB l m)
  · rw [eqB_false]; intro hh; injection hh with h1 h2
    rw [Bool.and_eq_false_iff, eqB_false, eqB_false] at h
    exact h.elim (fun h => h h1) (fun h => h h2)
  · rw [eqB_true]
    rw [Bool.and_eq_true, eqB_true, eqB_true] at h
    rw [h.1, h.2]
theorem value_Same : ∀ a b : GValue, a.size ≤ 1048576 → Ev (fun n => go_value_Same n a b) (eqB a b) := vind (P := fun a => ∀ b : GValue, a.size ≤ 1048576 → Ev (fun n => go_value_Same n a b) (eqB a b)) fun a ih b hs => by
  have hsl := size_list a
  have hlen := len_size a.list
  have bad : a ≠ b → Ev (fun n => go_value_Same_L0 n true b a) (eqB a b) := fun h => by rw [ev_value_Same_L0, Ev.pif_t (by rfl), Ev.some_iff, eqB_false.2 h]
  rw [ev_value_Same, GValue.re_eq, GValue.re_eq]
  by_cases h1 : a.kind = b.kind
  case neg => rw [Ev.pif_t (by simpa using h1)]; exact bad fun h => h1 (by rw [h])
  rw [Ev.pif_f (by simpa using h1)]
  by_cases h2 : a.num.num = b.num.num ∧ a.num.den = b.num.den
  case neg => rw [Ev.pif_t (by simp; omega)]; exact bad fun h => h2 (by rw [h]; exact ⟨rfl, rfl⟩)
  rw [Ev.pif_f (by simp [h2])]
  by_cases h3 : a.truth = b.truth
  case neg => rw [Ev.pif_t (by simpa using h3)]; exact bad fun h => h3 (by rw [h])
  rw [Ev.pif_f (by simp [h3])]
  by_cases h4 : a.str = b.str
  case neg => rw [Ev.pif_t (by simpa using h4)]; exact bad fun h => h4 (by rw [h])
  rw [Ev.pif_f (by simp [h4])]
  by_cases h5 : a.list.length = b.list.length
  case neg => rw [show ((a.list.length : Int) != (b.list.length : Int)) = true by simp; omega]; exact bad fun h => h5 (by rw [h])
  rw [show ((a.list.length : Int) != (b.list.length : Int)) = false by simp; omega, ev_value_Same_L0, Ev.pif_f (by rfl), GValue.re_eq, GValue.re_eq]
  have loop : ∀ k, k ≤ a.list.length → Ev (fun n => go_value_Same_L1 n (k : Int) (a.list.length : Int) b a) (eqB (a.list.drop k) (b.list.drop k)) :=
    down (by
      rw [ev_value_Same_L1, Ev.pif_f (by simp), Ev.some_iff, List.drop_length, h5, List.drop_length, eqB_rfl]) fun k hk ihk => by
      have hk2 : k < b.list.length := by omega
      have hx := List.getElem_mem hk
      have hsx := size_in hx
      rw [← List.getElem_cons_drop (h := hk), ← List.getElem_cons_drop (h := hk2), eqB_cons]
      rw [ev_value_Same_L1, Ev.pif_t (by simpa using hk), Ev.opt_iff (ix_lt hk), Ev.opt_iff (ix_lt hk2), GValue.re_eq, GValue.re_eq, Ev.bind_iff (ih _ hx _ (by omega))]
      cases hf : eqB a.list[k] b.list[k]
      · rw [Ev.pif_t (by rfl), Ev.some_iff]; rfl
      · rw [Ev.pif_f (by rfl), wrk (by omega), GValue.re_eq, GValue.re_eq, Bool.true_and]
        exact ihk
  refine (loop 0 (Nat.zero_le _)).to ?_
  rw [List.drop_zero, List.drop_zero]
  by_cases h6 : a.list = b.list
  · rw [eqB_true.2 h6, eqB_true.2 (vext h1 h2.1 h2.2 h3 h4 h6)]
  · rw [eqB_false.2 h6, eqB_false.2 fun h => h6 (by rw [h])]
theorem ref03_Same : ∀ a b : GValue, a.size ≤ 1048576 → Ev (fun n => go_ref03_Same n a b) (eqB a b) := vind (P := fun a => ∀ b : GValue, a.size ≤ 1048576 → Ev (fun n => go_ref03_Same n a b) (eqB a b)) fun a ih b hs => by
  have hsl := size_list a
  have hlen := len_size a.list
  have bad : a ≠ b → Ev (fun n => go_ref03_Same_L0 n true b a) (eqB a b) := fun h => by rw [ev_ref03_Same_L0, Ev.pif_t (by rfl), Ev.some_iff, eqB_false.2 h]
  rw [ev_ref03_Same, GValue.re_eq, GValue.re_eq]
  by_cases h1 : a.kind = b.kind
  case neg => rw [Ev.pif_t (by simpa using h1)]; exact bad fun h => h1 (by rw [h])
  rw [Ev.pif_f (by simpa using h1)]
  by_cases h2 : a.num.num = b.num.num ∧ a.num.den = b.num.den
  case neg => rw [Ev.pif_t (by simp; omega)]; exact bad fun h => h2 (by rw [h]; exact ⟨rfl, rfl⟩)
  rw [Ev.pif_f (by simp [h2])]
  by_cases h3 : a.truth = b.truth
  case neg => rw [Ev.pif_t (by simpa using h3)]; exact bad fun h => h3 (by rw [h])
  rw [Ev.pif_f (by simp [h3])]
  by_cases h4 : a.str = b.str
  case neg => rw [Ev.pif_t (by simpa using h4)]; exact bad fun h => h4 (by rw [h])
  rw [Ev.pif_f (by simp [h4])]
  by_cases h5 : a.list.length = b.list.length
  case neg => rw [show ((a.list.length : Int) != (b.list.length : Int)) = true by simp; omega]; exact bad fun h => h5 (by rw [h])
  rw [show ((a.list.length : Int) != (b.list.length : Int)) = false by simp; omega, ev_ref03_Same_L0, Ev.pif_f (by rfl), GValue.re_eq, GValue.re_eq]
  have loop : ∀ k, k ≤ a.list.length → Ev (fun n => go_ref03_Same_L1 n (k : Int) b a) (eqB (a.list.drop k) (b.list.drop k)) :=
    down (by
      rw [ev_ref03_Same_L1, Ev.pif_f (by simp), Ev.some_iff, List.drop_length, h5, List.drop_length, eqB_rfl]) fun k hk ihk => by
      have hk2 : k < b.list.length := by omega
      have hx := List.getElem_mem hk
      have hsx := size_in hx
      rw [← List.getElem_cons_drop (h := hk), ← List.getElem_cons_drop (h := hk2), eqB_cons]
      rw [ev_ref03_Same_L1, Ev.pif_t (by simpa using hk), Ev.opt_iff (ix_lt hk), Ev.opt_iff (ix_lt hk2), GValue.re_eq, GValue.re_eq, Ev.bind_iff (ih _ hx _ (by omega))]
      cases hf : eqB a.list[k] b.list[k]
      · rw [Ev.pif_t (by rfl), Ev.some_iff]; rfl
      · rw [Ev.pif_f (by rfl), wrk (by omega), GValue.re_eq, GValue.re_eq, Bool.true_and]
        exact ihk
  refine (loop 0 (Nat.zero_le _)).to ?_
  rw [List.drop_zero, List.drop_zero]
  by_cases h6 : a.list = b.list
  · rw [eqB_true.2 h6, eqB_true.2 (vext h1 h2.1 h2.2 h3 h4 h6)]
  · rw [eqB_false.2 h6, eqB_false.2 fun h => h6 (by rw [h])]
/-! ### copies -/
theorem take_succ_get {α : Type} {l : List α} {k : Nat} (h : k < l.length) : l.take k ++ [l[k]] = l.take (k + 1) := by
  rw [List.take_add_one, List.getElem?_eq_getElem h]; rfl
theorem value_Twin_1 : ∀ v : GValue, v.size ≤ 1048576 → Ev (fun n => go_value_Twin_1 n v) v := vind fun v ih hs => by
  have hsl := size_list v
  have hlen := len_size v.list
  have loop : ∀ k, k ≤ v.list.length → ∀ a4 a5 a6 a7 a8 a10, Ev (fun n => go_value_Twin_1_L0 n (k : Int) v.list (v.list.length : Int) (v.list.take k) a4 a5 a6 a7 a8 v a10) v :=
    down (fun a4 a5 a6 a7 a8 a10 => by
      rw [ev_value_Twin_1_L0, Ev.pif_f (by simp), Ev.some_iff, List.take_length]; exact GValue.re_eq v) fun k hk ihk a4 a5 a6 a7 a8 a10 => by
      have hx := List.getElem_mem hk
      have hsx := size_in hx
      rw [ev_value_Twin_1_L0, Ev.pif_t (by simpa using hk), Ev.opt_iff (ix_lt hk), GValue.re_eq, Ev.bind_iff (ih _ hx (by omega)), GValue.re_eq, Ev.opt_iff (ext_ok (by simp; omega)), wrk (by omega), GValue.re_eq, take_succ_get hk]
      exact ihk _ _ _ _ _ _
  rw [ev_value_Twin_1, GValue.re_eq]
  exact loop 0 (Nat.zero_le _) _ _ _ _ _ _
theorem value_Twin_1_s2 {v : GValue} (hs : v.size ≤ 1048576) : Ev (fun n => go_value_Twin_1_s2 n v) (v.kind, v.num.num, v.num.den, v.truth, v.str, v.list) := by
  have hsl := size_list v
  have hlen := len_size v.list
  have loop : ∀ k, k ≤ v.list.length → ∀ a4 a5 a6 a7 a8 a10, Ev (fun n => go_value_Twin_1_s2_L0 n (k : Int) v.list (v.list.length : Int) (v.list.take k) a4 a5 a6 a7 a8 v a10) (v.kind, v.num.num, v.num.den, v.truth, v.str, v.list) :=
    down (fun a4 a5 a6 a7 a8 a10 => by
      rw [ev_value_Twin_1_s2_L0, Ev.pif_f (by simp), Ev.some_iff, List.take_length]) fun k hk ihk a4 a5 a6 a7 a8 a10 => by
      have hx := List.getElem_mem hk
      have hsx := size_in hx
      rw [ev_value_Twin_1_s2_L0, Ev.pif_t (by simpa using hk), Ev.opt_iff (ix_lt hk), GValue.re_eq, Ev.bind_iff (value_Twin_1 _ (by omega)), GValue.re_eq, Ev.opt_iff (ext_ok (by simp; omega)), wrk (by omega), GValue.re_eq, take_succ_get hk]
      exact ihk _ _ _ _ _ _
  rw [ev_value_Twin_1_s2, GValue.re_eq]
  exact loop 0 (Nat.zero_le _) _ _ _ _ _ _
theorem value_Twin_s2 {v : GValue} (hs : v.size ≤ 1048576) : Ev (fun n => go_value_Twin_s2 n v) (v.kind, v.num.num, v.num.den, v.truth, v.str, v.list) := by
  rw [ev_value_Twin_s2, GValue.re_eq, Ev.bind_iff (value_Twin_1_s2 hs), Ev.some_iff]
theorem value_Twin {v : GValue} (hs : v.size ≤ 1048576) : Ev (fun n => go_value_Twin n v) v := by
  rw [ev_value_Twin, GValue.re_eq, Ev.bind_iff (value_Twin_1 v hs), Ev.some_iff, GValue.re_eq]
theorem ref03_Twin : ∀ v : GValue, v.size ≤ 1048576 → Ev (fun n => go_ref03_Twin n v) v := vind fun v ih hs => by
  have hsl := size_list v
  have hlen := len_size v.list
  have loop : ∀ k, k ≤ v.list.length → ∀ a7 a8 a9 a10 a11 a13, Ev (fun n => go_ref03_Twin_L0 n (k : Int) v.kind v.num.num v.num.den v.truth v.str v a7 a8 a9 a10 a11 (v.list.take k) a13) v :=
    down (fun a7 a8 a9 a10 a11 a13 => by
      rw [ev_ref03_Twin_L0, Ev.pif_f (by simp), Ev.some_iff, List.take_length]; exact GValue.re_eq v) fun k hk ihk a7 a8 a9 a10 a11 a13 => by
      have hx := List.getElem_mem hk
      have hsx := size_in hx
      rw [ev_ref03_Twin_L0, Ev.pif_t (by simpa using hk), Ev.opt_iff (ix_lt hk), GValue.re_eq, Ev.bind_iff (ih _ hx (by omega)), GValue.re_eq, Ev.opt_iff (ext_ok (by simp; omega)), wrk (by omega), GValue.re_eq, take_succ_get hk]
      exact ihk _ _ _ _ _ _
  rw [ev_ref03_Twin, GValue.re_eq]
  exact loop 0 (Nat.zero_le _) _ _ _ _ _ _
theorem ref03_Twin_s2 {v : GValue} (hs : v.size ≤ 1048576) : Ev (fun n => go_ref03_Twin_s2 n v) (v.kind, v.num.num, v.num.den, v.truth, v.str, v.list) := by
  have hsl := size_list v
  have hlen := len_size v.list
  have loop : ∀ k, k ≤ v.list.length → ∀ a7 a8 a9 a10 a11 a13, Ev (fun n => go_ref03_Twin_s2_L0 n (k : Int) v.kind v.num.num v.num.den v.truth v.str v a7 a8 a9 a10 a11 (v.list.take k) a13) (v.kind, v.num.num, v.num.den, v.truth, v.str, v.list) :=
    down (fun a7 a8 a9 a10 a11 a13 => by
      rw [ev_ref03_Twin_s2_L0, Ev.pif_f (by simp), Ev.some_iff, List.take_length]) fun k hk ihk a7 a8 a9 a10 a11 a13 => by
      have hx := List.getElem_mem hk
      have hsx := size_in hx
      rw [ev_ref03_Twin_s2_L0, Ev.pif_t (by simpa using hk), Ev.opt_iff (ix_lt hk), GValue.re_eq, Ev.bind_iff (ref03_Twin _ (by omega)), GValue.re_eq, Ev.opt_iff (ext_ok (by simp; omega)), wrk (by omega), GValue.re_eq, take_succ_get hk]
      exact ihk _ _ _ _ _ _
  rw [ev_ref03_Twin_s2, GValue.re_eq]
  exact loop 0 (Nat.zero_le _) _ _ _ _ _ _
/-! ### what is great -/
theorem ref03_great : ∀ v : GValue, v.size ≤ 1048576 → ∀ d : Int, ∃ b, Ev (fun n => go_ref03_great n v d) b := vind fun v ih hs d => by
  have hsl := size_list v
  have hlen := len_size v.list
  have loop : ∀ k, k ≤ v.list.length → ∀ d : Int, ∃ b, Ev (fun n => go_ref03_great_L1 n (k : Int) d v) b :=
    down (fun d => ⟨false, by rw [ev_ref03_great_L1, Ev.pif_f (by simp), Ev.some_iff]⟩) fun k hk ihk d => by
      have hx := List.getElem_mem hk
      have hsx := size_in hx
      obtain ⟨b, hb⟩ := ih _ hx (by omega) (IntKind.i64.wrap (d - 1))
      obtain ⟨c, hc⟩ := ihk d
      refine ⟨if b then true else c, ?_⟩
      rw [ev_ref03_great_L1, Ev.pif_t (by simpa using hk), Ev.opt_iff (ix_lt hk), GValue.re_eq, Ev.bind_iff hb, GValue.re_eq, wrk (by omega)]
      cases b
      · rw [Ev.pif_f (by rfl)]; exact hc
      · rw [Ev.pif_t (by rfl), Ev.some_iff]; rfl
  have l0 : ∀ d b, ∃ c, Ev (fun n => go_ref03_great_L0 n d b v) c := fun d b => by
    cases b
    · obtain ⟨c, hc⟩ := loop 0 (Nat.zero_le _) d
      exact ⟨c, by rw [ev_ref03_great_L0, Ev.pif_f (by rfl), GValue.re_eq]; exact hc⟩
    · exact ⟨true, by rw [ev_ref03_great_L0, Ev.pif_t (by rfl), Ev.some_iff]⟩
  simp only [ev_ref03_great, GValue.re_eq, Ev.pif]
  split
  · exact l0 _ _
  split
  · exact l0 _ _
  · exact l0 _ _
theorem ref03_Great {v : GValue} (hs : v.size ≤ 1048576) : ∃ b, Ev (fun n => go_ref03_Great n v) b := by
  obtain ⟨b, hb⟩ := ref03_great v hs 10
  cases b
  · exact ⟨_, by rw [ev_ref03_Great, GValue.re_eq, Ev.bind_iff hb, Ev.pif_f (by rfl), Ev.bind_iff (ref03_Parts v hs)]; exact Ev.some_iff.2 rfl⟩
  · exact ⟨true, by rw [ev_ref03_Great, GValue.re_eq, Ev.bind_iff hb, Ev.pif_t (by rfl), Ev.some_iff]⟩
end Go.Proofs.YtfhpamcehnfhoaaGreat
