/-
  The Go functions compute what their Lean functions do, by a program of this repo.
-/
import Derived.Test.YtoimblncdeimoaaFns
import Derived.Test.YtoimblncdeimoaaFacts
import Derived.Test.YtoimblncdeimoaaAbSimp
import Derived.Lib.Bytealg
import Derived.Laws.Externs
import Derived.KernelRfl
namespace Go.Proofs
open Go Go.Ab
set_option maxRecDepth 10000
set_option maxHeartbeats 1000000
set_option linter.unusedSimpArgs false
set_option linter.unusedVariables false
theorem go_ref45_Great_ok (n : Nat) (a0 : List GTally) (r : Bool) (h : go_ref45_Great n a0 = some r) : PCall Try.prog 5 [.sl 3 (a0.map GTally.el) false] (.bool r) := by
  rcases n with _ | n
  · simp [go_ref45_Great] at h
  rw [go_ref45_Great] at h
  refine pcall_of Try.func5 rfl Try.ntmps5 (fun _ _ => Try.call5 _ _) fun lv E => ?_
  simp only [List.length_cons, List.length_nil, Nat.reduceAdd, Nat.reduceSub, List.replicate, List.cons_append, List.nil_append]
  have hA := AccG.nil (lv + 1)
  generalize ([] : List (Option AObj)) = L at hA ⊢
  repeat refine sat_seq ?_
  refine satO_reg ?_
  refine satO_step 1 [] ⟨.sl 3 (a0.map GTally.el) false :: an 1 (.bool false :: an 21 []), ⟨lv + 1, L, E⟩, [], E⟩ [] (by simp -implicitDefEqProofs []) claims_nil ?_
  refine satO_nil (by simp) ?_
  repeat refine sat_seq ?_
  refine satO_reg ?_
  refine satO_step 1 [] ⟨.sl 3 (a0.map GTally.el) false :: an 1 (.bool false :: .int .i64 0 :: an 20 []), ⟨lv + 1, L, E⟩, [], E⟩ [] (by simp -implicitDefEqProofs []) claims_nil ?_
  refine satO_nil (by simp) ?_
  repeat refine sat_seq ?_
  refine sat_block ?_
  repeat refine sat_seq ?_
  refine sat_loop (fun k σ => ∃ (x1 : Int) (L : List (Option AObj)), k ≤ n ∧ AccG (lv + 1) L [] [] ∧ go_ref45_Great_L1 k a0 x1 = some r ∧ σ = ⟨.sl 3 (a0.map GTally.el) false :: an 2 (.int .i64 x1 :: an 20 []), ⟨lv + 1, L, E⟩, [], E⟩) n ⟨.sl 3 (a0.map GTally.el) false :: an 2 (.int .i64 0 :: an 20 []), ⟨lv + 1, L, E⟩, [], E⟩ (weak_tmps ?_) ⟨0, L, Nat.le_refl _, hA, h, rfl⟩ ?_
  · (try simp only [an, List.map_cons, List.map_nil]); repeat (first | exact VLeL.nil | refine VLeL.cons (by first | exact VLe.refl _ | exact VLe.any _ | exact VLe.nil _ _ | exact VLe.full _ _ | (refine VLe.agg' ?_; repeat (first | exact VLeL.nil | refine VLeL.cons (by first | exact VLe.refl _ | exact VLe.any _ | exact VLe.nil _ _) ?_))) ?_)
  · rintro k σ ⟨x1, L, hk, hA, h, rfl⟩
    rcases k with _ | n
    · simp [go_ref45_Great_L1] at h
    · rw [go_ref45_Great_L1] at h
      repeat refine sat_seq ?_
      refine sat_meet (fun σ => ∃ (k : Nat), k ≤ n ∧ ∃ (x2 : Bool) (L : List (Option AObj)), AccG (lv + 1) L [] [] ∧ go_ref45_Great_J1 k a0 x1 x2 = some r ∧ σ = ⟨.sl 3 (a0.map GTally.el) false :: an 2 (.int .i64 x1 :: an 7 (.bool x2 :: an 12 [])), ⟨lv + 1, L, E⟩, [], E⟩) ?_ ?_
      · refine satO_reg ?_
        rcases Bool.eq_false_or_eq_true (decide (x1 < (a0.length : Int))) with hg3 | hg4
        · have h := ite_t hg3 h
          have hg3n := hg3
          try simp at hg3n
          refine satO_step 8 [] ⟨.sl 3 (a0.map GTally.el) false :: an 2 (.int .i64 x1 :: .int .i64 x1 :: .sl 3 (a0.map GTally.el) false :: .int .i64 (a0.length : Int) :: .bool (decide (x1 < (a0.length : Int))) :: .bool (decide (x1 < (a0.length : Int))) :: .int .i64 x1 :: .bool (decide (x1 < 220)) :: .bool (decide (x1 < 220)) :: an 12 []), ⟨lv + 1, L, E⟩, [], E⟩ [] (by first | (simp -implicitDefEqProofs [hg3]; done) | simp -implicitDefEqProofs [hg3, hg3n]) claims_nil ?_
          refine satO_nil (by simp) ?_
          refine ⟨⟨.sl 3 (a0.map GTally.el) false :: an 2 (.int .i64 x1 :: an 7 (.bool (decide (x1 < 220)) :: an 12 [])), ⟨lv + 1, L, E⟩, [], E⟩, weak_tmps ?_, n, by omega, (decide (x1 < 220)), L, hA, h, rfl⟩
          (try simp only [an, List.map_cons, List.map_nil]); repeat (first | exact VLeL.nil | refine VLeL.cons (by first | exact VLe.refl _ | exact VLe.any _ | exact VLe.nil _ _ | exact VLe.full _ _ | (refine VLe.agg' ?_; repeat (first | exact VLeL.nil | refine VLeL.cons (by first | exact VLe.refl _ | exact VLe.any _ | exact VLe.nil _ _) ?_))) ?_)
        · have h := ite_f hg4 h
          have hg4n := hg4
          try simp at hg4n
          refine satO_step 8 [] ⟨.sl 3 (a0.map GTally.el) false :: an 2 (.int .i64 x1 :: .int .i64 x1 :: .sl 3 (a0.map GTally.el) false :: .int .i64 (a0.length : Int) :: .bool (decide (x1 < (a0.length : Int))) :: .bool (decide (x1 < (a0.length : Int))) :: .tup [] :: .tup [] :: .bool false :: an 12 []), ⟨lv + 1, L, E⟩, [], E⟩ [] (by first | (simp -implicitDefEqProofs [hg4]; done) | simp -implicitDefEqProofs [hg4, hg4n]) claims_nil ?_
          refine satO_nil (by simp) ?_
          refine ⟨⟨.sl 3 (a0.map GTally.el) false :: an 2 (.int .i64 x1 :: an 7 (.bool false :: an 12 [])), ⟨lv + 1, L, E⟩, [], E⟩, weak_tmps ?_, n, by omega, false, L, hA, h, rfl⟩
          (try simp only [an, List.map_cons, List.map_nil]); repeat (first | exact VLeL.nil | refine VLeL.cons (by first | exact VLe.refl _ | exact VLe.any _ | exact VLe.nil _ _ | exact VLe.full _ _ | (refine VLe.agg' ?_; repeat (first | exact VLeL.nil | refine VLeL.cons (by first | exact VLe.refl _ | exact VLe.any _ | exact VLe.nil _ _) ?_))) ?_)
      · rintro σ0 σ hw ⟨k, hk, x2, L, hA, h, rfl⟩
        rcases k with _ | n
        · simp [go_ref45_Great_J1] at h
        · rw [go_ref45_Great_J1] at h
          refine sat_weak hw ?_
          repeat refine sat_seq ?_
          refine sat_cond rfl (fun hb => ?_) (fun hb => ?_)
          · have h := ite_t hb h
            repeat refine sat_seq ?_
            refine sat_skip ?_
            repeat refine sat_seq ?_
            refine sat_block ?_
            repeat refine sat_seq ?_
            refine satO_reg ?_
            obtain ⟨x5, q6, h⟩ := bnd_hi h
            obtain ⟨q6, q7⟩ := ix_some q6
            refine satO_step 7 [] ⟨.sl 3 (a0.map GTally.el) false :: an 2 (.int .i64 x1 :: an 7 (.bool x2 :: an 2 (.sl 3 (a0.map GTally.el) false :: .int .i64 x1 :: .ref x5.cs 0 :: .ref x5.cs 0 :: .str x5.name :: .int .i64 (x5.name.length : Int) :: .bool (decide (200 < (x5.name.length : Int))) :: an 3 []))), ⟨lv + 1, L, E⟩, [], E⟩ [] (by simp -implicitDefEqProofs [GTally.cs, q6, q7, GTally.el_cs]) claims_nil ?_
            refine satO_nil (by simp) ?_
            repeat refine sat_seq ?_
            refine sat_cond rfl (fun hb => ?_) (fun hb => ?_)
            · have h := ite_t hb h
              repeat refine sat_seq ?_
              refine satO_reg ?_
              refine satO_step 1 [] ⟨.sl 3 (a0.map GTally.el) false :: an 1 (.bool true :: .int .i64 x1 :: an 7 (.bool x2 :: an 2 (.sl 3 (a0.map GTally.el) false :: .int .i64 x1 :: .ref x5.cs 0 :: .ref x5.cs 0 :: .str x5.name :: .int .i64 (x5.name.length : Int) :: .bool (decide (200 < (x5.name.length : Int))) :: an 3 []))), ⟨lv + 1, L, E⟩, [], E⟩ [] (by simp -implicitDefEqProofs [GTally.cs]) claims_nil ?_
              refine satO_nil (by simp) ?_
              repeat refine sat_seq ?_
              refine sat_ret ?_
              refine ends (v := .bool true) (by simp [resultsV, resL, resV, tupOf, Try.f5, pLoad, GTally.cs]) rfl rfl ?_
              injection h with h
              subst h
              exact (.keep _ (by simp [V.kin, V.kinL, GTally.cs]))
            · have h := ite_f hb h
              repeat refine sat_seq ?_
              refine sat_skip ?_
              repeat refine sat_seq ?_
              refine satO_reg ?_
              refine satO_step 3 [] ⟨.sl 3 (a0.map GTally.el) false :: an 2 (.int .i64 (IntKind.i64.wrap (x1 + 1)) :: an 7 (.bool x2 :: .int .i64 x1 :: .int .i64 (IntKind.i64.wrap (x1 + 1)) :: .sl 3 (a0.map GTally.el) false :: .int .i64 x1 :: .ref x5.cs 0 :: .ref x5.cs 0 :: .str x5.name :: .int .i64 (x5.name.length : Int) :: .bool (decide (200 < (x5.name.length : Int))) :: an 3 [])), ⟨lv + 1, L, E⟩, [], E⟩ [] (by simp -implicitDefEqProofs [GTally.cs]) claims_nil ?_
              refine satO_nil (by simp) ?_
              refine ⟨n, ⟨.sl 3 (a0.map GTally.el) false :: an 2 (.int .i64 (IntKind.i64.wrap (x1 + 1)) :: an 20 []), ⟨lv + 1, L, E⟩, [], E⟩, weak_tmps ?_, ⟨(IntKind.i64.wrap (x1 + 1)), L, by omega, hA, h, rfl⟩, by omega⟩
              (try simp only [an, List.map_cons, List.map_nil]); repeat (first | exact VLeL.nil | refine VLeL.cons (by first | exact VLe.refl _ | exact VLe.any _ | exact VLe.nil _ _ | exact VLe.full _ _ | (refine VLe.agg' ?_; repeat (first | exact VLeL.nil | refine VLeL.cons (by first | exact VLe.refl _ | exact VLe.any _ | exact VLe.nil _ _) ?_))) ?_)
          · have h := ite_f hb h
            repeat refine sat_seq ?_
            refine sat_exit ?_
            repeat refine sat_seq ?_
            refine satO_reg ?_
            refine satO_step 4 [] ⟨.sl 3 (a0.map GTally.el) false :: an 1 (.bool (decide (220 < (a0.length : Int))) :: .int .i64 x1 :: an 7 (.bool x2 :: an 9 (.sl 3 (a0.map GTally.el) false :: .int .i64 (a0.length : Int) :: .bool (decide (220 < (a0.length : Int))) :: []))), ⟨lv + 1, L, E⟩, [], E⟩ [] (by simp -implicitDefEqProofs [GTally.cs]) claims_nil ?_
            refine satO_nil (by simp) ?_
            repeat refine sat_seq ?_
            refine sat_ret ?_
            refine ends (v := .bool (decide (220 < (a0.length : Int)))) (by simp [resultsV, resL, resV, tupOf, Try.f5, pLoad, GTally.cs]) rfl rfl ?_
            injection h with h
            subst h
            exact (.keep _ (by simp [V.kin, V.kinL, GTally.cs]))
end Go.Proofs

namespace Go.Proofs
open Go Go.Ab
set_option maxRecDepth 10000
set_option maxHeartbeats 1000000
set_option linter.unusedSimpArgs false
set_option linter.unusedVariables false
theorem go_report_str_ok (n : Nat) (a0 : List UInt8) (r : GValue) (h : go_report_str n a0 = some r) : PCall Try.prog 39 [.str a0] (.agg r.cs) := by
  rw [go_report_str] at h
  refine pcall_of Try.func39 rfl Try.ntmps39 (fun _ _ => Try.call39 _ _) fun lv E => ?_
  simp only [List.length_cons, List.length_nil, Nat.reduceAdd, Nat.reduceSub, List.replicate, List.cons_append, List.nil_append]
  have hA := AccG.nil (lv + 1)
  generalize ([] : List (Option AObj)) = L at hA ⊢
  repeat refine sat_seq ?_
  refine satO_reg ?_
  refine satO_step 1 [] ⟨.str a0 :: an 1 (.ptr (lv + 1) L.length 0 :: an 2 []), ⟨lv + 1, (L ++ [some (.cells [.int .u8 0, .int .i64 0, .int .i64 0, .bool false, .str ([]), .nils])]), E⟩, [], E⟩ [] (by simp -implicitDefEqProofs [GValue.cs]) claims_nil ?_
  have hA : AccG (lv + 1) (L ++ [some (.cells [.int .u8 0, .int .i64 0, .int .i64 0, .bool false, .str ([]), .nils])]) [] [(L.length, .cells [.int .u8 0, .int .i64 0, .int .i64 0, .bool false, .str ([]), .nils])] := hA.obj _
  generalize L.length = i2 at hA ⊢
  generalize (L ++ [some (.cells [.int .u8 0, .int .i64 0, .int .i64 0, .bool false, .str ([]), .nils])]) = L at hA ⊢
  refine satO_nil (by simp) ?_
  repeat refine sat_seq ?_
  refine satO_reg ?_
  have g0 := hA.get (k := 0) rfl
  refine satO_step 2 [] ⟨.str a0 :: an 1 (.ptr (lv + 1) i2 0 :: .str a0 :: .agg [.int .u8 3, .int .i64 0, .int .i64 0, .bool false, .str a0, .nils] :: []), ⟨lv + 1, L, E⟩, [], E⟩ [] (by simp -implicitDefEqProofs [GValue.cs, g0]) claims_nil ?_
  have g0 := hA.get (k := 0) rfl
  refine satO_step 1 [] ⟨.str a0 :: an 1 (.ptr (lv + 1) i2 0 :: .str a0 :: .agg [.int .u8 3, .int .i64 0, .int .i64 0, .bool false, .str a0, .nils] :: []), ⟨lv + 1, (L.set i2 (some (.cells [.int .u8 3, .int .i64 0, .int .i64 0, .bool false, .str a0, .nils]))), E⟩, [], E⟩ [] (by simp -implicitDefEqProofs [GValue.cs, g0]) claims_nil ?_
  have hA : AccG (lv + 1) (L.set i2 (some (.cells [.int .u8 3, .int .i64 0, .int .i64 0, .bool false, .str a0, .nils]))) [] [(i2, .cells [.int .u8 3, .int .i64 0, .int .i64 0, .bool false, .str a0, .nils])] := hA.upd (k := 0) rfl _
  generalize (L.set i2 (some (.cells [.int .u8 3, .int .i64 0, .int .i64 0, .bool false, .str a0, .nils]))) = L at hA ⊢
  refine satO_nil (by simp) ?_
  repeat refine sat_seq ?_
  refine sat_ret ?_
  have g0 := hA.get (k := 0) rfl
  refine ends (v := .agg [.int .u8 3, .int .i64 0, .int .i64 0, .bool false, .str a0, .nils]) (by simp [resultsV, resL, resV, tupOf, Try.f39, pLoad, g0, GValue.cs]) rfl rfl ?_
  injection h with h
  subst h
  exact (VS.agg' (.cons (.keep _ (by simp [V.kin, V.kinL, GValue.cs])) (.cons (.keep _ (by simp [V.kin, V.kinL, GValue.cs])) (.cons (.keep _ (by simp [V.kin, V.kinL, GValue.cs])) (.cons (.keep _ (by simp [V.kin, V.kinL, GValue.cs])) (.cons (.keep _ (by simp [V.kin, V.kinL, GValue.cs])) (.cons (.nil _ _) .nil)))))))
end Go.Proofs

namespace Go.Proofs
open Go Go.Ab
set_option maxRecDepth 10000
set_option maxHeartbeats 1000000
set_option linter.unusedSimpArgs false
set_option linter.unusedVariables false
theorem go_value_measure_ok : ∀ n : Nat, (∀ (a0 : GValue) (r : Int × Int), go_value_measure n a0 = some r → PCall Try.prog 55 [.agg a0.cs] (.tup [.int .i64 r.1, .int .i64 r.2])) := by
  intro n; induction n using Nat.strongRecOn with | ind n ih =>
  intro a0 r h
  rcases n with _ | n
  · simp [go_value_measure] at h
  rw [go_value_measure] at h
  refine pcall_of Try.func55 rfl Try.ntmps55 (fun _ _ => Try.call55 _ _) fun lv E => ?_
  simp only [List.length_cons, List.length_nil, Nat.reduceAdd, Nat.reduceSub, List.replicate, List.cons_append, List.nil_append]
  have hA := AccG.nil (lv + 1)
  generalize ([] : List (Option AObj)) = L at hA ⊢
  repeat refine sat_seq ?_
  refine satO_reg ?_
  refine satO_step 1 [] ⟨.agg a0.cs :: .ptr (lv + 1) L.length 0 :: an 31 [], ⟨lv + 1, (L ++ [some (.cells a0.cs)]), E⟩, [], E⟩ [] (by simp -implicitDefEqProofs [GValue.cs]) claims_nil ?_
  have hA : AccG (lv + 1) (L ++ [some (.cells a0.cs)]) [] [(L.length, .cells a0.cs)] := hA.obj _
  generalize L.length = i2 at hA ⊢
  generalize (L ++ [some (.cells a0.cs)]) = L at hA ⊢
  have g0 := hA.get (k := 0) rfl
  refine satO_step 2 [] ⟨.agg a0.cs :: .ptr (lv + 1) i2 0 :: .int .i64 0 :: .int .i64 0 :: an 29 [], ⟨lv + 1, L, E⟩, [], E⟩ [] (by simp -implicitDefEqProofs [GValue.cs, g0]) claims_nil ?_
  refine satO_nil (by simp) ?_
  repeat refine sat_seq ?_
  refine satO_reg ?_
  have g0 := hA.get (k := 0) rfl
  refine satO_step 2 [] ⟨.agg a0.cs :: .ptr (lv + 1) i2 0 :: .int .i64 1 :: .int .i64 1 :: an 29 [], ⟨lv + 1, L, E⟩, [], E⟩ [] (by simp -implicitDefEqProofs [GValue.cs, g0]) claims_nil ?_
  refine satO_nil (by simp) ?_
  repeat refine sat_seq ?_
  refine satO_reg ?_
  have g0 := hA.get (k := 0) rfl
  refine satO_step 3 [] ⟨.agg a0.cs :: .ptr (lv + 1) i2 0 :: .int .i64 1 :: .int .i64 1 :: an 4 (.ptr (lv + 1) i2 0 :: .int .u8 a0.kind :: .bool (a0.kind == 4) :: an 22 []), ⟨lv + 1, L, E⟩, [], E⟩ [] (by simp -implicitDefEqProofs [GValue.cs, g0]) claims_nil ?_
  refine satO_nil (by simp) ?_
  repeat refine sat_seq ?_
  refine sat_meet (fun σ => ∃ (k : Nat), k ≤ n ∧ ∃ (x3 : Int) (x4 : Int) (L : List (Option AObj)), AccG (lv + 1) L [] [] ∧ go_value_measure_J1 k x3 x4 = some r ∧ σ = ⟨an 2 (.int .i64 x3 :: .int .i64 x4 :: an 29 []), ⟨lv + 1, L, E⟩, [], E⟩) ?_ ?_
  · refine sat_cond rfl (fun hb => ?_) (fun hb => ?_)
    · have h := ite_t hb h
      repeat refine sat_seq ?_
      refine satO_reg ?_
      have g0 := hA.get (k := 0) rfl
      refine satO_step 4 [] ⟨.agg a0.cs :: .ptr (lv + 1) i2 0 :: .int .i64 1 :: .int .i64 1 :: an 4 (.ptr (lv + 1) i2 0 :: .int .u8 a0.kind :: .bool (a0.kind == 4) :: .ptr (lv + 1) i2 5 :: .sl 6 (a0.list.map GValue.el) false :: .int .i64 (a0.list.length : Int) :: .int .i64 0 :: an 18 []), ⟨lv + 1, L, E⟩, [], E⟩ [] (by simp -implicitDefEqProofs [GValue.cs, g0]) claims_nil ?_
      refine satO_nil (by simp) ?_
      repeat refine sat_seq ?_
      refine sat_block ?_
      repeat refine sat_seq ?_
      have hA : AccG (lv + 1) L [] [] := hA.sel [] (by simp) rfl (.cons _ .slnil)
      refine sat_loop (fun k σ => ∃ (x5 : Int) (x6 : Int) (x7 : Int) (L : List (Option AObj)), k ≤ n ∧ AccG (lv + 1) L [] [] ∧ go_value_measure_L1 k a0 x5 x6 x7 = some r ∧ σ = ⟨an 2 (.int .i64 x5 :: .int .i64 x6 :: an 8 (.sl 6 (a0.list.map GValue.el) false :: .int .i64 (a0.list.length : Int) :: .int .i64 x7 :: an 18 [])), ⟨lv + 1, L, E⟩, [], E⟩) n ⟨an 2 (.int .i64 1 :: .int .i64 1 :: an 8 (.sl 6 (a0.list.map GValue.el) false :: .int .i64 (a0.list.length : Int) :: .int .i64 0 :: an 18 [])), ⟨lv + 1, L, E⟩, [], E⟩ (weak_tmps ?_) ⟨1, 1, 0, L, Nat.le_refl _, hA, h, rfl⟩ ?_
      · (try simp only [an, List.map_cons, List.map_nil]); repeat (first | exact VLeL.nil | refine VLeL.cons (by first | exact VLe.refl _ | exact VLe.any _ | exact VLe.nil _ _ | exact VLe.full _ _ | (refine VLe.agg' ?_; repeat (first | exact VLeL.nil | refine VLeL.cons (by first | exact VLe.refl _ | exact VLe.any _ | exact VLe.nil _ _) ?_))) ?_)
      · rintro k σ ⟨x5, x6, x7, L, hk, hA, h, rfl⟩
        rcases k with _ | n
        · simp [go_value_measure_L1] at h
        · rw [go_value_measure_L1] at h
          repeat refine sat_seq ?_
          refine satO_reg ?_
          refine satO_step 1 [] ⟨an 2 (.int .i64 x5 :: .int .i64 x6 :: an 8 (.sl 6 (a0.list.map GValue.el) false :: .int .i64 (a0.list.length : Int) :: .int .i64 x7 :: .bool (decide (x7 < (a0.list.length : Int))) :: an 17 [])), ⟨lv + 1, L, E⟩, [], E⟩ [] (by simp -implicitDefEqProofs [GValue.cs]) claims_nil ?_
          refine satO_nil (by simp) ?_
          repeat refine sat_seq ?_
          refine sat_cond rfl (fun hb => ?_) (fun hb => ?_)
          · have h := ite_t hb h
            repeat refine sat_seq ?_
            refine sat_skip ?_
            repeat refine sat_seq ?_
            refine sat_block ?_
            repeat refine sat_seq ?_
            refine satO_reg ?_
            obtain ⟨x8, q9, h⟩ := bnd_hi h
            obtain ⟨q9, q10⟩ := ix_some q9
            refine satO_step 2 [] ⟨an 2 (.int .i64 x5 :: .int .i64 x6 :: an 8 (.sl 6 (a0.list.map GValue.el) false :: .int .i64 (a0.list.length : Int) :: .int .i64 x7 :: .bool (decide (x7 < (a0.list.length : Int))) :: .ref x8.cs 0 :: .agg x8.cs :: an 15 [])), ⟨lv + 1, L, E⟩, [], E⟩ [] (by simp -implicitDefEqProofs [GValue.cs, q9, q10, GValue.el_cs]) claims_nil ?_
            refine satO_step 1 [] ⟨an 2 (.int .i64 x5 :: .int .i64 x6 :: an 1 (.ptr (lv + 1) L.length 0 :: an 6 (.sl 6 (a0.list.map GValue.el) false :: .int .i64 (a0.list.length : Int) :: .int .i64 x7 :: .bool (decide (x7 < (a0.list.length : Int))) :: .ref x8.cs 0 :: .agg x8.cs :: an 15 []))), ⟨lv + 1, (L ++ [some (.cells [.int .u8 0, .int .i64 0, .int .i64 0, .bool false, .str ([]), .nils])]), E⟩, [], E⟩ [] (by simp -implicitDefEqProofs [GValue.cs]) claims_nil ?_
            have hA : AccG (lv + 1) (L ++ [some (.cells [.int .u8 0, .int .i64 0, .int .i64 0, .bool false, .str ([]), .nils])]) [] [(L.length, .cells [.int .u8 0, .int .i64 0, .int .i64 0, .bool false, .str ([]), .nils])] := hA.obj _
            generalize L.length = i12 at hA ⊢
            generalize (L ++ [some (.cells [.int .u8 0, .int .i64 0, .int .i64 0, .bool false, .str ([]), .nils])]) = L at hA ⊢
            have g0 := hA.get (k := 0) rfl
            refine satO_step 1 [] ⟨an 2 (.int .i64 x5 :: .int .i64 x6 :: an 1 (.ptr (lv + 1) i12 0 :: an 6 (.sl 6 (a0.list.map GValue.el) false :: .int .i64 (a0.list.length : Int) :: .int .i64 x7 :: .bool (decide (x7 < (a0.list.length : Int))) :: .ref x8.cs 0 :: .agg x8.cs :: an 15 []))), ⟨lv + 1, (L.set i12 (some (.cells x8.cs))), E⟩, [], E⟩ [] (by simp -implicitDefEqProofs [GValue.cs, g0]) claims_nil ?_
            have hA : AccG (lv + 1) (L.set i12 (some (.cells x8.cs))) [] [(i12, .cells x8.cs)] := hA.upd (k := 0) rfl _
            generalize (L.set i12 (some (.cells x8.cs))) = L at hA ⊢
            refine satO_nil (by simp) ?_
            repeat refine sat_seq ?_
            refine satO_reg ?_
            obtain ⟨y13, q14, h⟩ := bnd_hi h
            have g0 := hA.get (k := 0) rfl
            refine satO_step 7 [(.tup [.int .i64 y13.1, .int .i64 y13.2], none)] ⟨an 2 (.int .i64 x5 :: .int .i64 x6 :: an 1 (.ptr (lv + 1) i12 0 :: .int .i64 y13.1 :: .int .i64 y13.2 :: an 4 (.sl 6 (a0.list.map GValue.el) false :: .int .i64 (a0.list.length : Int) :: .int .i64 x7 :: .bool (decide (x7 < (a0.list.length : Int))) :: .ref x8.cs 0 :: .agg x8.cs :: .tup [.int .i64 y13.1, .int .i64 y13.2] :: .agg x8.cs :: .tup [.int .i64 y13.1, .int .i64 y13.2] :: .int .i64 y13.1 :: .int .i64 y13.2 :: an 10 []))), ⟨lv + 1, L, E⟩, [], E⟩ [⟨55, [.agg x8.cs], ⟨lv + 1, L, E⟩, .tup [.int .i64 y13.1, .int .i64 y13.2], ⟨lv + 1, L, E⟩⟩] (by simp -implicitDefEqProofs [GValue.cs, g0]) (claims_cons (ih _ (by omega) _ _ q14 _) claims_nil) ?_
            refine satO_nil (by simp) ?_
            repeat refine sat_seq ?_
            refine satO_reg ?_
            have g0 := hA.get (k := 0) rfl
            refine satO_step 4 [] ⟨an 2 (.int .i64 (IntKind.i64.wrap (x5 + y13.1)) :: .int .i64 x6 :: an 1 (.ptr (lv + 1) i12 0 :: .int .i64 y13.1 :: .int .i64 y13.2 :: an 4 (.sl 6 (a0.list.map GValue.el) false :: .int .i64 (a0.list.length : Int) :: .int .i64 x7 :: .bool (decide (x7 < (a0.list.length : Int))) :: .ref x8.cs 0 :: .agg x8.cs :: .tup [.int .i64 y13.1, .int .i64 y13.2] :: .agg x8.cs :: .tup [.int .i64 y13.1, .int .i64 y13.2] :: .int .i64 y13.1 :: .int .i64 y13.2 :: .int .i64 x5 :: .int .i64 y13.1 :: .int .i64 (IntKind.i64.wrap (x5 + y13.1)) :: an 7 []))), ⟨lv + 1, L, E⟩, [], E⟩ [] (by simp -implicitDefEqProofs [GValue.cs, g0]) claims_nil ?_
            refine satO_nil (by simp) ?_
            repeat refine sat_seq ?_
            refine satO_reg ?_
            have g0 := hA.get (k := 0) rfl
            refine satO_step 5 [] ⟨an 2 (.int .i64 (IntKind.i64.wrap (x5 + y13.1)) :: .int .i64 (mxI x6 (IntKind.i64.wrap (y13.2 + 1))) :: an 1 (.ptr (lv + 1) i12 0 :: .int .i64 y13.1 :: .int .i64 y13.2 :: an 4 (.sl 6 (a0.list.map GValue.el) false :: .int .i64 (a0.list.length : Int) :: .int .i64 x7 :: .bool (decide (x7 < (a0.list.length : Int))) :: .ref x8.cs 0 :: .agg x8.cs :: .tup [.int .i64 y13.1, .int .i64 y13.2] :: .agg x8.cs :: .tup [.int .i64 y13.1, .int .i64 y13.2] :: .int .i64 y13.1 :: .int .i64 y13.2 :: .int .i64 x5 :: .int .i64 y13.1 :: .int .i64 (IntKind.i64.wrap (x5 + y13.1)) :: .int .i64 x6 :: .int .i64 y13.2 :: .int .i64 (IntKind.i64.wrap (y13.2 + 1)) :: .int .i64 (mxI x6 (IntKind.i64.wrap (y13.2 + 1))) :: an 3 []))), ⟨lv + 1, L, E⟩, [], E⟩ [] (by simp -implicitDefEqProofs [GValue.cs, g0]) claims_nil ?_
            refine satO_nil (by simp) ?_
            repeat refine sat_seq ?_
            refine satO_reg ?_
            have g0 := hA.get (k := 0) rfl
            refine satO_step 2 [] ⟨an 2 (.int .i64 (IntKind.i64.wrap (x5 + y13.1)) :: .int .i64 (mxI x6 (IntKind.i64.wrap (y13.2 + 1))) :: an 1 (.ptr (lv + 1) i12 0 :: .int .i64 y13.1 :: .int .i64 y13.2 :: an 4 (.sl 6 (a0.list.map GValue.el) false :: .int .i64 (a0.list.length : Int) :: .int .i64 (IntKind.i64.wrap (x7 + 1)) :: .bool (decide (x7 < (a0.list.length : Int))) :: .ref x8.cs 0 :: .agg x8.cs :: .tup [.int .i64 y13.1, .int .i64 y13.2] :: .agg x8.cs :: .tup [.int .i64 y13.1, .int .i64 y13.2] :: .int .i64 y13.1 :: .int .i64 y13.2 :: .int .i64 x5 :: .int .i64 y13.1 :: .int .i64 (IntKind.i64.wrap (x5 + y13.1)) :: .int .i64 x6 :: .int .i64 y13.2 :: .int .i64 (IntKind.i64.wrap (y13.2 + 1)) :: .int .i64 (mxI x6 (IntKind.i64.wrap (y13.2 + 1))) :: .int .i64 (IntKind.i64.wrap (x7 + 1)) :: an 2 []))), ⟨lv + 1, L, E⟩, [], E⟩ [] (by simp -implicitDefEqProofs [GValue.cs, g0]) claims_nil ?_
            refine satO_nil (by simp) ?_
            have hA : AccG (lv + 1) L [] [] := hA.sel [] (by simp) rfl (.cons _ .slnil)
            refine ⟨n, ⟨an 2 (.int .i64 (IntKind.i64.wrap (x5 + y13.1)) :: .int .i64 (mxI x6 (IntKind.i64.wrap (y13.2 + 1))) :: an 8 (.sl 6 (a0.list.map GValue.el) false :: .int .i64 (a0.list.length : Int) :: .int .i64 (IntKind.i64.wrap (x7 + 1)) :: an 18 [])), ⟨lv + 1, L, E⟩, [], E⟩, weak_tmps ?_, ⟨(IntKind.i64.wrap (x5 + y13.1)), (mxI x6 (IntKind.i64.wrap (y13.2 + 1))), (IntKind.i64.wrap (x7 + 1)), L, by omega, hA, h, rfl⟩, by omega⟩
            (try simp only [an, List.map_cons, List.map_nil]); repeat (first | exact VLeL.nil | refine VLeL.cons (by first | exact VLe.refl _ | exact VLe.any _ | exact VLe.nil _ _ | exact VLe.full _ _ | (refine VLe.agg' ?_; repeat (first | exact VLeL.nil | refine VLeL.cons (by first | exact VLe.refl _ | exact VLe.any _ | exact VLe.nil _ _) ?_))) ?_)
          · have h := ite_f hb h
            repeat refine sat_seq ?_
            refine sat_exit ?_
            refine ⟨⟨an 2 (.int .i64 x5 :: .int .i64 x6 :: an 29 []), ⟨lv + 1, L, E⟩, [], E⟩, weak_tmps ?_, n, by omega, x5, x6, L, hA, h, rfl⟩
            (try simp only [an, List.map_cons, List.map_nil]); repeat (first | exact VLeL.nil | refine VLeL.cons (by first | exact VLe.refl _ | exact VLe.any _ | exact VLe.nil _ _ | exact VLe.full _ _ | (refine VLe.agg' ?_; repeat (first | exact VLeL.nil | refine VLeL.cons (by first | exact VLe.refl _ | exact VLe.any _ | exact VLe.nil _ _) ?_))) ?_)
    · have h := ite_f hb h
      repeat refine sat_seq ?_
      refine sat_skip ?_
      have hA : AccG (lv + 1) L [] [] := hA.sel [] (by simp) rfl (.cons _ .slnil)
      refine ⟨⟨an 2 (.int .i64 1 :: .int .i64 1 :: an 29 []), ⟨lv + 1, L, E⟩, [], E⟩, weak_tmps ?_, n, by omega, 1, 1, L, hA, h, rfl⟩
      (try simp only [an, List.map_cons, List.map_nil]); repeat (first | exact VLeL.nil | refine VLeL.cons (by first | exact VLe.refl _ | exact VLe.any _ | exact VLe.nil _ _ | exact VLe.full _ _ | (refine VLe.agg' ?_; repeat (first | exact VLeL.nil | refine VLeL.cons (by first | exact VLe.refl _ | exact VLe.any _ | exact VLe.nil _ _) ?_))) ?_)
  · rintro σ0 σ hw ⟨k, hk, x3, x4, L, hA, h, rfl⟩
    rcases k with _ | n
    · simp [go_value_measure_J1] at h
    · rw [go_value_measure_J1] at h
      refine sat_weak hw ?_
      repeat refine sat_seq ?_
      refine satO_reg ?_
      refine satO_step 4 [] ⟨an 2 (.int .i64 x3 :: .int .i64 x4 :: an 27 (.int .i64 x3 :: .int .i64 x4 :: [])), ⟨lv + 1, L, E⟩, [], E⟩ [] (by simp -implicitDefEqProofs [GValue.cs]) claims_nil ?_
      refine satO_nil (by simp) ?_
      repeat refine sat_seq ?_
      refine sat_ret ?_
      refine ends (v := .tup [.int .i64 x3, .int .i64 x4]) (by simp [resultsV, resL, resV, tupOf, Try.f55, pLoad, GValue.cs]) rfl rfl ?_
      injection h with h
      subst h
      exact .keep _ (by simp [V.kin, V.kinL, GValue.cs])
end Go.Proofs

namespace Go.Proofs
open Go Go.Ab
set_option maxRecDepth 10000
set_option maxHeartbeats 1000000
set_option linter.unusedSimpArgs false
set_option linter.unusedVariables false
theorem go_ratio_size_ok (n : Nat) (a0 : Int) (r : Int) (h : go_ratio_size n a0 = some r) : PCall Try.prog 116 [.int .i64 a0] (.int .u64 r) := by
  rw [go_ratio_size] at h
  refine pcall_of Try.func116 rfl Try.ntmps116 (fun _ _ => Try.call116 _ _) fun lv E => ?_
  simp only [List.length_cons, List.length_nil, Nat.reduceAdd, Nat.reduceSub, List.replicate, List.cons_append, List.nil_append]
  have hA := AccG.nil (lv + 1)
  generalize ([] : List (Option AObj)) = L at hA ⊢
  repeat refine sat_seq ?_
  refine satO_reg ?_
  refine satO_step 1 [] ⟨.int .i64 a0 :: an 1 (.int .u64 0 :: an 7 []), ⟨lv + 1, L, E⟩, [], E⟩ [] (by simp -implicitDefEqProofs []) claims_nil ?_
  refine satO_nil (by simp) ?_
  repeat refine sat_seq ?_
  refine satO_reg ?_
  refine satO_step 2 [] ⟨.int .i64 a0 :: an 1 (.int .u64 0 :: .int .i64 a0 :: .bool (decide (a0 < 0)) :: an 5 []), ⟨lv + 1, L, E⟩, [], E⟩ [] (by simp -implicitDefEqProofs []) claims_nil ?_
  refine satO_nil (by simp) ?_
  repeat refine sat_seq ?_
  refine sat_cond rfl (fun hb => ?_) (fun hb => ?_)
  · have h := ite_t hb h
    repeat refine sat_seq ?_
    refine satO_reg ?_
    refine satO_step 4 [] ⟨.int .i64 a0 :: an 1 (.int .u64 (IntKind.u64.wrap (0 - (IntKind.u64.wrap a0))) :: .int .i64 a0 :: .bool (decide (a0 < 0)) :: .int .i64 a0 :: .int .u64 (IntKind.u64.wrap a0) :: .int .u64 (IntKind.u64.wrap (0 - (IntKind.u64.wrap a0))) :: an 2 []), ⟨lv + 1, L, E⟩, [], E⟩ [] (by simp -implicitDefEqProofs []) claims_nil ?_
    refine satO_nil (by simp) ?_
    repeat refine sat_seq ?_
    refine sat_ret ?_
    refine ends (v := .int .u64 (IntKind.u64.wrap (0 - (IntKind.u64.wrap a0)))) (by simp [resultsV, resL, resV, tupOf, Try.f116, pLoad]) rfl rfl ?_
    injection h with h
    subst h
    exact (.keep _ (by simp [V.kin, V.kinL]))
  · have h := ite_f hb h
    repeat refine sat_seq ?_
    refine sat_skip ?_
    repeat refine sat_seq ?_
    refine satO_reg ?_
    refine satO_step 3 [] ⟨.int .i64 a0 :: an 1 (.int .u64 (IntKind.u64.wrap a0) :: .int .i64 a0 :: .bool (decide (a0 < 0)) :: an 3 (.int .i64 a0 :: .int .u64 (IntKind.u64.wrap a0) :: [])), ⟨lv + 1, L, E⟩, [], E⟩ [] (by simp -implicitDefEqProofs []) claims_nil ?_
    refine satO_nil (by simp) ?_
    repeat refine sat_seq ?_
    refine sat_ret ?_
    refine ends (v := .int .u64 (IntKind.u64.wrap a0)) (by simp [resultsV, resL, resV, tupOf, Try.f116, pLoad]) rfl rfl ?_
    injection h with h
    subst h
    exact (.keep _ (by simp [V.kin, V.kinL]))
end Go.Proofs

namespace Go.Proofs
open Go Go.Ab
set_option maxRecDepth 10000
set_option maxHeartbeats 1000000
set_option linter.unusedSimpArgs false
set_option linter.unusedVariables false
theorem go_ratio_gcd_ok (n : Nat) (a0 : Int) (a1 : Int) (r : Int) (h : go_ratio_gcd n a0 a1 = some r) : PCall Try.prog 117 [.int .u64 a0, .int .u64 a1] (.int .u64 r) := by
  rcases n with _ | n
  · simp [go_ratio_gcd] at h
  rw [go_ratio_gcd] at h
  refine pcall_of Try.func117 rfl Try.ntmps117 (fun _ _ => Try.call117 _ _) fun lv E => ?_
  simp only [List.length_cons, List.length_nil, Nat.reduceAdd, Nat.reduceSub, List.replicate, List.cons_append, List.nil_append]
  have hA := AccG.nil (lv + 1)
  generalize ([] : List (Option AObj)) = L at hA ⊢
  repeat refine sat_seq ?_
  refine satO_reg ?_
  refine satO_step 1 [] ⟨.int .u64 a0 :: .int .u64 a1 :: an 2 (.int .u64 0 :: an 7 []), ⟨lv + 1, L, E⟩, [], E⟩ [] (by simp -implicitDefEqProofs []) claims_nil ?_
  refine satO_nil (by simp) ?_
  repeat refine sat_seq ?_
  refine sat_block ?_
  repeat refine sat_seq ?_
  refine sat_loop (fun k σ => ∃ (x1 : Int) (x2 : Int) (L : List (Option AObj)), k ≤ n ∧ AccG (lv + 1) L [] [] ∧ go_ratio_gcd_L1 k x1 x2 = some r ∧ σ = ⟨.int .u64 x1 :: .int .u64 x2 :: an 10 [], ⟨lv + 1, L, E⟩, [], E⟩) n ⟨.int .u64 a0 :: .int .u64 a1 :: an 10 [], ⟨lv + 1, L, E⟩, [], E⟩ (weak_tmps ?_) ⟨a0, a1, L, Nat.le_refl _, hA, h, rfl⟩ ?_
  · (try simp only [an, List.map_cons, List.map_nil]); repeat (first | exact VLeL.nil | refine VLeL.cons (by first | exact VLe.refl _ | exact VLe.any _ | exact VLe.nil _ _ | exact VLe.full _ _ | (refine VLe.agg' ?_; repeat (first | exact VLeL.nil | refine VLeL.cons (by first | exact VLe.refl _ | exact VLe.any _ | exact VLe.nil _ _) ?_))) ?_)
  · rintro k σ ⟨x1, x2, L, hk, hA, h, rfl⟩
    rcases k with _ | n
    · simp [go_ratio_gcd_L1] at h
    · rw [go_ratio_gcd_L1] at h
      repeat refine sat_seq ?_
      refine satO_reg ?_
      refine satO_step 2 [] ⟨.int .u64 x1 :: .int .u64 x2 :: an 3 (.int .u64 x2 :: .bool (!(x2 == 0)) :: an 5 []), ⟨lv + 1, L, E⟩, [], E⟩ [] (by simp -implicitDefEqProofs []) claims_nil ?_
      refine satO_nil (by simp) ?_
      repeat refine sat_seq ?_
      refine sat_cond rfl (fun hb => ?_) (fun hb => ?_)
      · have h := ite_t hb h
        repeat refine sat_seq ?_
        refine sat_skip ?_
        repeat refine sat_seq ?_
        refine sat_block ?_
        repeat refine sat_seq ?_
        obtain ⟨x3, q4, h⟩ := bnd_hi h
        obtain ⟨q4, q5⟩ := rem_some q4
        refine satO_drw (by kernel_rfl) (by kernel_rfl) [] ⟨.int .u64 x2 :: .int .u64 x3 :: an 3 (.int .u64 x2 :: .bool (!(x2 == 0)) :: .int .u64 x2 :: .int .u64 x1 :: .int .u64 x2 :: .int .u64 x3 :: an 1 []), ⟨lv + 1, L, E⟩, [], E⟩ [] (by simp -implicitDefEqProofs [q4, q5]) claims_nil ?_
        refine ⟨n, ⟨.int .u64 x2 :: .int .u64 x3 :: an 10 [], ⟨lv + 1, L, E⟩, [], E⟩, weak_tmps ?_, ⟨x2, x3, L, by omega, hA, h, rfl⟩, by omega⟩
        (try simp only [an, List.map_cons, List.map_nil]); repeat (first | exact VLeL.nil | refine VLeL.cons (by first | exact VLe.refl _ | exact VLe.any _ | exact VLe.nil _ _ | exact VLe.full _ _ | (refine VLe.agg' ?_; repeat (first | exact VLeL.nil | refine VLeL.cons (by first | exact VLe.refl _ | exact VLe.any _ | exact VLe.nil _ _) ?_))) ?_)
      · have h := ite_f hb h
        repeat refine sat_seq ?_
        refine sat_exit ?_
        repeat refine sat_seq ?_
        refine satO_reg ?_
        refine satO_step 2 [] ⟨.int .u64 x1 :: .int .u64 x2 :: an 2 (.int .u64 x1 :: .int .u64 x2 :: .bool (!(x2 == 0)) :: an 4 (.int .u64 x1 :: [])), ⟨lv + 1, L, E⟩, [], E⟩ [] (by simp -implicitDefEqProofs []) claims_nil ?_
        refine satO_nil (by simp) ?_
        repeat refine sat_seq ?_
        refine sat_ret ?_
        refine ends (v := .int .u64 x1) (by simp [resultsV, resL, resV, tupOf, Try.f117, pLoad]) rfl rfl ?_
        injection h with h
        subst h
        exact (.keep _ (by simp [V.kin, V.kinL]))
end Go.Proofs

namespace Go.Proofs
open Go Go.Ab
set_option maxRecDepth 10000
set_option maxHeartbeats 1000000
set_option linter.unusedSimpArgs false
set_option linter.unusedVariables false
theorem go_ratio_Check_ok (n : Nat) (a0 : GRatio) (r : Int) (h : go_ratio_Check n a0 = some r) : PCall Try.prog 83 [.agg a0.cs] (.int .i64 r) := by
  rw [go_ratio_Check] at h
  refine pcall_of Try.func83 rfl Try.ntmps83 (fun _ _ => Try.call83 _ _) fun lv E => ?_
  simp only [List.length_cons, List.length_nil, Nat.reduceAdd, Nat.reduceSub, List.replicate, List.cons_append, List.nil_append]
  have hA := AccG.nil (lv + 1)
  generalize ([] : List (Option AObj)) = L at hA ⊢
  repeat refine sat_seq ?_
  refine satO_reg ?_
  refine satO_step 1 [] ⟨.agg a0.cs :: .ptr (lv + 1) L.length 0 :: an 25 [], ⟨lv + 1, (L ++ [some (.cells a0.cs)]), E⟩, [], E⟩ [] (by simp -implicitDefEqProofs [GRatio.cs]) claims_nil ?_
  have hA : AccG (lv + 1) (L ++ [some (.cells a0.cs)]) [] [(L.length, .cells a0.cs)] := hA.obj _
  generalize L.length = i2 at hA ⊢
  generalize (L ++ [some (.cells a0.cs)]) = L at hA ⊢
  have g0 := hA.get (k := 0) rfl
  refine satO_step 1 [] ⟨.agg a0.cs :: .ptr (lv + 1) i2 0 :: .int .i64 0 :: an 24 [], ⟨lv + 1, L, E⟩, [], E⟩ [] (by simp -implicitDefEqProofs [GRatio.cs, g0]) claims_nil ?_
  refine satO_nil (by simp) ?_
  repeat refine sat_seq ?_
  refine sat_meet (fun σ => ∃ (x3 : Bool) (L : List (Option AObj)), AccG (lv + 1) L [] [] ∧ go_ratio_Check_J1 n x3 = some r ∧ σ = ⟨an 26 (.bool x3 :: []), ⟨lv + 1, L, E⟩, [], E⟩) ?_ ?_
  · rcases Bool.eq_false_or_eq_true (decide (a0.den < 1)) with hg4 | hg5
    · have h := ite_t hg4 h
      have hg4n := hg4
      try simp at hg4n
      have g0 := hA.get (k := 0) rfl
      refine satO_drw (by kernel_rfl) (by kernel_rfl) [] ⟨.agg a0.cs :: .ptr (lv + 1) i2 0 :: .int .i64 0 :: .ptr (lv + 1) i2 1 :: .int .i64 a0.den :: .bool (decide (a0.den < 1)) :: .bool (decide (a0.den < 1)) :: .tup [] :: .tup [] :: .tup [] :: .bool true :: .bool true :: .tup [] :: .tup [] :: .tup [] :: .tup [] :: .bool true :: .bool true :: .tup [] :: .tup [] :: .tup [] :: .tup [] :: .tup [] :: .tup [] :: .tup [] :: .tup [] :: .bool true :: [], ⟨lv + 1, L, E⟩, [], E⟩ [] (by first | (simp -implicitDefEqProofs [GRatio.cs, g0, hg4]; done) | simp -implicitDefEqProofs [GRatio.cs, g0, hg4, hg4n]) claims_nil ?_
      have hA : AccG (lv + 1) L [] [] := hA.sel [] (by simp) rfl (.cons _ .slnil)
      refine ⟨⟨an 26 (.bool true :: []), ⟨lv + 1, L, E⟩, [], E⟩, weak_tmps ?_, true, L, hA, h, rfl⟩
      (try simp only [an, List.map_cons, List.map_nil]); repeat (first | exact VLeL.nil | refine VLeL.cons (by first | exact VLe.refl _ | exact VLe.any _ | exact VLe.nil _ _ | exact VLe.full _ _ | (refine VLe.agg' ?_; repeat (first | exact VLeL.nil | refine VLeL.cons (by first | exact VLe.refl _ | exact VLe.any _ | exact VLe.nil _ _) ?_))) ?_)
    · have h := ite_f hg5 h
      have hg5n := hg5
      try simp at hg5n
      rcases Bool.eq_false_or_eq_true (decide (1000000000 < a0.den)) with hg6 | hg7
      · have h := ite_t hg6 h
        have hg6n := hg6
        try simp at hg6n
        have g0 := hA.get (k := 0) rfl
        refine satO_drw (by kernel_rfl) (by kernel_rfl) [] ⟨.agg a0.cs :: .ptr (lv + 1) i2 0 :: .int .i64 0 :: .ptr (lv + 1) i2 1 :: .int .i64 a0.den :: .bool (decide (a0.den < 1)) :: .bool (decide (a0.den < 1)) :: .ptr (lv + 1) i2 1 :: .int .i64 a0.den :: .bool (decide (1000000000 < a0.den)) :: .bool (decide (1000000000 < a0.den)) :: .bool (decide (1000000000 < a0.den)) :: .tup [] :: .tup [] :: .tup [] :: .tup [] :: .bool true :: .bool true :: .tup [] :: .tup [] :: .tup [] :: .tup [] :: .tup [] :: .tup [] :: .tup [] :: .tup [] :: .bool true :: [], ⟨lv + 1, L, E⟩, [], E⟩ [] (by first | (simp -implicitDefEqProofs [GRatio.cs, g0, hg5, hg6]; done) | simp -implicitDefEqProofs [GRatio.cs, g0, hg5, hg6, hg5n, hg6n]) claims_nil ?_
        have hA : AccG (lv + 1) L [] [] := hA.sel [] (by simp) rfl (.cons _ .slnil)
        refine ⟨⟨an 26 (.bool true :: []), ⟨lv + 1, L, E⟩, [], E⟩, weak_tmps ?_, true, L, hA, h, rfl⟩
        (try simp only [an, List.map_cons, List.map_nil]); repeat (first | exact VLeL.nil | refine VLeL.cons (by first | exact VLe.refl _ | exact VLe.any _ | exact VLe.nil _ _ | exact VLe.full _ _ | (refine VLe.agg' ?_; repeat (first | exact VLeL.nil | refine VLeL.cons (by first | exact VLe.refl _ | exact VLe.any _ | exact VLe.nil _ _) ?_))) ?_)
      · have h := ite_f hg7 h
        have hg7n := hg7
        try simp at hg7n
        obtain ⟨y8, q9, h⟩ := bnd_hi h
        rcases Bool.eq_false_or_eq_true (decide (1000000000 < y8)) with hg10 | hg11
        · have h := ite_t hg10 h
          have hg10n := hg10
          try simp at hg10n
          have g0 := hA.get (k := 0) rfl
          refine satO_drw (by kernel_rfl) (by kernel_rfl) [.int .u64 y8] ⟨.agg a0.cs :: .ptr (lv + 1) i2 0 :: .int .i64 0 :: .ptr (lv + 1) i2 1 :: .int .i64 a0.den :: .bool (decide (a0.den < 1)) :: .bool (decide (a0.den < 1)) :: .ptr (lv + 1) i2 1 :: .int .i64 a0.den :: .bool (decide (1000000000 < a0.den)) :: .bool (decide (1000000000 < a0.den)) :: .bool (decide (1000000000 < a0.den)) :: .ptr (lv + 1) i2 0 :: .int .i64 a0.num :: .int .u64 y8 :: .bool (decide (1000000000 < y8)) :: .bool (decide (1000000000 < y8)) :: .bool (decide (1000000000 < y8)) :: .tup [] :: .tup [] :: .tup [] :: .tup [] :: .tup [] :: .tup [] :: .tup [] :: .tup [] :: .bool true :: [], ⟨lv + 1, L, E⟩, [], E⟩ [⟨116, [.int .i64 a0.num], ⟨lv + 1, L, E⟩, .int .u64 y8, ⟨lv + 1, L, E⟩⟩] (by first | (simp -implicitDefEqProofs [GRatio.cs, g0, hg5, hg7, hg10]; done) | simp -implicitDefEqProofs [GRatio.cs, g0, hg5, hg7, hg10, hg5n, hg7n, hg10n]) (claims_cons (go_ratio_size_ok _ _ _ q9 _) claims_nil) ?_
          have hA : AccG (lv + 1) L [] [] := hA.sel [] (by simp) rfl (.cons _ .slnil)
          refine ⟨⟨an 26 (.bool true :: []), ⟨lv + 1, L, E⟩, [], E⟩, weak_tmps ?_, true, L, hA, h, rfl⟩
          (try simp only [an, List.map_cons, List.map_nil]); repeat (first | exact VLeL.nil | refine VLeL.cons (by first | exact VLe.refl _ | exact VLe.any _ | exact VLe.nil _ _ | exact VLe.full _ _ | (refine VLe.agg' ?_; repeat (first | exact VLeL.nil | refine VLeL.cons (by first | exact VLe.refl _ | exact VLe.any _ | exact VLe.nil _ _) ?_))) ?_)
        · have h := ite_f hg11 h
          have hg11n := hg11
          try simp at hg11n
          obtain ⟨y12, q13, h⟩ := bnd_hi h
          obtain ⟨y14, q15, h⟩ := bnd_hi h
          have g0 := hA.get (k := 0) rfl
          refine satO_drw (by kernel_rfl) (by kernel_rfl) [.int .u64 y8, .int .u64 y12, .int .u64 y14] ⟨.agg a0.cs :: .ptr (lv + 1) i2 0 :: .int .i64 0 :: .ptr (lv + 1) i2 1 :: .int .i64 a0.den :: .bool (decide (a0.den < 1)) :: .bool (decide (a0.den < 1)) :: .ptr (lv + 1) i2 1 :: .int .i64 a0.den :: .bool (decide (1000000000 < a0.den)) :: .bool (decide (1000000000 < a0.den)) :: .bool (decide (1000000000 < a0.den)) :: .ptr (lv + 1) i2 0 :: .int .i64 a0.num :: .int .u64 y8 :: .bool (decide (1000000000 < y8)) :: .bool (decide (1000000000 < y8)) :: .bool (decide (1000000000 < y8)) :: .ptr (lv + 1) i2 0 :: .int .i64 a0.num :: .int .u64 y12 :: .ptr (lv + 1) i2 1 :: .int .i64 a0.den :: .int .u64 (IntKind.u64.wrap a0.den) :: .int .u64 y14 :: .bool (!(y14 == 1)) :: .bool (!(y14 == 1)) :: [], ⟨lv + 1, L, E⟩, [], E⟩ [⟨116, [.int .i64 a0.num], ⟨lv + 1, L, E⟩, .int .u64 y8, ⟨lv + 1, L, E⟩⟩, ⟨116, [.int .i64 a0.num], ⟨lv + 1, L, E⟩, .int .u64 y12, ⟨lv + 1, L, E⟩⟩, ⟨117, [.int .u64 y12, .int .u64 (IntKind.u64.wrap a0.den)], ⟨lv + 1, L, E⟩, .int .u64 y14, ⟨lv + 1, L, E⟩⟩] (by first | (simp -implicitDefEqProofs [GRatio.cs, g0, hg5, hg7, hg11]; done) | simp -implicitDefEqProofs [GRatio.cs, g0, hg5, hg7, hg11, hg5n, hg7n, hg11n]) (claims_cons (go_ratio_size_ok _ _ _ q9 _) (claims_cons (go_ratio_size_ok _ _ _ q13 _) (claims_cons (go_ratio_gcd_ok _ _ _ _ q15 _) claims_nil))) ?_
          have hA : AccG (lv + 1) L [] [] := hA.sel [] (by simp) rfl (.cons _ .slnil)
          refine ⟨⟨an 26 (.bool (!(y14 == 1)) :: []), ⟨lv + 1, L, E⟩, [], E⟩, weak_tmps ?_, (!(y14 == 1)), L, hA, h, rfl⟩
          (try simp only [an, List.map_cons, List.map_nil]); repeat (first | exact VLeL.nil | refine VLeL.cons (by first | exact VLe.refl _ | exact VLe.any _ | exact VLe.nil _ _ | exact VLe.full _ _ | (refine VLe.agg' ?_; repeat (first | exact VLeL.nil | refine VLeL.cons (by first | exact VLe.refl _ | exact VLe.any _ | exact VLe.nil _ _) ?_))) ?_)
  · rintro σ0 σ hw ⟨x3, L, hA, h, rfl⟩
    rw [go_ratio_Check_J1] at h
    refine sat_weak hw ?_
    repeat refine sat_seq ?_
    refine sat_cond rfl (fun hb => ?_) (fun hb => ?_)
    · have h := ite_t hb h
      repeat refine sat_seq ?_
      refine satO_reg ?_
      refine satO_step 1 [] ⟨an 2 (.int .i64 8 :: an 23 (.bool x3 :: [])), ⟨lv + 1, L, E⟩, [], E⟩ [] (by simp -implicitDefEqProofs [GRatio.cs]) claims_nil ?_
      refine satO_nil (by simp) ?_
      repeat refine sat_seq ?_
      refine sat_ret ?_
      refine ends (v := .int .i64 8) (by simp [resultsV, resL, resV, tupOf, Try.f83, pLoad, GRatio.cs]) rfl rfl ?_
      injection h with h
      subst h
      exact (.keep _ (by simp [V.kin, V.kinL, GRatio.cs]))
    · have h := ite_f hb h
      repeat refine sat_seq ?_
      refine sat_skip ?_
      repeat refine sat_seq ?_
      refine satO_reg ?_
      refine satO_step 1 [] ⟨an 2 (.int .i64 0 :: an 23 (.bool x3 :: [])), ⟨lv + 1, L, E⟩, [], E⟩ [] (by simp -implicitDefEqProofs [GRatio.cs]) claims_nil ?_
      refine satO_nil (by simp) ?_
      repeat refine sat_seq ?_
      refine sat_ret ?_
      refine ends (v := .int .i64 0) (by simp [resultsV, resL, resV, tupOf, Try.f83, pLoad, GRatio.cs]) rfl rfl ?_
      injection h with h
      subst h
      exact (.keep _ (by simp [V.kin, V.kinL, GRatio.cs]))
end Go.Proofs

namespace Go.Proofs
open Go Go.Ab
set_option maxRecDepth 10000
set_option maxHeartbeats 1000000
set_option linter.unusedSimpArgs false
set_option linter.unusedVariables false
theorem go_value_fine_ok : ∀ n : Nat, (∀ (a0 : GValue) (r : Bool), go_value_fine n a0 = some r → PCall Try.prog 56 [.agg a0.cs] (.bool r)) := by
  intro n; induction n using Nat.strongRecOn with | ind n ih =>
  intro a0 r h
  rcases n with _ | n
  · simp [go_value_fine] at h
  rw [go_value_fine] at h
  refine pcall_of Try.func56 rfl Try.ntmps56 (fun _ _ => Try.call56 _ _) fun lv E => ?_
  simp only [List.length_cons, List.length_nil, Nat.reduceAdd, Nat.reduceSub, List.replicate, List.cons_append, List.nil_append]
  have hA := AccG.nil (lv + 1)
  generalize ([] : List (Option AObj)) = L at hA ⊢
  repeat refine sat_seq ?_
  refine satO_reg ?_
  refine satO_step 1 [] ⟨.agg a0.cs :: .ptr (lv + 1) L.length 0 :: an 79 [], ⟨lv + 1, (L ++ [some (.cells a0.cs)]), E⟩, [], E⟩ [] (by simp -implicitDefEqProofs [GValue.cs]) claims_nil ?_
  have hA : AccG (lv + 1) (L ++ [some (.cells a0.cs)]) [] [(L.length, .cells a0.cs)] := hA.obj _
  generalize L.length = i2 at hA ⊢
  generalize (L ++ [some (.cells a0.cs)]) = L at hA ⊢
  have g0 := hA.get (k := 0) rfl
  refine satO_step 1 [] ⟨.agg a0.cs :: .ptr (lv + 1) i2 0 :: .bool false :: an 78 [], ⟨lv + 1, L, E⟩, [], E⟩ [] (by simp -implicitDefEqProofs [GValue.cs, g0]) claims_nil ?_
  refine satO_nil (by simp) ?_
  repeat refine sat_seq ?_
  refine satO_reg ?_
  have g0 := hA.get (k := 0) rfl
  refine satO_step 1 [] ⟨.agg a0.cs :: .ptr (lv + 1) i2 0 :: .bool false :: an 4 (.agg a0.cs :: an 73 []), ⟨lv + 1, L, E⟩, [], E⟩ [] (by simp -implicitDefEqProofs [GValue.cs, g0]) claims_nil ?_
  refine satO_step 1 [] ⟨.agg a0.cs :: .ptr (lv + 1) i2 0 :: .bool false :: .ptr (lv + 1) L.length 0 :: an 3 (.agg a0.cs :: an 73 []), ⟨lv + 1, (L ++ [some (.cells [.int .u8 0, .int .i64 0, .int .i64 0, .bool false, .str ([]), .nils])]), E⟩, [], E⟩ [] (by simp -implicitDefEqProofs [GValue.cs]) claims_nil ?_
  have hA : AccG (lv + 1) (L ++ [some (.cells [.int .u8 0, .int .i64 0, .int .i64 0, .bool false, .str ([]), .nils])]) [] [(L.length, .cells [.int .u8 0, .int .i64 0, .int .i64 0, .bool false, .str ([]), .nils]), (i2, .cells a0.cs)] := hA.obj _
  generalize L.length = i4 at hA ⊢
  generalize (L ++ [some (.cells [.int .u8 0, .int .i64 0, .int .i64 0, .bool false, .str ([]), .nils])]) = L at hA ⊢
  have g0 := hA.get (k := 0) rfl
  have g1 := hA.get (k := 1) rfl
  refine satO_step 1 [] ⟨.agg a0.cs :: .ptr (lv + 1) i2 0 :: .bool false :: .ptr (lv + 1) i4 0 :: an 3 (.agg a0.cs :: an 73 []), ⟨lv + 1, (L.set i4 (some (.cells a0.cs))), E⟩, [], E⟩ [] (by simp -implicitDefEqProofs [GValue.cs, g0, g1]) claims_nil ?_
  have hA : AccG (lv + 1) (L.set i4 (some (.cells a0.cs))) [] [(i4, .cells a0.cs), (i2, .cells a0.cs)] := hA.upd (k := 0) rfl _
  generalize (L.set i4 (some (.cells a0.cs))) = L at hA ⊢
  refine satO_nil (by simp) ?_
  repeat refine sat_seq ?_
  refine satO_reg ?_
  have g0 := hA.get (k := 0) rfl
  have g1 := hA.get (k := 1) rfl
  refine satO_step 2 [] ⟨.agg a0.cs :: .ptr (lv + 1) i2 0 :: .bool false :: .ptr (lv + 1) i4 0 :: an 3 (.agg a0.cs :: .ptr (lv + 1) i2 0 :: .int .u8 a0.kind :: an 71 []), ⟨lv + 1, L, E⟩, [], E⟩ [] (by simp -implicitDefEqProofs [GValue.cs, g0, g1]) claims_nil ?_
  refine satO_nil (by simp) ?_
  repeat refine sat_seq ?_
  refine sat_block ?_
  repeat refine sat_seq ?_
  refine satO_reg ?_
  have g0 := hA.get (k := 0) rfl
  have g1 := hA.get (k := 1) rfl
  refine satO_step 2 [] ⟨.agg a0.cs :: .ptr (lv + 1) i2 0 :: .bool false :: .ptr (lv + 1) i4 0 :: an 3 (.agg a0.cs :: .ptr (lv + 1) i2 0 :: .int .u8 a0.kind :: .bool (a0.kind == 1) :: .bool (a0.kind == 1) :: an 69 []), ⟨lv + 1, L, E⟩, [], E⟩ [] (by simp -implicitDefEqProofs [GValue.cs, g0, g1]) claims_nil ?_
  refine satO_nil (by simp) ?_
  repeat refine sat_seq ?_
  refine sat_meet (fun σ => ∃ (k : Nat), k ≤ n ∧ ∃ (x5 : Int) (x6 : Int) (x7 : Bool) (x8 : List UInt8) (x9 : List GValue) (L : List (Option AObj)), AccG (lv + 1) L [] [(i4, .cells [.int .u8 a0.kind, .int .i64 x5, .int .i64 x6, .bool x7, .str x8, .sl 6 (x9.map GValue.el) false])] ∧ go_value_fine_J1 k a0 x5 x6 x7 x8 x9 = some r ∧ σ = ⟨an 3 (.ptr (lv + 1) i4 0 :: an 77 []), ⟨lv + 1, L, E⟩, [], E⟩) ?_ ?_
  · refine sat_cond rfl (fun hb => ?_) (fun hb => ?_)
    · have h := ite_t hb h
      repeat refine sat_seq ?_
      refine satO_reg ?_
      have g0 := hA.get (k := 0) rfl
      have g1 := hA.get (k := 1) rfl
      refine satO_step 2 [] ⟨.agg a0.cs :: .ptr (lv + 1) i2 0 :: .bool false :: .ptr (lv + 1) i4 0 :: an 3 (.agg a0.cs :: .ptr (lv + 1) i2 0 :: .int .u8 a0.kind :: .bool (a0.kind == 1) :: .bool (a0.kind == 1) :: .agg [.int .i64 0, .int .i64 0] :: .ptr (lv + 1) i4 1 :: an 67 []), ⟨lv + 1, L, E⟩, [], E⟩ [] (by simp -implicitDefEqProofs [GValue.cs, g0, g1]) claims_nil ?_
      have g0 := hA.get (k := 0) rfl
      have g1 := hA.get (k := 1) rfl
      refine satO_step 1 [] ⟨.agg a0.cs :: .ptr (lv + 1) i2 0 :: .bool false :: .ptr (lv + 1) i4 0 :: an 3 (.agg a0.cs :: .ptr (lv + 1) i2 0 :: .int .u8 a0.kind :: .bool (a0.kind == 1) :: .bool (a0.kind == 1) :: .agg [.int .i64 0, .int .i64 0] :: .ptr (lv + 1) i4 1 :: an 67 []), ⟨lv + 1, (L.set i4 (some (.cells [.int .u8 a0.kind, .int .i64 0, .int .i64 0, .bool a0.truth, .str a0.str, .sl 6 (a0.list.map GValue.el) false]))), E⟩, [], E⟩ [] (by simp -implicitDefEqProofs [GValue.cs, g0, g1]) claims_nil ?_
      have hA : AccG (lv + 1) (L.set i4 (some (.cells [.int .u8 a0.kind, .int .i64 0, .int .i64 0, .bool a0.truth, .str a0.str, .sl 6 (a0.list.map GValue.el) false]))) [] [(i4, .cells [.int .u8 a0.kind, .int .i64 0, .int .i64 0, .bool a0.truth, .str a0.str, .sl 6 (a0.list.map GValue.el) false]), (i2, .cells a0.cs)] := hA.upd (k := 0) rfl _
      generalize (L.set i4 (some (.cells [.int .u8 a0.kind, .int .i64 0, .int .i64 0, .bool a0.truth, .str a0.str, .sl 6 (a0.list.map GValue.el) false]))) = L at hA ⊢
      refine satO_nil (by simp) ?_
      repeat refine sat_seq ?_
      refine satO_reg ?_
      obtain ⟨y10, q11, h⟩ := bnd_hi h
      have g0 := hA.get (k := 0) rfl
      have g1 := hA.get (k := 1) rfl
      refine satO_step 4 [(.int .i64 y10, none)] ⟨.agg a0.cs :: .ptr (lv + 1) i2 0 :: .bool false :: .ptr (lv + 1) i4 0 :: an 3 (.agg a0.cs :: .ptr (lv + 1) i2 0 :: .int .u8 a0.kind :: .bool (a0.kind == 1) :: .bool (a0.kind == 1) :: .agg [.int .i64 0, .int .i64 0] :: .ptr (lv + 1) i4 1 :: .ptr (lv + 1) i2 1 :: .agg [.int .i64 a0.num.num, .int .i64 a0.num.den] :: .int .i64 y10 :: .bool (!(y10 == 0)) :: an 63 []), ⟨lv + 1, L, E⟩, [], E⟩ [⟨83, [.agg [.int .i64 a0.num.num, .int .i64 a0.num.den]], ⟨lv + 1, L, E⟩, .int .i64 y10, ⟨lv + 1, L, E⟩⟩] (by simp -implicitDefEqProofs [GValue.cs, g0, g1]) (claims_cons (go_ratio_Check_ok _ _ _ q11 _) claims_nil) ?_
      refine satO_nil (by simp) ?_
      repeat refine sat_seq ?_
      refine sat_cond rfl (fun hb => ?_) (fun hb => ?_)
      · have h := ite_t hb h
        repeat refine sat_seq ?_
        refine satO_reg ?_
        have g0 := hA.get (k := 0) rfl
        have g1 := hA.get (k := 1) rfl
        refine satO_step 1 [] ⟨.agg a0.cs :: .ptr (lv + 1) i2 0 :: .bool false :: .ptr (lv + 1) i4 0 :: an 3 (.agg a0.cs :: .ptr (lv + 1) i2 0 :: .int .u8 a0.kind :: .bool (a0.kind == 1) :: .bool (a0.kind == 1) :: .agg [.int .i64 0, .int .i64 0] :: .ptr (lv + 1) i4 1 :: .ptr (lv + 1) i2 1 :: .agg [.int .i64 a0.num.num, .int .i64 a0.num.den] :: .int .i64 y10 :: .bool (!(y10 == 0)) :: an 63 []), ⟨lv + 1, L, E⟩, [], E⟩ [] (by simp -implicitDefEqProofs [GValue.cs, g0, g1]) claims_nil ?_
        refine satO_nil (by simp) ?_
        repeat refine sat_seq ?_
        refine sat_ret ?_
        have g0 := hA.get (k := 0) rfl
        have g1 := hA.get (k := 1) rfl
        refine ends (v := .bool false) (by simp [resultsV, resL, resV, tupOf, Try.f56, pLoad, g0, g1, GValue.cs]) rfl rfl ?_
        injection h with h
        subst h
        exact (.keep _ (by simp [V.kin, V.kinL, GValue.cs]))
      · have h := ite_f hb h
        repeat refine sat_seq ?_
        refine sat_skip ?_
        have hA : AccG (lv + 1) L [] [(i4, .cells [.int .u8 a0.kind, .int .i64 0, .int .i64 0, .bool a0.truth, .str a0.str, .sl 6 (a0.list.map GValue.el) false])] := hA.sel [] (by simp) rfl (.cons_cons _ (.cons _ .slnil))
        refine ⟨⟨an 3 (.ptr (lv + 1) i4 0 :: an 77 []), ⟨lv + 1, L, E⟩, [], E⟩, weak_tmps ?_, n, by omega, 0, 0, a0.truth, a0.str, a0.list, L, hA, h, rfl⟩
        (try simp only [an, List.map_cons, List.map_nil]); repeat (first | exact VLeL.nil | refine VLeL.cons (by first | exact VLe.refl _ | exact VLe.any _ | exact VLe.nil _ _ | exact VLe.full _ _ | (refine VLe.agg' ?_; repeat (first | exact VLeL.nil | refine VLeL.cons (by first | exact VLe.refl _ | exact VLe.any _ | exact VLe.nil _ _) ?_))) ?_)
    · have h := ite_f hb h
      repeat refine sat_seq ?_
      refine satO_reg ?_
      have g0 := hA.get (k := 0) rfl
      have g1 := hA.get (k := 1) rfl
      refine satO_step 2 [] ⟨.agg a0.cs :: .ptr (lv + 1) i2 0 :: .bool false :: .ptr (lv + 1) i4 0 :: an 3 (.agg a0.cs :: .ptr (lv + 1) i2 0 :: .int .u8 a0.kind :: .bool (a0.kind == 1) :: .bool (a0.kind == 1) :: an 6 (.bool (a0.kind == 2) :: .bool (a0.kind == 2) :: an 61 [])), ⟨lv + 1, L, E⟩, [], E⟩ [] (by simp -implicitDefEqProofs [GValue.cs, g0, g1]) claims_nil ?_
      refine satO_nil (by simp) ?_
      repeat refine sat_seq ?_
      refine sat_meet (fun σ => ∃ (k : Nat), k ≤ n ∧ ∃ (x12 : Bool) (x13 : List UInt8) (x14 : List GValue) (L : List (Option AObj)), AccG (lv + 1) L [] [(i4, .cells [.int .u8 a0.kind, .int .i64 a0.num.num, .int .i64 a0.num.den, .bool x12, .str x13, .sl 6 (x14.map GValue.el) false])] ∧ go_value_fine_J2 k a0 x12 x13 x14 = some r ∧ σ = ⟨an 3 (.ptr (lv + 1) i4 0 :: an 77 []), ⟨lv + 1, L, E⟩, [], E⟩) ?_ ?_
      · refine sat_cond rfl (fun hb => ?_) (fun hb => ?_)
        · have h := ite_t hb h
          repeat refine sat_seq ?_
          refine satO_reg ?_
          have g0 := hA.get (k := 0) rfl
          have g1 := hA.get (k := 1) rfl
          refine satO_step 1 [] ⟨.agg a0.cs :: .ptr (lv + 1) i2 0 :: .bool false :: .ptr (lv + 1) i4 0 :: an 3 (.agg a0.cs :: .ptr (lv + 1) i2 0 :: .int .u8 a0.kind :: .bool (a0.kind == 1) :: .bool (a0.kind == 1) :: an 6 (.bool (a0.kind == 2) :: .bool (a0.kind == 2) :: .ptr (lv + 1) i4 3 :: an 60 [])), ⟨lv + 1, L, E⟩, [], E⟩ [] (by simp -implicitDefEqProofs [GValue.cs, g0, g1]) claims_nil ?_
          have g0 := hA.get (k := 0) rfl
          have g1 := hA.get (k := 1) rfl
          refine satO_step 1 [] ⟨.agg a0.cs :: .ptr (lv + 1) i2 0 :: .bool false :: .ptr (lv + 1) i4 0 :: an 3 (.agg a0.cs :: .ptr (lv + 1) i2 0 :: .int .u8 a0.kind :: .bool (a0.kind == 1) :: .bool (a0.kind == 1) :: an 6 (.bool (a0.kind == 2) :: .bool (a0.kind == 2) :: .ptr (lv + 1) i4 3 :: an 60 [])), ⟨lv + 1, (L.set i4 (some (.cells [.int .u8 a0.kind, .int .i64 a0.num.num, .int .i64 a0.num.den, .bool false, .str a0.str, .sl 6 (a0.list.map GValue.el) false]))), E⟩, [], E⟩ [] (by simp -implicitDefEqProofs [GValue.cs, g0, g1]) claims_nil ?_
          have hA : AccG (lv + 1) (L.set i4 (some (.cells [.int .u8 a0.kind, .int .i64 a0.num.num, .int .i64 a0.num.den, .bool false, .str a0.str, .sl 6 (a0.list.map GValue.el) false]))) [] [(i4, .cells [.int .u8 a0.kind, .int .i64 a0.num.num, .int .i64 a0.num.den, .bool false, .str a0.str, .sl 6 (a0.list.map GValue.el) false]), (i2, .cells a0.cs)] := hA.upd (k := 0) rfl _
          generalize (L.set i4 (some (.cells [.int .u8 a0.kind, .int .i64 a0.num.num, .int .i64 a0.num.den, .bool false, .str a0.str, .sl 6 (a0.list.map GValue.el) false]))) = L at hA ⊢
          refine satO_nil (by simp) ?_
          have hA : AccG (lv + 1) L [] [(i4, .cells [.int .u8 a0.kind, .int .i64 a0.num.num, .int .i64 a0.num.den, .bool false, .str a0.str, .sl 6 (a0.list.map GValue.el) false])] := hA.sel [] (by simp) rfl (.cons_cons _ (.cons _ .slnil))
          refine ⟨⟨an 3 (.ptr (lv + 1) i4 0 :: an 77 []), ⟨lv + 1, L, E⟩, [], E⟩, weak_tmps ?_, n, by omega, false, a0.str, a0.list, L, hA, h, rfl⟩
          (try simp only [an, List.map_cons, List.map_nil]); repeat (first | exact VLeL.nil | refine VLeL.cons (by first | exact VLe.refl _ | exact VLe.any _ | exact VLe.nil _ _ | exact VLe.full _ _ | (refine VLe.agg' ?_; repeat (first | exact VLeL.nil | refine VLeL.cons (by first | exact VLe.refl _ | exact VLe.any _ | exact VLe.nil _ _) ?_))) ?_)
        · have h := ite_f hb h
          repeat refine sat_seq ?_
          refine satO_reg ?_
          have g0 := hA.get (k := 0) rfl
          have g1 := hA.get (k := 1) rfl
          refine satO_step 2 [] ⟨.agg a0.cs :: .ptr (lv + 1) i2 0 :: .bool false :: .ptr (lv + 1) i4 0 :: an 3 (.agg a0.cs :: .ptr (lv + 1) i2 0 :: .int .u8 a0.kind :: .bool (a0.kind == 1) :: .bool (a0.kind == 1) :: an 6 (.bool (a0.kind == 2) :: .bool (a0.kind == 2) :: an 1 (.bool (a0.kind == 3) :: .bool (a0.kind == 3) :: an 58 []))), ⟨lv + 1, L, E⟩, [], E⟩ [] (by simp -implicitDefEqProofs [GValue.cs, g0, g1]) claims_nil ?_
          refine satO_nil (by simp) ?_
          repeat refine sat_seq ?_
          refine sat_meet (fun σ => ∃ (k : Nat), k ≤ n ∧ ∃ (x15 : List UInt8) (x16 : List GValue) (L : List (Option AObj)), AccG (lv + 1) L [] [(i4, .cells [.int .u8 a0.kind, .int .i64 a0.num.num, .int .i64 a0.num.den, .bool a0.truth, .str x15, .sl 6 (x16.map GValue.el) false])] ∧ go_value_fine_J3 k a0 x15 x16 = some r ∧ σ = ⟨an 3 (.ptr (lv + 1) i4 0 :: an 77 []), ⟨lv + 1, L, E⟩, [], E⟩) ?_ ?_
          · refine sat_cond rfl (fun hb => ?_) (fun hb => ?_)
            · have h := ite_t hb h
              repeat refine sat_seq ?_
              refine satO_reg ?_
              have g0 := hA.get (k := 0) rfl
              have g1 := hA.get (k := 1) rfl
              refine satO_step 1 [] ⟨.agg a0.cs :: .ptr (lv + 1) i2 0 :: .bool false :: .ptr (lv + 1) i4 0 :: an 3 (.agg a0.cs :: .ptr (lv + 1) i2 0 :: .int .u8 a0.kind :: .bool (a0.kind == 1) :: .bool (a0.kind == 1) :: an 6 (.bool (a0.kind == 2) :: .bool (a0.kind == 2) :: an 1 (.bool (a0.kind == 3) :: .bool (a0.kind == 3) :: .ptr (lv + 1) i4 4 :: an 57 []))), ⟨lv + 1, L, E⟩, [], E⟩ [] (by simp -implicitDefEqProofs [GValue.cs, g0, g1]) claims_nil ?_
              have g0 := hA.get (k := 0) rfl
              have g1 := hA.get (k := 1) rfl
              refine satO_step 1 [] ⟨.agg a0.cs :: .ptr (lv + 1) i2 0 :: .bool false :: .ptr (lv + 1) i4 0 :: an 3 (.agg a0.cs :: .ptr (lv + 1) i2 0 :: .int .u8 a0.kind :: .bool (a0.kind == 1) :: .bool (a0.kind == 1) :: an 6 (.bool (a0.kind == 2) :: .bool (a0.kind == 2) :: an 1 (.bool (a0.kind == 3) :: .bool (a0.kind == 3) :: .ptr (lv + 1) i4 4 :: an 57 []))), ⟨lv + 1, (L.set i4 (some (.cells [.int .u8 a0.kind, .int .i64 a0.num.num, .int .i64 a0.num.den, .bool a0.truth, .str ([]), .sl 6 (a0.list.map GValue.el) false]))), E⟩, [], E⟩ [] (by simp -implicitDefEqProofs [GValue.cs, g0, g1]) claims_nil ?_
              have hA : AccG (lv + 1) (L.set i4 (some (.cells [.int .u8 a0.kind, .int .i64 a0.num.num, .int .i64 a0.num.den, .bool a0.truth, .str ([]), .sl 6 (a0.list.map GValue.el) false]))) [] [(i4, .cells [.int .u8 a0.kind, .int .i64 a0.num.num, .int .i64 a0.num.den, .bool a0.truth, .str ([]), .sl 6 (a0.list.map GValue.el) false]), (i2, .cells a0.cs)] := hA.upd (k := 0) rfl _
              generalize (L.set i4 (some (.cells [.int .u8 a0.kind, .int .i64 a0.num.num, .int .i64 a0.num.den, .bool a0.truth, .str ([]), .sl 6 (a0.list.map GValue.el) false]))) = L at hA ⊢
              refine satO_nil (by simp) ?_
              repeat refine sat_seq ?_
              refine satO_reg ?_
              have g0 := hA.get (k := 0) rfl
              have g1 := hA.get (k := 1) rfl
              refine satO_step 4 [] ⟨.agg a0.cs :: .ptr (lv + 1) i2 0 :: .bool false :: .ptr (lv + 1) i4 0 :: an 3 (.agg a0.cs :: .ptr (lv + 1) i2 0 :: .int .u8 a0.kind :: .bool (a0.kind == 1) :: .bool (a0.kind == 1) :: an 6 (.bool (a0.kind == 2) :: .bool (a0.kind == 2) :: an 1 (.bool (a0.kind == 3) :: .bool (a0.kind == 3) :: .ptr (lv + 1) i4 4 :: .ptr (lv + 1) i2 4 :: .str a0.str :: .int .i64 (a0.str.length : Int) :: .bool (decide (60 < (a0.str.length : Int))) :: an 53 []))), ⟨lv + 1, L, E⟩, [], E⟩ [] (by simp -implicitDefEqProofs [GValue.cs, g0, g1]) claims_nil ?_
              refine satO_nil (by simp) ?_
              repeat refine sat_seq ?_
              refine sat_cond rfl (fun hb => ?_) (fun hb => ?_)
              · have h := ite_t hb h
                repeat refine sat_seq ?_
                refine satO_reg ?_
                have g0 := hA.get (k := 0) rfl
                have g1 := hA.get (k := 1) rfl
                refine satO_step 1 [] ⟨.agg a0.cs :: .ptr (lv + 1) i2 0 :: .bool false :: .ptr (lv + 1) i4 0 :: an 3 (.agg a0.cs :: .ptr (lv + 1) i2 0 :: .int .u8 a0.kind :: .bool (a0.kind == 1) :: .bool (a0.kind == 1) :: an 6 (.bool (a0.kind == 2) :: .bool (a0.kind == 2) :: an 1 (.bool (a0.kind == 3) :: .bool (a0.kind == 3) :: .ptr (lv + 1) i4 4 :: .ptr (lv + 1) i2 4 :: .str a0.str :: .int .i64 (a0.str.length : Int) :: .bool (decide (60 < (a0.str.length : Int))) :: an 53 []))), ⟨lv + 1, L, E⟩, [], E⟩ [] (by simp -implicitDefEqProofs [GValue.cs, g0, g1]) claims_nil ?_
                refine satO_nil (by simp) ?_
                repeat refine sat_seq ?_
                refine sat_ret ?_
                have g0 := hA.get (k := 0) rfl
                have g1 := hA.get (k := 1) rfl
                refine ends (v := .bool false) (by simp [resultsV, resL, resV, tupOf, Try.f56, pLoad, g0, g1, GValue.cs]) rfl rfl ?_
                injection h with h
                subst h
                exact (.keep _ (by simp [V.kin, V.kinL, GValue.cs]))
              · have h := ite_f hb h
                repeat refine sat_seq ?_
                refine sat_skip ?_
                repeat refine sat_seq ?_
                refine satO_reg ?_
                have g0 := hA.get (k := 0) rfl
                have g1 := hA.get (k := 1) rfl
                refine satO_step 1 [] ⟨.agg a0.cs :: .ptr (lv + 1) i2 0 :: .bool false :: .ptr (lv + 1) i4 0 :: .int .i64 0 :: an 2 (.agg a0.cs :: .ptr (lv + 1) i2 0 :: .int .u8 a0.kind :: .bool (a0.kind == 1) :: .bool (a0.kind == 1) :: an 6 (.bool (a0.kind == 2) :: .bool (a0.kind == 2) :: an 1 (.bool (a0.kind == 3) :: .bool (a0.kind == 3) :: .ptr (lv + 1) i4 4 :: .ptr (lv + 1) i2 4 :: .str a0.str :: .int .i64 (a0.str.length : Int) :: .bool (decide (60 < (a0.str.length : Int))) :: an 53 []))), ⟨lv + 1, L, E⟩, [], E⟩ [] (by simp -implicitDefEqProofs [GValue.cs, g0, g1]) claims_nil ?_
                refine satO_nil (by simp) ?_
                repeat refine sat_seq ?_
                refine sat_block ?_
                repeat refine sat_seq ?_
                refine sat_loop (fun k σ => ∃ (x17 : Int) (L : List (Option AObj)), k ≤ n ∧ AccG (lv + 1) L [] [(i4, .cells [.int .u8 a0.kind, .int .i64 a0.num.num, .int .i64 a0.num.den, .bool a0.truth, .str ([]), .sl 6 (a0.list.map GValue.el) false]), (i2, .cells a0.cs)] ∧ go_value_fine_L1 k a0 x17 = some r ∧ σ = ⟨an 1 (.ptr (lv + 1) i2 0 :: an 1 (.ptr (lv + 1) i4 0 :: .int .i64 x17 :: an 76 [])), ⟨lv + 1, L, E⟩, [], E⟩) n ⟨an 1 (.ptr (lv + 1) i2 0 :: an 1 (.ptr (lv + 1) i4 0 :: .int .i64 0 :: an 76 [])), ⟨lv + 1, L, E⟩, [], E⟩ (weak_tmps ?_) ⟨0, L, Nat.le_refl _, hA, h, rfl⟩ ?_
                · (try simp only [an, List.map_cons, List.map_nil]); repeat (first | exact VLeL.nil | refine VLeL.cons (by first | exact VLe.refl _ | exact VLe.any _ | exact VLe.nil _ _ | exact VLe.full _ _ | (refine VLe.agg' ?_; repeat (first | exact VLeL.nil | refine VLeL.cons (by first | exact VLe.refl _ | exact VLe.any _ | exact VLe.nil _ _) ?_))) ?_)
                · rintro k σ ⟨x17, L, hk, hA, h, rfl⟩
                  rcases k with _ | n
                  · simp [go_value_fine_L1] at h
                  · rw [go_value_fine_L1] at h
                    repeat refine sat_seq ?_
                    refine satO_reg ?_
                    have g0 := hA.get (k := 0) rfl
                    have g1 := hA.get (k := 1) rfl
                    refine satO_step 5 [] ⟨an 1 (.ptr (lv + 1) i2 0 :: an 1 (.ptr (lv + 1) i4 0 :: .int .i64 x17 :: an 23 (.int .i64 x17 :: .ptr (lv + 1) i2 4 :: .str a0.str :: .int .i64 (a0.str.length : Int) :: .bool (decide (x17 < (a0.str.length : Int))) :: an 48 []))), ⟨lv + 1, L, E⟩, [], E⟩ [] (by simp -implicitDefEqProofs [GValue.cs, g0, g1]) claims_nil ?_
                    refine satO_nil (by simp) ?_
                    repeat refine sat_seq ?_
                    refine sat_cond rfl (fun hb => ?_) (fun hb => ?_)
                    · have h := ite_t hb h
                      repeat refine sat_seq ?_
                      refine sat_skip ?_
                      repeat refine sat_seq ?_
                      refine sat_block ?_
                      repeat refine sat_seq ?_
                      refine sat_meet (fun σ => ∃ (k : Nat), k ≤ n ∧ ∃ (x18 : Bool) (L : List (Option AObj)), AccG (lv + 1) L [] [(i4, .cells [.int .u8 a0.kind, .int .i64 a0.num.num, .int .i64 a0.num.den, .bool a0.truth, .str ([]), .sl 6 (a0.list.map GValue.el) false]), (i2, .cells a0.cs)] ∧ go_value_fine_J4 k a0 x17 x18 = some r ∧ σ = ⟨an 1 (.ptr (lv + 1) i2 0 :: an 1 (.ptr (lv + 1) i4 0 :: .int .i64 x17 :: an 41 (.bool x18 :: an 34 []))), ⟨lv + 1, L, E⟩, [], E⟩) ?_ ?_
                      · refine satO_reg ?_
                        obtain ⟨x19, q20, h⟩ := bnd_hi h
                        obtain ⟨q20, q21⟩ := ix_some q20
                        rcases Bool.eq_false_or_eq_true (decide ((x19.toNat : Int) < 32)) with hg22 | hg23
                        · have h := ite_t hg22 h
                          have hg22n := hg22
                          try simp at hg22n
                          have g0 := hA.get (k := 0) rfl
                          have g1 := hA.get (k := 1) rfl
                          refine satO_step 12 [] ⟨an 1 (.ptr (lv + 1) i2 0 :: an 1 (.ptr (lv + 1) i4 0 :: .int .i64 x17 :: an 23 (.int .i64 x17 :: .ptr (lv + 1) i2 4 :: .str a0.str :: .int .i64 (a0.str.length : Int) :: .bool (decide (x17 < (a0.str.length : Int))) :: an 2 (.ptr (lv + 1) i2 4 :: .str a0.str :: .int .i64 x17 :: .int .u8 (x19.toNat : Int) :: .bool (decide ((x19.toNat : Int) < 32)) :: .bool (decide ((x19.toNat : Int) < 32)) :: .tup [] :: .tup [] :: .tup [] :: .tup [] :: .tup [] :: .bool true :: an 34 [])))), ⟨lv + 1, L, E⟩, [], E⟩ [] (by first | (simp -implicitDefEqProofs [GValue.cs, g0, g1, q20, q21, hg22]; done) | simp -implicitDefEqProofs [GValue.cs, g0, g1, q20, q21, hg22, hg22n]) claims_nil ?_
                          refine satO_nil (by simp) ?_
                          refine ⟨⟨an 1 (.ptr (lv + 1) i2 0 :: an 1 (.ptr (lv + 1) i4 0 :: .int .i64 x17 :: an 41 (.bool true :: an 34 []))), ⟨lv + 1, L, E⟩, [], E⟩, weak_tmps ?_, n, by omega, true, L, hA, h, rfl⟩
                          (try simp only [an, List.map_cons, List.map_nil]); repeat (first | exact VLeL.nil | refine VLeL.cons (by first | exact VLe.refl _ | exact VLe.any _ | exact VLe.nil _ _ | exact VLe.full _ _ | (refine VLe.agg' ?_; repeat (first | exact VLeL.nil | refine VLeL.cons (by first | exact VLe.refl _ | exact VLe.any _ | exact VLe.nil _ _) ?_))) ?_)
                        · have h := ite_f hg23 h
                          have hg23n := hg23
                          try simp at hg23n
                          have g0 := hA.get (k := 0) rfl
                          have g1 := hA.get (k := 1) rfl
                          refine satO_step 12 [] ⟨an 1 (.ptr (lv + 1) i2 0 :: an 1 (.ptr (lv + 1) i4 0 :: .int .i64 x17 :: an 23 (.int .i64 x17 :: .ptr (lv + 1) i2 4 :: .str a0.str :: .int .i64 (a0.str.length : Int) :: .bool (decide (x17 < (a0.str.length : Int))) :: an 2 (.ptr (lv + 1) i2 4 :: .str a0.str :: .int .i64 x17 :: .int .u8 (x19.toNat : Int) :: .bool (decide ((x19.toNat : Int) < 32)) :: .bool (decide ((x19.toNat : Int) < 32)) :: .ptr (lv + 1) i2 4 :: .str a0.str :: .int .i64 x17 :: .int .u8 (x19.toNat : Int) :: .bool (decide (126 < (x19.toNat : Int))) :: .bool (decide (126 < (x19.toNat : Int))) :: an 34 [])))), ⟨lv + 1, L, E⟩, [], E⟩ [] (by first | (simp -implicitDefEqProofs [GValue.cs, g0, g1, q20, q21, hg23, q20, q21]; done) | simp -implicitDefEqProofs [GValue.cs, g0, g1, q20, q21, hg23, q20, q21, hg23n]) claims_nil ?_
                          refine satO_nil (by simp) ?_
                          refine ⟨⟨an 1 (.ptr (lv + 1) i2 0 :: an 1 (.ptr (lv + 1) i4 0 :: .int .i64 x17 :: an 41 (.bool (decide (126 < (x19.toNat : Int))) :: an 34 []))), ⟨lv + 1, L, E⟩, [], E⟩, weak_tmps ?_, n, by omega, (decide (126 < (x19.toNat : Int))), L, hA, h, rfl⟩
                          (try simp only [an, List.map_cons, List.map_nil]); repeat (first | exact VLeL.nil | refine VLeL.cons (by first | exact VLe.refl _ | exact VLe.any _ | exact VLe.nil _ _ | exact VLe.full _ _ | (refine VLe.agg' ?_; repeat (first | exact VLeL.nil | refine VLeL.cons (by first | exact VLe.refl _ | exact VLe.any _ | exact VLe.nil _ _) ?_))) ?_)
                      · rintro σ0 σ hw ⟨k, hk, x18, L, hA, h, rfl⟩
                        rcases k with _ | n
                        · simp [go_value_fine_J4] at h
                        · rw [go_value_fine_J4] at h
                          refine sat_weak hw ?_
                          repeat refine sat_seq ?_
                          refine sat_cond rfl (fun hb => ?_) (fun hb => ?_)
                          · have h := ite_t hb h
                            repeat refine sat_seq ?_
                            refine satO_reg ?_
                            have g0 := hA.get (k := 0) rfl
                            have g1 := hA.get (k := 1) rfl
                            refine satO_step 1 [] ⟨an 1 (.ptr (lv + 1) i2 0 :: .bool false :: .ptr (lv + 1) i4 0 :: .int .i64 x17 :: an 41 (.bool x18 :: an 34 [])), ⟨lv + 1, L, E⟩, [], E⟩ [] (by simp -implicitDefEqProofs [GValue.cs, g0, g1]) claims_nil ?_
                            refine satO_nil (by simp) ?_
                            repeat refine sat_seq ?_
                            refine sat_ret ?_
                            have g0 := hA.get (k := 0) rfl
                            have g1 := hA.get (k := 1) rfl
                            refine ends (v := .bool false) (by simp [resultsV, resL, resV, tupOf, Try.f56, pLoad, g0, g1, GValue.cs]) rfl rfl ?_
                            injection h with h
                            subst h
                            exact (.keep _ (by simp [V.kin, V.kinL, GValue.cs]))
                          · have h := ite_f hb h
                            repeat refine sat_seq ?_
                            refine sat_skip ?_
                            repeat refine sat_seq ?_
                            refine satO_reg ?_
                            have g0 := hA.get (k := 0) rfl
                            have g1 := hA.get (k := 1) rfl
                            refine satO_step 3 [] ⟨an 1 (.ptr (lv + 1) i2 0 :: an 1 (.ptr (lv + 1) i4 0 :: .int .i64 (IntKind.i64.wrap (x17 + 1)) :: an 28 (.int .i64 x17 :: .int .i64 (IntKind.i64.wrap (x17 + 1)) :: an 11 (.bool x18 :: an 34 [])))), ⟨lv + 1, L, E⟩, [], E⟩ [] (by simp -implicitDefEqProofs [GValue.cs, g0, g1]) claims_nil ?_
                            refine satO_nil (by simp) ?_
                            refine ⟨n, ⟨an 1 (.ptr (lv + 1) i2 0 :: an 1 (.ptr (lv + 1) i4 0 :: .int .i64 (IntKind.i64.wrap (x17 + 1)) :: an 76 [])), ⟨lv + 1, L, E⟩, [], E⟩, weak_tmps ?_, ⟨(IntKind.i64.wrap (x17 + 1)), L, by omega, hA, h, rfl⟩, by omega⟩
                            (try simp only [an, List.map_cons, List.map_nil]); repeat (first | exact VLeL.nil | refine VLeL.cons (by first | exact VLe.refl _ | exact VLe.any _ | exact VLe.nil _ _ | exact VLe.full _ _ | (refine VLe.agg' ?_; repeat (first | exact VLeL.nil | refine VLeL.cons (by first | exact VLe.refl _ | exact VLe.any _ | exact VLe.nil _ _) ?_))) ?_)
                    · have h := ite_f hb h
                      repeat refine sat_seq ?_
                      refine sat_exit ?_
                      have hA : AccG (lv + 1) L [] [(i4, .cells [.int .u8 a0.kind, .int .i64 a0.num.num, .int .i64 a0.num.den, .bool a0.truth, .str ([]), .sl 6 (a0.list.map GValue.el) false])] := hA.sel [] (by simp) rfl (.cons_cons _ (.cons _ .slnil))
                      refine ⟨⟨an 3 (.ptr (lv + 1) i4 0 :: an 77 []), ⟨lv + 1, L, E⟩, [], E⟩, weak_tmps ?_, n, by omega, ([]), a0.list, L, hA, h, rfl⟩
                      (try simp only [an, List.map_cons, List.map_nil]); repeat (first | exact VLeL.nil | refine VLeL.cons (by first | exact VLe.refl _ | exact VLe.any _ | exact VLe.nil _ _ | exact VLe.full _ _ | (refine VLe.agg' ?_; repeat (first | exact VLeL.nil | refine VLeL.cons (by first | exact VLe.refl _ | exact VLe.any _ | exact VLe.nil _ _) ?_))) ?_)
            · have h := ite_f hb h
              repeat refine sat_seq ?_
              refine satO_reg ?_
              have g0 := hA.get (k := 0) rfl
              have g1 := hA.get (k := 1) rfl
              refine satO_step 2 [] ⟨.agg a0.cs :: .ptr (lv + 1) i2 0 :: .bool false :: .ptr (lv + 1) i4 0 :: an 3 (.agg a0.cs :: .ptr (lv + 1) i2 0 :: .int .u8 a0.kind :: .bool (a0.kind == 1) :: .bool (a0.kind == 1) :: an 6 (.bool (a0.kind == 2) :: .bool (a0.kind == 2) :: an 1 (.bool (a0.kind == 3) :: .bool (a0.kind == 3) :: an 24 (.bool (a0.kind == 4) :: .bool (a0.kind == 4) :: an 32 [])))), ⟨lv + 1, L, E⟩, [], E⟩ [] (by simp -implicitDefEqProofs [GValue.cs, g0, g1]) claims_nil ?_
              refine satO_nil (by simp) ?_
              repeat refine sat_seq ?_
              refine sat_cond rfl (fun hb => ?_) (fun hb => ?_)
              · have h := ite_t hb h
                repeat refine sat_seq ?_
                refine satO_reg ?_
                have g0 := hA.get (k := 0) rfl
                have g1 := hA.get (k := 1) rfl
                refine satO_step 1 [] ⟨.agg a0.cs :: .ptr (lv + 1) i2 0 :: .bool false :: .ptr (lv + 1) i4 0 :: an 3 (.agg a0.cs :: .ptr (lv + 1) i2 0 :: .int .u8 a0.kind :: .bool (a0.kind == 1) :: .bool (a0.kind == 1) :: an 6 (.bool (a0.kind == 2) :: .bool (a0.kind == 2) :: an 1 (.bool (a0.kind == 3) :: .bool (a0.kind == 3) :: an 24 (.bool (a0.kind == 4) :: .bool (a0.kind == 4) :: .ptr (lv + 1) i4 5 :: an 31 [])))), ⟨lv + 1, L, E⟩, [], E⟩ [] (by simp -implicitDefEqProofs [GValue.cs, g0, g1]) claims_nil ?_
                have g0 := hA.get (k := 0) rfl
                have g1 := hA.get (k := 1) rfl
                refine satO_step 1 [] ⟨.agg a0.cs :: .ptr (lv + 1) i2 0 :: .bool false :: .ptr (lv + 1) i4 0 :: an 3 (.agg a0.cs :: .ptr (lv + 1) i2 0 :: .int .u8 a0.kind :: .bool (a0.kind == 1) :: .bool (a0.kind == 1) :: an 6 (.bool (a0.kind == 2) :: .bool (a0.kind == 2) :: an 1 (.bool (a0.kind == 3) :: .bool (a0.kind == 3) :: an 24 (.bool (a0.kind == 4) :: .bool (a0.kind == 4) :: .ptr (lv + 1) i4 5 :: an 31 [])))), ⟨lv + 1, (L.set i4 (some (.cells [.int .u8 a0.kind, .int .i64 a0.num.num, .int .i64 a0.num.den, .bool a0.truth, .str a0.str, .nils]))), E⟩, [], E⟩ [] (by simp -implicitDefEqProofs [GValue.cs, g0, g1]) claims_nil ?_
                have hA : AccG (lv + 1) (L.set i4 (some (.cells [.int .u8 a0.kind, .int .i64 a0.num.num, .int .i64 a0.num.den, .bool a0.truth, .str a0.str, .nils]))) [] [(i4, .cells [.int .u8 a0.kind, .int .i64 a0.num.num, .int .i64 a0.num.den, .bool a0.truth, .str a0.str, .nils]), (i2, .cells a0.cs)] := hA.upd (k := 0) rfl _
                generalize (L.set i4 (some (.cells [.int .u8 a0.kind, .int .i64 a0.num.num, .int .i64 a0.num.den, .bool a0.truth, .str a0.str, .nils]))) = L at hA ⊢
                refine satO_nil (by simp) ?_
                repeat refine sat_seq ?_
                refine satO_reg ?_
                have g0 := hA.get (k := 0) rfl
                have g1 := hA.get (k := 1) rfl
                refine satO_step 4 [] ⟨.agg a0.cs :: .ptr (lv + 1) i2 0 :: .bool false :: .ptr (lv + 1) i4 0 :: an 3 (.agg a0.cs :: .ptr (lv + 1) i2 0 :: .int .u8 a0.kind :: .bool (a0.kind == 1) :: .bool (a0.kind == 1) :: an 6 (.bool (a0.kind == 2) :: .bool (a0.kind == 2) :: an 1 (.bool (a0.kind == 3) :: .bool (a0.kind == 3) :: an 24 (.bool (a0.kind == 4) :: .bool (a0.kind == 4) :: .ptr (lv + 1) i4 5 :: .ptr (lv + 1) i2 5 :: .sl 6 (a0.list.map GValue.el) false :: .int .i64 (a0.list.length : Int) :: .int .i64 0 :: an 27 [])))), ⟨lv + 1, L, E⟩, [], E⟩ [] (by simp -implicitDefEqProofs [GValue.cs, g0, g1]) claims_nil ?_
                refine satO_nil (by simp) ?_
                repeat refine sat_seq ?_
                refine sat_block ?_
                repeat refine sat_seq ?_
                have hA : AccG (lv + 1) L [] [(i4, .cells [.int .u8 a0.kind, .int .i64 a0.num.num, .int .i64 a0.num.den, .bool a0.truth, .str a0.str, .nils])] := hA.sel [] (by simp) rfl (.cons_cons _ (.cons _ .slnil))
                refine sat_loop (fun k σ => ∃ (x24 : Int) (L : List (Option AObj)), k ≤ n ∧ AccG (lv + 1) L [] [(i4, .cells [.int .u8 a0.kind, .int .i64 a0.num.num, .int .i64 a0.num.den, .bool a0.truth, .str a0.str, .nils])] ∧ go_value_fine_L2 k a0 x24 = some r ∧ σ = ⟨an 3 (.ptr (lv + 1) i4 0 :: an 47 (.sl 6 (a0.list.map GValue.el) false :: .int .i64 (a0.list.length : Int) :: .int .i64 x24 :: an 27 [])), ⟨lv + 1, L, E⟩, [], E⟩) n ⟨an 3 (.ptr (lv + 1) i4 0 :: an 47 (.sl 6 (a0.list.map GValue.el) false :: .int .i64 (a0.list.length : Int) :: .int .i64 0 :: an 27 [])), ⟨lv + 1, L, E⟩, [], E⟩ (weak_tmps ?_) ⟨0, L, Nat.le_refl _, hA, h, rfl⟩ ?_
                · (try simp only [an, List.map_cons, List.map_nil]); repeat (first | exact VLeL.nil | refine VLeL.cons (by first | exact VLe.refl _ | exact VLe.any _ | exact VLe.nil _ _ | exact VLe.full _ _ | (refine VLe.agg' ?_; repeat (first | exact VLeL.nil | refine VLeL.cons (by first | exact VLe.refl _ | exact VLe.any _ | exact VLe.nil _ _) ?_))) ?_)
                · rintro k σ ⟨x24, L, hk, hA, h, rfl⟩
                  rcases k with _ | n
                  · simp [go_value_fine_L2] at h
                  · rw [go_value_fine_L2] at h
                    repeat refine sat_seq ?_
                    refine satO_reg ?_
                    have g0 := hA.get (k := 0) rfl
                    refine satO_step 1 [] ⟨an 3 (.ptr (lv + 1) i4 0 :: an 47 (.sl 6 (a0.list.map GValue.el) false :: .int .i64 (a0.list.length : Int) :: .int .i64 x24 :: .bool (decide (x24 < (a0.list.length : Int))) :: an 26 [])), ⟨lv + 1, L, E⟩, [], E⟩ [] (by simp -implicitDefEqProofs [GValue.cs, g0]) claims_nil ?_
                    refine satO_nil (by simp) ?_
                    repeat refine sat_seq ?_
                    refine sat_cond rfl (fun hb => ?_) (fun hb => ?_)
                    · have h := ite_t hb h
                      repeat refine sat_seq ?_
                      refine sat_skip ?_
                      repeat refine sat_seq ?_
                      refine sat_block ?_
                      repeat refine sat_seq ?_
                      refine satO_reg ?_
                      obtain ⟨x25, q26, h⟩ := bnd_hi h
                      obtain ⟨q26, q27⟩ := ix_some q26
                      have g0 := hA.get (k := 0) rfl
                      refine satO_step 2 [] ⟨an 3 (.ptr (lv + 1) i4 0 :: an 47 (.sl 6 (a0.list.map GValue.el) false :: .int .i64 (a0.list.length : Int) :: .int .i64 x24 :: .bool (decide (x24 < (a0.list.length : Int))) :: .ref x25.cs 0 :: .agg x25.cs :: an 24 [])), ⟨lv + 1, L, E⟩, [], E⟩ [] (by simp -implicitDefEqProofs [GValue.cs, g0, q26, q27, GValue.el_cs]) claims_nil ?_
                      refine satO_step 1 [] ⟨an 3 (.ptr (lv + 1) i4 0 :: an 2 (.ptr (lv + 1) L.length 0 :: an 44 (.sl 6 (a0.list.map GValue.el) false :: .int .i64 (a0.list.length : Int) :: .int .i64 x24 :: .bool (decide (x24 < (a0.list.length : Int))) :: .ref x25.cs 0 :: .agg x25.cs :: an 24 []))), ⟨lv + 1, (L ++ [some (.cells [.int .u8 0, .int .i64 0, .int .i64 0, .bool false, .str ([]), .nils])]), E⟩, [], E⟩ [] (by simp -implicitDefEqProofs [GValue.cs]) claims_nil ?_
                      have hA : AccG (lv + 1) (L ++ [some (.cells [.int .u8 0, .int .i64 0, .int .i64 0, .bool false, .str ([]), .nils])]) [] [(L.length, .cells [.int .u8 0, .int .i64 0, .int .i64 0, .bool false, .str ([]), .nils]), (i4, .cells [.int .u8 a0.kind, .int .i64 a0.num.num, .int .i64 a0.num.den, .bool a0.truth, .str a0.str, .nils])] := hA.obj _
                      generalize L.length = i29 at hA ⊢
                      generalize (L ++ [some (.cells [.int .u8 0, .int .i64 0, .int .i64 0, .bool false, .str ([]), .nils])]) = L at hA ⊢
                      have g0 := hA.get (k := 0) rfl
                      have g1 := hA.get (k := 1) rfl
                      refine satO_step 1 [] ⟨an 3 (.ptr (lv + 1) i4 0 :: an 2 (.ptr (lv + 1) i29 0 :: an 44 (.sl 6 (a0.list.map GValue.el) false :: .int .i64 (a0.list.length : Int) :: .int .i64 x24 :: .bool (decide (x24 < (a0.list.length : Int))) :: .ref x25.cs 0 :: .agg x25.cs :: an 24 []))), ⟨lv + 1, (L.set i29 (some (.cells x25.cs))), E⟩, [], E⟩ [] (by simp -implicitDefEqProofs [GValue.cs, g0, g1]) claims_nil ?_
                      have hA : AccG (lv + 1) (L.set i29 (some (.cells x25.cs))) [] [(i29, .cells x25.cs), (i4, .cells [.int .u8 a0.kind, .int .i64 a0.num.num, .int .i64 a0.num.den, .bool a0.truth, .str a0.str, .nils])] := hA.upd (k := 0) rfl _
                      generalize (L.set i29 (some (.cells x25.cs))) = L at hA ⊢
                      refine satO_nil (by simp) ?_
                      repeat refine sat_seq ?_
                      refine satO_reg ?_
                      obtain ⟨y30, q31, h⟩ := bnd_hi h
                      have g0 := hA.get (k := 0) rfl
                      have g1 := hA.get (k := 1) rfl
                      refine satO_step 3 [(.bool y30, none)] ⟨an 3 (.ptr (lv + 1) i4 0 :: an 2 (.ptr (lv + 1) i29 0 :: an 44 (.sl 6 (a0.list.map GValue.el) false :: .int .i64 (a0.list.length : Int) :: .int .i64 x24 :: .bool (decide (x24 < (a0.list.length : Int))) :: .ref x25.cs 0 :: .agg x25.cs :: .agg x25.cs :: .bool y30 :: .bool (!y30) :: an 21 []))), ⟨lv + 1, L, E⟩, [], E⟩ [⟨56, [.agg x25.cs], ⟨lv + 1, L, E⟩, .bool y30, ⟨lv + 1, L, E⟩⟩] (by simp -implicitDefEqProofs [GValue.cs, g0, g1]) (claims_cons (ih _ (by omega) _ _ q31 _) claims_nil) ?_
                      refine satO_nil (by simp) ?_
                      repeat refine sat_seq ?_
                      refine sat_cond rfl (fun hb => ?_) (fun hb => ?_)
                      · have h := ite_t hb h
                        repeat refine sat_seq ?_
                        refine satO_reg ?_
                        have g0 := hA.get (k := 0) rfl
                        have g1 := hA.get (k := 1) rfl
                        refine satO_step 1 [] ⟨an 2 (.bool false :: .ptr (lv + 1) i4 0 :: an 2 (.ptr (lv + 1) i29 0 :: an 44 (.sl 6 (a0.list.map GValue.el) false :: .int .i64 (a0.list.length : Int) :: .int .i64 x24 :: .bool (decide (x24 < (a0.list.length : Int))) :: .ref x25.cs 0 :: .agg x25.cs :: .agg x25.cs :: .bool y30 :: .bool (!y30) :: an 21 []))), ⟨lv + 1, L, E⟩, [], E⟩ [] (by simp -implicitDefEqProofs [GValue.cs, g0, g1]) claims_nil ?_
                        refine satO_nil (by simp) ?_
                        repeat refine sat_seq ?_
                        refine sat_ret ?_
                        have g0 := hA.get (k := 0) rfl
                        have g1 := hA.get (k := 1) rfl
                        refine ends (v := .bool false) (by simp [resultsV, resL, resV, tupOf, Try.f56, pLoad, g0, g1, GValue.cs]) rfl rfl ?_
                        injection h with h
                        subst h
                        exact (.keep _ (by simp [V.kin, V.kinL, GValue.cs]))
                      · have h := ite_f hb h
                        repeat refine sat_seq ?_
                        refine sat_skip ?_
                        repeat refine sat_seq ?_
                        refine satO_reg ?_
                        have g0 := hA.get (k := 0) rfl
                        have g1 := hA.get (k := 1) rfl
                        refine satO_step 2 [] ⟨an 3 (.ptr (lv + 1) i4 0 :: an 2 (.ptr (lv + 1) i29 0 :: an 44 (.sl 6 (a0.list.map GValue.el) false :: .int .i64 (a0.list.length : Int) :: .int .i64 (IntKind.i64.wrap (x24 + 1)) :: .bool (decide (x24 < (a0.list.length : Int))) :: .ref x25.cs 0 :: .agg x25.cs :: .agg x25.cs :: .bool y30 :: .bool (!y30) :: .int .i64 (IntKind.i64.wrap (x24 + 1)) :: an 20 []))), ⟨lv + 1, L, E⟩, [], E⟩ [] (by simp -implicitDefEqProofs [GValue.cs, g0, g1]) claims_nil ?_
                        refine satO_nil (by simp) ?_
                        have hA : AccG (lv + 1) L [] [(i4, .cells [.int .u8 a0.kind, .int .i64 a0.num.num, .int .i64 a0.num.den, .bool a0.truth, .str a0.str, .nils])] := hA.sel [] (by simp) rfl (.cons _ (.cons_cons _ .slnil))
                        refine ⟨n, ⟨an 3 (.ptr (lv + 1) i4 0 :: an 47 (.sl 6 (a0.list.map GValue.el) false :: .int .i64 (a0.list.length : Int) :: .int .i64 (IntKind.i64.wrap (x24 + 1)) :: an 27 [])), ⟨lv + 1, L, E⟩, [], E⟩, weak_tmps ?_, ⟨(IntKind.i64.wrap (x24 + 1)), L, by omega, hA, h, rfl⟩, by omega⟩
                        (try simp only [an, List.map_cons, List.map_nil]); repeat (first | exact VLeL.nil | refine VLeL.cons (by first | exact VLe.refl _ | exact VLe.any _ | exact VLe.nil _ _ | exact VLe.full _ _ | (refine VLe.agg' ?_; repeat (first | exact VLeL.nil | refine VLeL.cons (by first | exact VLe.refl _ | exact VLe.any _ | exact VLe.nil _ _) ?_))) ?_)
                    · have h := ite_f hb h
                      repeat refine sat_seq ?_
                      refine sat_exit ?_
                      obtain ⟨L, hA, hw32⟩ := hA.denil 6 (t := an 3 (.ptr (lv + 1) i4 0 :: an 47 (.sl 6 (a0.list.map GValue.el) false :: .int .i64 (a0.list.length : Int) :: .int .i64 x24 :: .bool (decide (x24 < (a0.list.length : Int))) :: an 26 []))) (os' := [(i4, .cells [.int .u8 a0.kind, .int .i64 a0.num.num, .int .i64 a0.num.den, .bool a0.truth, .str a0.str, .sl 6 (([]).map GValue.el) false])]) (.cons (.inr ⟨_, _, rfl, rfl, (by repeat (first | exact FVL.nil | refine FVL.cons (by first | exact FV.keep _ | exact FV.it) ?_))⟩) (.refl _)) E E
                      have hA : AccG (lv + 1) L [] [(i4, .cells [.int .u8 a0.kind, .int .i64 a0.num.num, .int .i64 a0.num.den, .bool a0.truth, .str a0.str, .sl 6 (([]).map GValue.el) false])] := hA
                      refine ⟨⟨an 3 (.ptr (lv + 1) i4 0 :: an 77 []), ⟨lv + 1, L, E⟩, [], E⟩, hw32.trans (weak_tmps ?_), n, by omega, a0.str, ([]), L, hA, h, rfl⟩
                      (try simp only [an, List.map_cons, List.map_nil]); repeat (first | exact VLeL.nil | refine VLeL.cons (by first | exact VLe.refl _ | exact VLe.any _ | exact VLe.nil _ _ | exact VLe.full _ _ | (refine VLe.agg' ?_; repeat (first | exact VLeL.nil | refine VLeL.cons (by first | exact VLe.refl _ | exact VLe.any _ | exact VLe.nil _ _) ?_))) ?_)
              · have h := ite_f hb h
                repeat refine sat_seq ?_
                refine satO_reg ?_
                have g0 := hA.get (k := 0) rfl
                have g1 := hA.get (k := 1) rfl
                refine satO_step 1 [] ⟨.agg a0.cs :: .ptr (lv + 1) i2 0 :: .bool false :: .ptr (lv + 1) i4 0 :: an 3 (.agg a0.cs :: .ptr (lv + 1) i2 0 :: .int .u8 a0.kind :: .bool (a0.kind == 1) :: .bool (a0.kind == 1) :: an 6 (.bool (a0.kind == 2) :: .bool (a0.kind == 2) :: an 1 (.bool (a0.kind == 3) :: .bool (a0.kind == 3) :: an 24 (.bool (a0.kind == 4) :: .bool (a0.kind == 4) :: an 32 [])))), ⟨lv + 1, L, E⟩, [], E⟩ [] (by simp -implicitDefEqProofs [GValue.cs, g0, g1]) claims_nil ?_
                refine satO_nil (by simp) ?_
                repeat refine sat_seq ?_
                refine sat_ret ?_
                have g0 := hA.get (k := 0) rfl
                have g1 := hA.get (k := 1) rfl
                refine ends (v := .bool false) (by simp [resultsV, resL, resV, tupOf, Try.f56, pLoad, g0, g1, GValue.cs]) rfl rfl ?_
                injection h with h
                subst h
                exact (.keep _ (by simp [V.kin, V.kinL, GValue.cs]))
          · rintro σ0 σ hw ⟨k, hk, x15, x16, L, hA, h, rfl⟩
            rcases k with _ | n
            · simp [go_value_fine_J3] at h
            · rw [go_value_fine_J3] at h
              refine ⟨⟨an 3 (.ptr (lv + 1) i4 0 :: an 77 []), ⟨lv + 1, L, E⟩, [], E⟩, hw.trans (weak_tmps ?_), n, by omega, a0.truth, x15, x16, L, hA, h, rfl⟩
              (try simp only [an, List.map_cons, List.map_nil]); repeat (first | exact VLeL.nil | refine VLeL.cons (by first | exact VLe.refl _ | exact VLe.any _ | exact VLe.nil _ _ | exact VLe.full _ _ | (refine VLe.agg' ?_; repeat (first | exact VLeL.nil | refine VLeL.cons (by first | exact VLe.refl _ | exact VLe.any _ | exact VLe.nil _ _) ?_))) ?_)
      · rintro σ0 σ hw ⟨k, hk, x12, x13, x14, L, hA, h, rfl⟩
        rcases k with _ | n
        · simp [go_value_fine_J2] at h
        · rw [go_value_fine_J2] at h
          refine ⟨⟨an 3 (.ptr (lv + 1) i4 0 :: an 77 []), ⟨lv + 1, L, E⟩, [], E⟩, hw.trans (weak_tmps ?_), n, by omega, a0.num.num, a0.num.den, x12, x13, x14, L, hA, h, rfl⟩
          (try simp only [an, List.map_cons, List.map_nil]); repeat (first | exact VLeL.nil | refine VLeL.cons (by first | exact VLe.refl _ | exact VLe.any _ | exact VLe.nil _ _ | exact VLe.full _ _ | (refine VLe.agg' ?_; repeat (first | exact VLeL.nil | refine VLeL.cons (by first | exact VLe.refl _ | exact VLe.any _ | exact VLe.nil _ _) ?_))) ?_)
  · rintro σ0 σ hw ⟨k, hk, x5, x6, x7, x8, x9, L, hA, h, rfl⟩
    rcases k with _ | n
    · simp [go_value_fine_J1] at h
    · rw [go_value_fine_J1] at h
      refine sat_weak hw ?_
      repeat refine sat_seq ?_
      refine sat_meet (fun σ => ∃ (k : Nat), k ≤ n ∧ ∃ (x33 : Bool) (L : List (Option AObj)), AccG (lv + 1) L [] [] ∧ go_value_fine_J5 k x33 = some r ∧ σ = ⟨an 2 (.bool x33 :: an 78 []), ⟨lv + 1, L, E⟩, [], E⟩) ?_ ?_
      · refine satO_reg ?_
        rcases Bool.eq_false_or_eq_true ((x5 == 0) && (x6 == 0)) with hg34 | hg39
        · have h := ite_t hg34 h
          have hg34n := hg34
          try simp at hg34n
          rcases Bool.eq_false_or_eq_true (!x7) with hg35 | hg38
          · have h := ite_t hg35 h
            have hg35n := hg35
            try simp at hg35n
            rcases Bool.eq_false_or_eq_true (x8 == ([])) with hg36 | hg37
            · have h := ite_t hg36 h
              have hg36n := hg36
              try simp at hg36n
              have g0 := hA.get (k := 0) rfl
              refine satO_step 21 [] ⟨an 2 (.bool ((x9.length : Int) == 0) :: .ptr (lv + 1) i4 0 :: an 57 (.ptr (lv + 1) i4 1 :: .agg [.int .i64 x5, .int .i64 x6] :: .agg [.int .i64 0, .int .i64 0] :: .bool ((x5 == 0) && (x6 == 0)) :: .bool ((x5 == 0) && (x6 == 0)) :: .ptr (lv + 1) i4 3 :: .bool x7 :: .bool (!x7) :: .bool (!x7) :: .bool (!x7) :: .ptr (lv + 1) i4 4 :: .str x8 :: .bool (x8 == ([])) :: .bool (x8 == ([])) :: .bool (x8 == ([])) :: .ptr (lv + 1) i4 5 :: .sl 6 (x9.map GValue.el) false :: .int .i64 (x9.length : Int) :: .bool ((x9.length : Int) == 0) :: .bool ((x9.length : Int) == 0) :: [])), ⟨lv + 1, L, E⟩, [], E⟩ [] (by first | (simp -implicitDefEqProofs [GValue.cs, g0, hg34, hg35, hg36]; done) | simp -implicitDefEqProofs [GValue.cs, g0, hg34, hg35, hg36, hg34n, hg35n, hg36n]) claims_nil ?_
              refine satO_nil (by simp) ?_
              have hA : AccG (lv + 1) L [] [] := hA.sel [] (by simp) rfl (.cons _ .slnil)
              refine ⟨⟨an 2 (.bool ((x9.length : Int) == 0) :: an 78 []), ⟨lv + 1, L, E⟩, [], E⟩, weak_tmps ?_, n, by omega, ((x9.length : Int) == 0), L, hA, h, rfl⟩
              (try simp only [an, List.map_cons, List.map_nil]); repeat (first | exact VLeL.nil | refine VLeL.cons (by first | exact VLe.refl _ | exact VLe.any _ | exact VLe.nil _ _ | exact VLe.full _ _ | (refine VLe.agg' ?_; repeat (first | exact VLeL.nil | refine VLeL.cons (by first | exact VLe.refl _ | exact VLe.any _ | exact VLe.nil _ _) ?_))) ?_)
            · have h := ite_f hg37 h
              have hg37n := hg37
              try simp at hg37n
              have g0 := hA.get (k := 0) rfl
              refine satO_step 21 [] ⟨an 2 (.bool false :: .ptr (lv + 1) i4 0 :: an 57 (.ptr (lv + 1) i4 1 :: .agg [.int .i64 x5, .int .i64 x6] :: .agg [.int .i64 0, .int .i64 0] :: .bool ((x5 == 0) && (x6 == 0)) :: .bool ((x5 == 0) && (x6 == 0)) :: .ptr (lv + 1) i4 3 :: .bool x7 :: .bool (!x7) :: .bool (!x7) :: .bool (!x7) :: .ptr (lv + 1) i4 4 :: .str x8 :: .bool (x8 == ([])) :: .bool (x8 == ([])) :: .bool (x8 == ([])) :: .tup [] :: .tup [] :: .tup [] :: .tup [] :: .bool false :: [])), ⟨lv + 1, L, E⟩, [], E⟩ [] (by first | (simp -implicitDefEqProofs [GValue.cs, g0, hg34, hg35, hg37]; done) | simp -implicitDefEqProofs [GValue.cs, g0, hg34, hg35, hg37, hg34n, hg35n, hg37n]) claims_nil ?_
              refine satO_nil (by simp) ?_
              have hA : AccG (lv + 1) L [] [] := hA.sel [] (by simp) rfl (.cons _ .slnil)
              refine ⟨⟨an 2 (.bool false :: an 78 []), ⟨lv + 1, L, E⟩, [], E⟩, weak_tmps ?_, n, by omega, false, L, hA, h, rfl⟩
              (try simp only [an, List.map_cons, List.map_nil]); repeat (first | exact VLeL.nil | refine VLeL.cons (by first | exact VLe.refl _ | exact VLe.any _ | exact VLe.nil _ _ | exact VLe.full _ _ | (refine VLe.agg' ?_; repeat (first | exact VLeL.nil | refine VLeL.cons (by first | exact VLe.refl _ | exact VLe.any _ | exact VLe.nil _ _) ?_))) ?_)
          · have h := ite_f hg38 h
            have hg38n := hg38
            try simp at hg38n
            have g0 := hA.get (k := 0) rfl
            refine satO_step 21 [] ⟨an 2 (.bool false :: .ptr (lv + 1) i4 0 :: an 57 (.ptr (lv + 1) i4 1 :: .agg [.int .i64 x5, .int .i64 x6] :: .agg [.int .i64 0, .int .i64 0] :: .bool ((x5 == 0) && (x6 == 0)) :: .bool ((x5 == 0) && (x6 == 0)) :: .ptr (lv + 1) i4 3 :: .bool x7 :: .bool (!x7) :: .bool (!x7) :: .bool (!x7) :: .tup [] :: .tup [] :: .tup [] :: .bool false :: .bool false :: .tup [] :: .tup [] :: .tup [] :: .tup [] :: .bool false :: [])), ⟨lv + 1, L, E⟩, [], E⟩ [] (by first | (simp -implicitDefEqProofs [GValue.cs, g0, hg34, hg38]; done) | simp -implicitDefEqProofs [GValue.cs, g0, hg34, hg38, hg34n, hg38n]) claims_nil ?_
            refine satO_nil (by simp) ?_
            have hA : AccG (lv + 1) L [] [] := hA.sel [] (by simp) rfl (.cons _ .slnil)
            refine ⟨⟨an 2 (.bool false :: an 78 []), ⟨lv + 1, L, E⟩, [], E⟩, weak_tmps ?_, n, by omega, false, L, hA, h, rfl⟩
            (try simp only [an, List.map_cons, List.map_nil]); repeat (first | exact VLeL.nil | refine VLeL.cons (by first | exact VLe.refl _ | exact VLe.any _ | exact VLe.nil _ _ | exact VLe.full _ _ | (refine VLe.agg' ?_; repeat (first | exact VLeL.nil | refine VLeL.cons (by first | exact VLe.refl _ | exact VLe.any _ | exact VLe.nil _ _) ?_))) ?_)
        · have h := ite_f hg39 h
          have hg39n := hg39
          try simp at hg39n
          have g0 := hA.get (k := 0) rfl
          refine satO_step 21 [] ⟨an 2 (.bool false :: .ptr (lv + 1) i4 0 :: an 57 (.ptr (lv + 1) i4 1 :: .agg [.int .i64 x5, .int .i64 x6] :: .agg [.int .i64 0, .int .i64 0] :: .bool ((x5 == 0) && (x6 == 0)) :: .bool ((x5 == 0) && (x6 == 0)) :: .tup [] :: .tup [] :: .tup [] :: .bool false :: .bool false :: .tup [] :: .tup [] :: .tup [] :: .bool false :: .bool false :: .tup [] :: .tup [] :: .tup [] :: .tup [] :: .bool false :: [])), ⟨lv + 1, L, E⟩, [], E⟩ [] (by first | (simp -implicitDefEqProofs [GValue.cs, g0, hg39]; done) | simp -implicitDefEqProofs [GValue.cs, g0, hg39, hg39n]) claims_nil ?_
          refine satO_nil (by simp) ?_
          have hA : AccG (lv + 1) L [] [] := hA.sel [] (by simp) rfl (.cons _ .slnil)
          refine ⟨⟨an 2 (.bool false :: an 78 []), ⟨lv + 1, L, E⟩, [], E⟩, weak_tmps ?_, n, by omega, false, L, hA, h, rfl⟩
          (try simp only [an, List.map_cons, List.map_nil]); repeat (first | exact VLeL.nil | refine VLeL.cons (by first | exact VLe.refl _ | exact VLe.any _ | exact VLe.nil _ _ | exact VLe.full _ _ | (refine VLe.agg' ?_; repeat (first | exact VLeL.nil | refine VLeL.cons (by first | exact VLe.refl _ | exact VLe.any _ | exact VLe.nil _ _) ?_))) ?_)
      · rintro σ0 σ hw ⟨k, hk, x33, L, hA, h, rfl⟩
        rcases k with _ | n
        · simp [go_value_fine_J5] at h
        · rw [go_value_fine_J5] at h
          refine sat_weak hw ?_
          repeat refine sat_seq ?_
          refine sat_ret ?_
          refine ends (v := .bool x33) (by simp [resultsV, resL, resV, tupOf, Try.f56, pLoad, GValue.cs]) rfl rfl ?_
          injection h with h
          subst h
          exact (.keep _ (by simp [V.kin, V.kinL, GValue.cs]))
end Go.Proofs

namespace Go.Proofs
open Go Go.Ab
set_option maxRecDepth 10000
set_option maxHeartbeats 1000000
set_option linter.unusedSimpArgs false
set_option linter.unusedVariables false
theorem go_value_Check_ok (n : Nat) (a0 : GValue) (r : Int) (h : go_value_Check n a0 = some r) : PCall Try.prog 38 [.agg a0.cs] (.int .i64 r) := by
  rw [go_value_Check] at h
  refine pcall_of Try.func38 rfl Try.ntmps38 (fun _ _ => Try.call38 _ _) fun lv E => ?_
  simp only [List.length_cons, List.length_nil, Nat.reduceAdd, Nat.reduceSub, List.replicate, List.cons_append, List.nil_append]
  have hA := AccG.nil (lv + 1)
  generalize ([] : List (Option AObj)) = L at hA ⊢
  repeat refine sat_seq ?_
  refine satO_reg ?_
  refine satO_step 1 [] ⟨.agg a0.cs :: .ptr (lv + 1) L.length 0 :: an 17 [], ⟨lv + 1, (L ++ [some (.cells a0.cs)]), E⟩, [], E⟩ [] (by simp -implicitDefEqProofs [GValue.cs]) claims_nil ?_
  have hA : AccG (lv + 1) (L ++ [some (.cells a0.cs)]) [] [(L.length, .cells a0.cs)] := hA.obj _
  generalize L.length = i2 at hA ⊢
  generalize (L ++ [some (.cells a0.cs)]) = L at hA ⊢
  have g0 := hA.get (k := 0) rfl
  refine satO_step 1 [] ⟨.agg a0.cs :: .ptr (lv + 1) i2 0 :: .int .i64 0 :: an 16 [], ⟨lv + 1, L, E⟩, [], E⟩ [] (by simp -implicitDefEqProofs [GValue.cs, g0]) claims_nil ?_
  refine satO_nil (by simp) ?_
  repeat refine sat_seq ?_
  refine satO_reg ?_
  obtain ⟨y3, q4, h⟩ := bnd_hi h
  have g0 := hA.get (k := 0) rfl
  refine satO_step 7 [(.tup [.int .i64 y3.1, .int .i64 y3.2], none)] ⟨.agg a0.cs :: .ptr (lv + 1) i2 0 :: .int .i64 0 :: .int .i64 y3.1 :: .int .i64 y3.2 :: .tup [.int .i64 y3.1, .int .i64 y3.2] :: .agg a0.cs :: .tup [.int .i64 y3.1, .int .i64 y3.2] :: .int .i64 y3.1 :: .int .i64 y3.2 :: an 9 [], ⟨lv + 1, L, E⟩, [], E⟩ [⟨55, [.agg a0.cs], ⟨lv + 1, L, E⟩, .tup [.int .i64 y3.1, .int .i64 y3.2], ⟨lv + 1, L, E⟩⟩] (by simp -implicitDefEqProofs [GValue.cs, g0]) (claims_cons (go_value_measure_ok _ _ _ q4 _) claims_nil) ?_
  refine satO_nil (by simp) ?_
  repeat refine sat_seq ?_
  refine sat_meet (fun σ => ∃ (x5 : Bool) (L : List (Option AObj)), AccG (lv + 1) L [] [(i2, .cells a0.cs)] ∧ go_value_Check_J1 n a0 x5 = some r ∧ σ = ⟨an 1 (.ptr (lv + 1) i2 0 :: an 13 (.bool x5 :: an 3 [])), ⟨lv + 1, L, E⟩, [], E⟩) ?_ ?_
  · refine satO_reg ?_
    rcases Bool.eq_false_or_eq_true (decide (100 < y3.1)) with hg6 | hg7
    · have h := ite_t hg6 h
      have hg6n := hg6
      try simp at hg6n
      have g0 := hA.get (k := 0) rfl
      refine satO_step 6 [] ⟨.agg a0.cs :: .ptr (lv + 1) i2 0 :: .int .i64 0 :: .int .i64 y3.1 :: .int .i64 y3.2 :: .tup [.int .i64 y3.1, .int .i64 y3.2] :: .agg a0.cs :: .tup [.int .i64 y3.1, .int .i64 y3.2] :: .int .i64 y3.1 :: .int .i64 y3.2 :: .int .i64 y3.1 :: .bool (decide (100 < y3.1)) :: .bool (decide (100 < y3.1)) :: .tup [] :: .tup [] :: .bool true :: an 3 [], ⟨lv + 1, L, E⟩, [], E⟩ [] (by first | (simp -implicitDefEqProofs [GValue.cs, g0, hg6]; done) | simp -implicitDefEqProofs [GValue.cs, g0, hg6, hg6n]) claims_nil ?_
      refine satO_nil (by simp) ?_
      refine ⟨⟨an 1 (.ptr (lv + 1) i2 0 :: an 13 (.bool true :: an 3 [])), ⟨lv + 1, L, E⟩, [], E⟩, weak_tmps ?_, true, L, hA, h, rfl⟩
      (try simp only [an, List.map_cons, List.map_nil]); repeat (first | exact VLeL.nil | refine VLeL.cons (by first | exact VLe.refl _ | exact VLe.any _ | exact VLe.nil _ _ | exact VLe.full _ _ | (refine VLe.agg' ?_; repeat (first | exact VLeL.nil | refine VLeL.cons (by first | exact VLe.refl _ | exact VLe.any _ | exact VLe.nil _ _) ?_))) ?_)
    · have h := ite_f hg7 h
      have hg7n := hg7
      try simp at hg7n
      have g0 := hA.get (k := 0) rfl
      refine satO_step 6 [] ⟨.agg a0.cs :: .ptr (lv + 1) i2 0 :: .int .i64 0 :: .int .i64 y3.1 :: .int .i64 y3.2 :: .tup [.int .i64 y3.1, .int .i64 y3.2] :: .agg a0.cs :: .tup [.int .i64 y3.1, .int .i64 y3.2] :: .int .i64 y3.1 :: .int .i64 y3.2 :: .int .i64 y3.1 :: .bool (decide (100 < y3.1)) :: .bool (decide (100 < y3.1)) :: .int .i64 y3.2 :: .bool (decide (6 < y3.2)) :: .bool (decide (6 < y3.2)) :: an 3 [], ⟨lv + 1, L, E⟩, [], E⟩ [] (by first | (simp -implicitDefEqProofs [GValue.cs, g0, hg7]; done) | simp -implicitDefEqProofs [GValue.cs, g0, hg7, hg7n]) claims_nil ?_
      refine satO_nil (by simp) ?_
      refine ⟨⟨an 1 (.ptr (lv + 1) i2 0 :: an 13 (.bool (decide (6 < y3.2)) :: an 3 [])), ⟨lv + 1, L, E⟩, [], E⟩, weak_tmps ?_, (decide (6 < y3.2)), L, hA, h, rfl⟩
      (try simp only [an, List.map_cons, List.map_nil]); repeat (first | exact VLeL.nil | refine VLeL.cons (by first | exact VLe.refl _ | exact VLe.any _ | exact VLe.nil _ _ | exact VLe.full _ _ | (refine VLe.agg' ?_; repeat (first | exact VLeL.nil | refine VLeL.cons (by first | exact VLe.refl _ | exact VLe.any _ | exact VLe.nil _ _) ?_))) ?_)
  · rintro σ0 σ hw ⟨x5, L, hA, h, rfl⟩
    rw [go_value_Check_J1] at h
    refine sat_weak hw ?_
    repeat refine sat_seq ?_
    refine sat_cond rfl (fun hb => ?_) (fun hb => ?_)
    · have h := ite_t hb h
      repeat refine sat_seq ?_
      refine satO_reg ?_
      have g0 := hA.get (k := 0) rfl
      refine satO_step 1 [] ⟨an 1 (.ptr (lv + 1) i2 0 :: .int .i64 4 :: an 12 (.bool x5 :: an 3 [])), ⟨lv + 1, L, E⟩, [], E⟩ [] (by simp -implicitDefEqProofs [GValue.cs, g0]) claims_nil ?_
      refine satO_nil (by simp) ?_
      repeat refine sat_seq ?_
      refine sat_ret ?_
      have g0 := hA.get (k := 0) rfl
      refine ends (v := .int .i64 4) (by simp [resultsV, resL, resV, tupOf, Try.f38, pLoad, g0, GValue.cs]) rfl rfl ?_
      injection h with h
      subst h
      exact (.keep _ (by simp [V.kin, V.kinL, GValue.cs]))
    · have h := ite_f hb h
      repeat refine sat_seq ?_
      refine sat_skip ?_
      repeat refine sat_seq ?_
      refine satO_reg ?_
      obtain ⟨y8, q9, h⟩ := bnd_hi h
      have g0 := hA.get (k := 0) rfl
      refine satO_step 3 [(.bool y8, none)] ⟨an 1 (.ptr (lv + 1) i2 0 :: an 13 (.bool x5 :: .agg a0.cs :: .bool y8 :: .bool (!y8) :: [])), ⟨lv + 1, L, E⟩, [], E⟩ [⟨56, [.agg a0.cs], ⟨lv + 1, L, E⟩, .bool y8, ⟨lv + 1, L, E⟩⟩] (by simp -implicitDefEqProofs [GValue.cs, g0]) (claims_cons (go_value_fine_ok _ _ _ q9 _) claims_nil) ?_
      refine satO_nil (by simp) ?_
      repeat refine sat_seq ?_
      refine sat_cond rfl (fun hb => ?_) (fun hb => ?_)
      · have h := ite_t hb h
        repeat refine sat_seq ?_
        refine satO_reg ?_
        have g0 := hA.get (k := 0) rfl
        refine satO_step 1 [] ⟨an 1 (.ptr (lv + 1) i2 0 :: .int .i64 8 :: an 12 (.bool x5 :: .agg a0.cs :: .bool y8 :: .bool (!y8) :: [])), ⟨lv + 1, L, E⟩, [], E⟩ [] (by simp -implicitDefEqProofs [GValue.cs, g0]) claims_nil ?_
        refine satO_nil (by simp) ?_
        repeat refine sat_seq ?_
        refine sat_ret ?_
        have g0 := hA.get (k := 0) rfl
        refine ends (v := .int .i64 8) (by simp [resultsV, resL, resV, tupOf, Try.f38, pLoad, g0, GValue.cs]) rfl rfl ?_
        injection h with h
        subst h
        exact (.keep _ (by simp [V.kin, V.kinL, GValue.cs]))
      · have h := ite_f hb h
        repeat refine sat_seq ?_
        refine sat_skip ?_
        repeat refine sat_seq ?_
        refine satO_reg ?_
        have g0 := hA.get (k := 0) rfl
        refine satO_step 1 [] ⟨an 1 (.ptr (lv + 1) i2 0 :: .int .i64 0 :: an 12 (.bool x5 :: .agg a0.cs :: .bool y8 :: .bool (!y8) :: [])), ⟨lv + 1, L, E⟩, [], E⟩ [] (by simp -implicitDefEqProofs [GValue.cs, g0]) claims_nil ?_
        refine satO_nil (by simp) ?_
        repeat refine sat_seq ?_
        refine sat_ret ?_
        have g0 := hA.get (k := 0) rfl
        refine ends (v := .int .i64 0) (by simp [resultsV, resL, resV, tupOf, Try.f38, pLoad, g0, GValue.cs]) rfl rfl ?_
        injection h with h
        subst h
        exact (.keep _ (by simp [V.kin, V.kinL, GValue.cs]))
end Go.Proofs

namespace Go.Proofs
open Go Go.Ab
set_option maxRecDepth 10000
set_option maxHeartbeats 1000000
set_option linter.unusedSimpArgs false
set_option linter.unusedVariables false
theorem go_report_named_ok (n : Nat) (a0 : List UInt8) (r : Bool) (h : go_report_named n a0 = some r) : PCall Try.prog 24 [.str a0] (.bool r) := by
  rw [go_report_named] at h
  refine pcall_of Try.func24 rfl Try.ntmps24 (fun _ _ => Try.call24 _ _) fun lv E => ?_
  simp only [List.length_cons, List.length_nil, Nat.reduceAdd, Nat.reduceSub, List.replicate, List.cons_append, List.nil_append]
  have hA := AccG.nil (lv + 1)
  generalize ([] : List (Option AObj)) = L at hA ⊢
  repeat refine sat_seq ?_
  refine satO_reg ?_
  refine satO_step 1 [] ⟨.str a0 :: an 1 (.bool false :: an 4 []), ⟨lv + 1, L, E⟩, [], E⟩ [] (by simp -implicitDefEqProofs []) claims_nil ?_
  refine satO_nil (by simp) ?_
  repeat refine sat_seq ?_
  refine satO_reg ?_
  obtain ⟨y1, q2, h⟩ := bnd_hi h
  obtain ⟨y3, q4, h⟩ := bnd_hi h
  refine satO_step 5 [(.agg y1.cs, none), (.int .i64 y3, none)] ⟨.str a0 :: an 1 (.bool (y3 == 0) :: .str a0 :: .agg y1.cs :: .int .i64 y3 :: .bool (y3 == 0) :: []), ⟨lv + 1, L, E⟩, [], E⟩ [⟨39, [.str a0], ⟨lv + 1, L, E⟩, .agg y1.cs, ⟨lv + 1, L, E⟩⟩, ⟨38, [.agg y1.cs], ⟨lv + 1, L, E⟩, .int .i64 y3, ⟨lv + 1, L, E⟩⟩] (by simp -implicitDefEqProofs [GValue.cs]) (claims_cons (go_report_str_ok _ _ _ q2 _) (claims_cons (go_value_Check_ok _ _ _ q4 _) claims_nil)) ?_
  refine satO_nil (by simp) ?_
  repeat refine sat_seq ?_
  refine sat_ret ?_
  refine ends (v := .bool (y3 == 0)) (by simp [resultsV, resL, resV, tupOf, Try.f24, pLoad, GValue.cs]) rfl rfl ?_
  injection h with h
  subst h
  exact (.keep _ (by simp [V.kin, V.kinL, GValue.cs]))
end Go.Proofs

namespace Go.Proofs
open Go Go.Ab
set_option maxRecDepth 10000
set_option maxHeartbeats 1000000
set_option linter.unusedSimpArgs false
set_option linter.unusedVariables false
theorem go_report_Check_ok (n : Nat) (a0 : List GTally) (r : Int) (h : go_report_Check n a0 = some r) : PCall Try.prog 10 [.sl 3 (a0.map GTally.el) false] (.int .i64 r) := by
  rcases n with _ | n
  · simp [go_report_Check] at h
  rw [go_report_Check] at h
  refine pcall_of Try.func10 rfl Try.ntmps10 (fun _ _ => Try.call10 _ _) fun lv E => ?_
  simp only [List.length_cons, List.length_nil, Nat.reduceAdd, Nat.reduceSub, List.replicate, List.cons_append, List.nil_append]
  have hA := AccG.nil (lv + 1)
  generalize ([] : List (Option AObj)) = L at hA ⊢
  repeat refine sat_seq ?_
  refine satO_reg ?_
  refine satO_step 1 [] ⟨.sl 3 (a0.map GTally.el) false :: an 1 (.int .i64 0 :: an 52 []), ⟨lv + 1, L, E⟩, [], E⟩ [] (by simp -implicitDefEqProofs []) claims_nil ?_
  refine satO_nil (by simp) ?_
  repeat refine sat_seq ?_
  refine satO_reg ?_
  refine satO_step 3 [] ⟨.sl 3 (a0.map GTally.el) false :: an 1 (.int .i64 0 :: an 2 (.sl 3 (a0.map GTally.el) false :: .int .i64 (a0.length : Int) :: .bool (decide (200 < (a0.length : Int))) :: an 47 [])), ⟨lv + 1, L, E⟩, [], E⟩ [] (by simp -implicitDefEqProofs []) claims_nil ?_
  refine satO_nil (by simp) ?_
  repeat refine sat_seq ?_
  refine sat_cond rfl (fun hb => ?_) (fun hb => ?_)
  · have h := ite_t hb h
    repeat refine sat_seq ?_
    refine satO_reg ?_
    refine satO_step 1 [] ⟨.sl 3 (a0.map GTally.el) false :: an 1 (.int .i64 4 :: an 2 (.sl 3 (a0.map GTally.el) false :: .int .i64 (a0.length : Int) :: .bool (decide (200 < (a0.length : Int))) :: an 47 [])), ⟨lv + 1, L, E⟩, [], E⟩ [] (by simp -implicitDefEqProofs []) claims_nil ?_
    refine satO_nil (by simp) ?_
    repeat refine sat_seq ?_
    refine sat_ret ?_
    refine ends (v := .int .i64 4) (by simp [resultsV, resL, resV, tupOf, Try.f10, pLoad]) rfl rfl ?_
    injection h with h
    subst h
    exact (.keep _ (by simp [V.kin, V.kinL]))
  · have h := ite_f hb h
    repeat refine sat_seq ?_
    refine sat_skip ?_
    repeat refine sat_seq ?_
    refine satO_reg ?_
    refine satO_step 3 [] ⟨.sl 3 (a0.map GTally.el) false :: an 1 (.int .i64 0 :: an 2 (.sl 3 (a0.map GTally.el) false :: .int .i64 (a0.length : Int) :: .bool (decide (200 < (a0.length : Int))) :: .sl 3 (a0.map GTally.el) false :: .int .i64 (a0.length : Int) :: .int .i64 0 :: an 44 [])), ⟨lv + 1, L, E⟩, [], E⟩ [] (by simp -implicitDefEqProofs []) claims_nil ?_
    refine satO_nil (by simp) ?_
    repeat refine sat_seq ?_
    refine sat_block ?_
    repeat refine sat_seq ?_
    refine sat_loop (fun k σ => ∃ (x1 : Int) (L : List (Option AObj)), k ≤ n ∧ AccG (lv + 1) L [] [] ∧ go_report_Check_L1 k a0 x1 = some r ∧ σ = ⟨.sl 3 (a0.map GTally.el) false :: an 7 (.sl 3 (a0.map GTally.el) false :: .int .i64 (a0.length : Int) :: .int .i64 x1 :: an 44 []), ⟨lv + 1, L, E⟩, [], E⟩) n ⟨.sl 3 (a0.map GTally.el) false :: an 7 (.sl 3 (a0.map GTally.el) false :: .int .i64 (a0.length : Int) :: .int .i64 0 :: an 44 []), ⟨lv + 1, L, E⟩, [], E⟩ (weak_tmps ?_) ⟨0, L, Nat.le_refl _, hA, h, rfl⟩ ?_
    · (try simp only [an, List.map_cons, List.map_nil]); repeat (first | exact VLeL.nil | refine VLeL.cons (by first | exact VLe.refl _ | exact VLe.any _ | exact VLe.nil _ _ | exact VLe.full _ _ | (refine VLe.agg' ?_; repeat (first | exact VLeL.nil | refine VLeL.cons (by first | exact VLe.refl _ | exact VLe.any _ | exact VLe.nil _ _) ?_))) ?_)
    · rintro k σ ⟨x1, L, hk, hA, h, rfl⟩
      rcases k with _ | n
      · simp [go_report_Check_L1] at h
      · rw [go_report_Check_L1] at h
        repeat refine sat_seq ?_
        refine satO_reg ?_
        refine satO_step 1 [] ⟨.sl 3 (a0.map GTally.el) false :: an 7 (.sl 3 (a0.map GTally.el) false :: .int .i64 (a0.length : Int) :: .int .i64 x1 :: .bool (decide (x1 < (a0.length : Int))) :: an 43 []), ⟨lv + 1, L, E⟩, [], E⟩ [] (by simp -implicitDefEqProofs []) claims_nil ?_
        refine satO_nil (by simp) ?_
        repeat refine sat_seq ?_
        refine sat_cond rfl (fun hb => ?_) (fun hb => ?_)
        · have h := ite_t hb h
          repeat refine sat_seq ?_
          refine sat_skip ?_
          repeat refine sat_seq ?_
          refine sat_block ?_
          repeat refine sat_seq ?_
          refine satO_reg ?_
          obtain ⟨x2, q3, h⟩ := bnd_hi h
          obtain ⟨q3, q4⟩ := ix_some q3
          refine satO_step 3 [] ⟨.sl 3 (a0.map GTally.el) false :: an 7 (.sl 3 (a0.map GTally.el) false :: .int .i64 (a0.length : Int) :: .int .i64 x1 :: .bool (decide (x1 < (a0.length : Int))) :: .int .i64 x1 :: .ref x2.cs 0 :: .agg x2.cs :: an 40 []), ⟨lv + 1, L, E⟩, [], E⟩ [] (by simp -implicitDefEqProofs [GTally.cs, q3, q4, GTally.el_cs]) claims_nil ?_
          refine satO_step 1 [] ⟨.sl 3 (a0.map GTally.el) false :: an 3 (.ptr (lv + 1) L.length 0 :: an 3 (.sl 3 (a0.map GTally.el) false :: .int .i64 (a0.length : Int) :: .int .i64 x1 :: .bool (decide (x1 < (a0.length : Int))) :: .int .i64 x1 :: .ref x2.cs 0 :: .agg x2.cs :: an 40 [])), ⟨lv + 1, (L ++ [some (.cells [.str ([]), .int .i64 0, .int .i64 0])]), E⟩, [], E⟩ [] (by simp -implicitDefEqProofs [GTally.cs]) claims_nil ?_
          have hA : AccG (lv + 1) (L ++ [some (.cells [.str ([]), .int .i64 0, .int .i64 0])]) [] [(L.length, .cells [.str ([]), .int .i64 0, .int .i64 0])] := hA.obj _
          generalize L.length = i6 at hA ⊢
          generalize (L ++ [some (.cells [.str ([]), .int .i64 0, .int .i64 0])]) = L at hA ⊢
          have g0 := hA.get (k := 0) rfl
          refine satO_step 1 [] ⟨.sl 3 (a0.map GTally.el) false :: an 2 (.int .i64 x1 :: .ptr (lv + 1) i6 0 :: an 3 (.sl 3 (a0.map GTally.el) false :: .int .i64 (a0.length : Int) :: .int .i64 x1 :: .bool (decide (x1 < (a0.length : Int))) :: .int .i64 x1 :: .ref x2.cs 0 :: .agg x2.cs :: an 40 [])), ⟨lv + 1, L, E⟩, [], E⟩ [] (by simp -implicitDefEqProofs [GTally.cs, g0]) claims_nil ?_
          have g0 := hA.get (k := 0) rfl
          refine satO_step 1 [] ⟨.sl 3 (a0.map GTally.el) false :: an 2 (.int .i64 x1 :: .ptr (lv + 1) i6 0 :: an 3 (.sl 3 (a0.map GTally.el) false :: .int .i64 (a0.length : Int) :: .int .i64 x1 :: .bool (decide (x1 < (a0.length : Int))) :: .int .i64 x1 :: .ref x2.cs 0 :: .agg x2.cs :: an 40 [])), ⟨lv + 1, (L.set i6 (some (.cells x2.cs))), E⟩, [], E⟩ [] (by simp -implicitDefEqProofs [GTally.cs, g0]) claims_nil ?_
          have hA : AccG (lv + 1) (L.set i6 (some (.cells x2.cs))) [] [(i6, .cells x2.cs)] := hA.upd (k := 0) rfl _
          generalize (L.set i6 (some (.cells x2.cs))) = L at hA ⊢
          refine satO_nil (by simp) ?_
          repeat refine sat_seq ?_
          refine sat_meet (fun σ => ∃ (k : Nat), k ≤ n ∧ ∃ (x7 : Bool) (L : List (Option AObj)), AccG (lv + 1) L [] [] ∧ go_report_Check_J1 k a0 x1 x7 = some r ∧ σ = ⟨.sl 3 (a0.map GTally.el) false :: an 7 (.sl 3 (a0.map GTally.el) false :: .int .i64 (a0.length : Int) :: .int .i64 x1 :: an 42 (.bool x7 :: an 1 [])), ⟨lv + 1, L, E⟩, [], E⟩) ?_ ?_
          · obtain ⟨y8, q9, h⟩ := bnd_hi h
            rcases Bool.eq_false_or_eq_true (!y8) with hg10 | hg11
            · have h := ite_t hg10 h
              have hg10n := hg10
              try simp at hg10n
              have g0 := hA.get (k := 0) rfl
              refine satO_drw (by kernel_rfl) (by kernel_rfl) [.bool y8] ⟨.sl 3 (a0.map GTally.el) false :: an 2 (.int .i64 x1 :: .ptr (lv + 1) i6 0 :: an 3 (.sl 3 (a0.map GTally.el) false :: .int .i64 (a0.length : Int) :: .int .i64 x1 :: .bool (decide (x1 < (a0.length : Int))) :: .int .i64 x1 :: .ref x2.cs 0 :: .agg x2.cs :: .ptr (lv + 1) i6 0 :: .str x2.name :: .bool y8 :: .bool (!y8) :: .bool (!y8) :: .tup [] :: .tup [] :: .tup [] :: .tup [] :: .tup [] :: .tup [] :: .tup [] :: .tup [] :: .tup [] :: .tup [] :: .tup [] :: .tup [] :: .tup [] :: .bool true :: .bool true :: .tup [] :: .tup [] :: .tup [] :: .bool true :: .bool true :: .tup [] :: .tup [] :: .tup [] :: .bool true :: .bool true :: .tup [] :: .tup [] :: .tup [] :: .bool true :: .bool true :: .tup [] :: .tup [] :: .tup [] :: .bool true :: an 1 [])), ⟨lv + 1, L, E⟩, [], E⟩ [⟨24, [.str x2.name], ⟨lv + 1, L, E⟩, .bool y8, ⟨lv + 1, L, E⟩⟩] (by first | (simp -implicitDefEqProofs [GTally.cs, g0, hg10]; done) | simp -implicitDefEqProofs [GTally.cs, g0, hg10, hg10n]) (claims_cons (go_report_named_ok _ _ _ q9 _) claims_nil) ?_
              have hA : AccG (lv + 1) L [] [] := hA.sel [] (by simp) rfl (.cons _ .slnil)
              refine ⟨⟨.sl 3 (a0.map GTally.el) false :: an 7 (.sl 3 (a0.map GTally.el) false :: .int .i64 (a0.length : Int) :: .int .i64 x1 :: an 42 (.bool true :: an 1 [])), ⟨lv + 1, L, E⟩, [], E⟩, weak_tmps ?_, n, by omega, true, L, hA, h, rfl⟩
              (try simp only [an, List.map_cons, List.map_nil]); repeat (first | exact VLeL.nil | refine VLeL.cons (by first | exact VLe.refl _ | exact VLe.any _ | exact VLe.nil _ _ | exact VLe.full _ _ | (refine VLe.agg' ?_; repeat (first | exact VLeL.nil | refine VLeL.cons (by first | exact VLe.refl _ | exact VLe.any _ | exact VLe.nil _ _) ?_))) ?_)
            · have h := ite_f hg11 h
              have hg11n := hg11
              try simp at hg11n
              rcases Bool.eq_false_or_eq_true (decide (0 < x1)) with hg12 | hg24
              · have h := ite_t hg12 h
                have hg12n := hg12
                try simp at hg12n
                obtain ⟨x13, q14, h⟩ := bnd_hi h
                obtain ⟨q14, q15⟩ := ix_some q14
                rcases Bool.eq_false_or_eq_true (!(Op.bytesLess x13.name x2.name)) with hg16 | hg17
                · have h := ite_t hg16 h
                  have hg16n := hg16
                  try simp at hg16n
                  have g0 := hA.get (k := 0) rfl
                  refine satO_drw (by kernel_rfl) (by kernel_rfl) [.bool y8] ⟨.sl 3 (a0.map GTally.el) false :: an 2 (.int .i64 x1 :: .ptr (lv + 1) i6 0 :: an 3 (.sl 3 (a0.map GTally.el) false :: .int .i64 (a0.length : Int) :: .int .i64 x1 :: .bool (decide (x1 < (a0.length : Int))) :: .int .i64 x1 :: .ref x2.cs 0 :: .agg x2.cs :: .ptr (lv + 1) i6 0 :: .str x2.name :: .bool y8 :: .bool (!y8) :: .bool (!y8) :: .int .i64 x1 :: .bool (decide (0 < x1)) :: .bool (decide (0 < x1)) :: .sl 3 (a0.map GTally.el) false :: .int .i64 x1 :: .int .i64 (IntKind.i64.wrap (x1 - 1)) :: .ref x13.cs 0 :: .ref x13.cs 0 :: .str x13.name :: .ptr (lv + 1) i6 0 :: .str x2.name :: .bool (!(Op.bytesLess x13.name x2.name)) :: .bool (!(Op.bytesLess x13.name x2.name)) :: .bool (!(Op.bytesLess x13.name x2.name)) :: .bool (!(Op.bytesLess x13.name x2.name)) :: .tup [] :: .tup [] :: .tup [] :: .bool true :: .bool true :: .tup [] :: .tup [] :: .tup [] :: .bool true :: .bool true :: .tup [] :: .tup [] :: .tup [] :: .bool true :: .bool true :: .tup [] :: .tup [] :: .tup [] :: .bool true :: an 1 [])), ⟨lv + 1, L, E⟩, [], E⟩ [⟨24, [.str x2.name], ⟨lv + 1, L, E⟩, .bool y8, ⟨lv + 1, L, E⟩⟩] (by first | (simp -implicitDefEqProofs [GTally.cs, g0, hg11, hg12, q14, q15, GTally.el_cs, hg16]; done) | simp -implicitDefEqProofs [GTally.cs, g0, hg11, hg12, q14, q15, GTally.el_cs, hg16, hg11n, hg12n, hg16n]) (claims_cons (go_report_named_ok _ _ _ q9 _) claims_nil) ?_
                  have hA : AccG (lv + 1) L [] [] := hA.sel [] (by simp) rfl (.cons _ .slnil)
                  refine ⟨⟨.sl 3 (a0.map GTally.el) false :: an 7 (.sl 3 (a0.map GTally.el) false :: .int .i64 (a0.length : Int) :: .int .i64 x1 :: an 42 (.bool true :: an 1 [])), ⟨lv + 1, L, E⟩, [], E⟩, weak_tmps ?_, n, by omega, true, L, hA, h, rfl⟩
                  (try simp only [an, List.map_cons, List.map_nil]); repeat (first | exact VLeL.nil | refine VLeL.cons (by first | exact VLe.refl _ | exact VLe.any _ | exact VLe.nil _ _ | exact VLe.full _ _ | (refine VLe.agg' ?_; repeat (first | exact VLeL.nil | refine VLeL.cons (by first | exact VLe.refl _ | exact VLe.any _ | exact VLe.nil _ _) ?_))) ?_)
                · have h := ite_f hg17 h
                  have hg17n := hg17
                  try simp at hg17n
                  rcases Bool.eq_false_or_eq_true (decide (x2.count < 1)) with hg18 | hg19
                  · have h := ite_t hg18 h
                    have hg18n := hg18
                    try simp at hg18n
                    have g0 := hA.get (k := 0) rfl
                    refine satO_drw (by kernel_rfl) (by kernel_rfl) [.bool y8] ⟨.sl 3 (a0.map GTally.el) false :: an 2 (.int .i64 x1 :: .ptr (lv + 1) i6 0 :: an 3 (.sl 3 (a0.map GTally.el) false :: .int .i64 (a0.length : Int) :: .int .i64 x1 :: .bool (decide (x1 < (a0.length : Int))) :: .int .i64 x1 :: .ref x2.cs 0 :: .agg x2.cs :: .ptr (lv + 1) i6 0 :: .str x2.name :: .bool y8 :: .bool (!y8) :: .bool (!y8) :: .int .i64 x1 :: .bool (decide (0 < x1)) :: .bool (decide (0 < x1)) :: .sl 3 (a0.map GTally.el) false :: .int .i64 x1 :: .int .i64 (IntKind.i64.wrap (x1 - 1)) :: .ref x13.cs 0 :: .ref x13.cs 0 :: .str x13.name :: .ptr (lv + 1) i6 0 :: .str x2.name :: .bool (!(Op.bytesLess x13.name x2.name)) :: .bool (!(Op.bytesLess x13.name x2.name)) :: .bool (!(Op.bytesLess x13.name x2.name)) :: .bool (!(Op.bytesLess x13.name x2.name)) :: .ptr (lv + 1) i6 1 :: .int .i64 x2.count :: .bool (decide (x2.count < 1)) :: .bool (decide (x2.count < 1)) :: .bool (decide (x2.count < 1)) :: .tup [] :: .tup [] :: .tup [] :: .bool true :: .bool true :: .tup [] :: .tup [] :: .tup [] :: .bool true :: .bool true :: .tup [] :: .tup [] :: .tup [] :: .bool true :: an 1 [])), ⟨lv + 1, L, E⟩, [], E⟩ [⟨24, [.str x2.name], ⟨lv + 1, L, E⟩, .bool y8, ⟨lv + 1, L, E⟩⟩] (by first | (simp -implicitDefEqProofs [GTally.cs, g0, hg11, hg12, q14, q15, GTally.el_cs, hg17, hg18]; done) | simp -implicitDefEqProofs [GTally.cs, g0, hg11, hg12, q14, q15, GTally.el_cs, hg17, hg18, hg11n, hg12n, hg17n, hg18n]) (claims_cons (go_report_named_ok _ _ _ q9 _) claims_nil) ?_
                    have hA : AccG (lv + 1) L [] [] := hA.sel [] (by simp) rfl (.cons _ .slnil)
                    refine ⟨⟨.sl 3 (a0.map GTally.el) false :: an 7 (.sl 3 (a0.map GTally.el) false :: .int .i64 (a0.length : Int) :: .int .i64 x1 :: an 42 (.bool true :: an 1 [])), ⟨lv + 1, L, E⟩, [], E⟩, weak_tmps ?_, n, by omega, true, L, hA, h, rfl⟩
                    (try simp only [an, List.map_cons, List.map_nil]); repeat (first | exact VLeL.nil | refine VLeL.cons (by first | exact VLe.refl _ | exact VLe.any _ | exact VLe.nil _ _ | exact VLe.full _ _ | (refine VLe.agg' ?_; repeat (first | exact VLeL.nil | refine VLeL.cons (by first | exact VLe.refl _ | exact VLe.any _ | exact VLe.nil _ _) ?_))) ?_)
                  · have h := ite_f hg19 h
                    have hg19n := hg19
                    try simp at hg19n
                    rcases Bool.eq_false_or_eq_true (decide (1000000000 < x2.count)) with hg20 | hg21
                    · have h := ite_t hg20 h
                      have hg20n := hg20
                      try simp at hg20n
                      have g0 := hA.get (k := 0) rfl
                      refine satO_drw (by kernel_rfl) (by kernel_rfl) [.bool y8] ⟨.sl 3 (a0.map GTally.el) false :: an 2 (.int .i64 x1 :: .ptr (lv + 1) i6 0 :: an 3 (.sl 3 (a0.map GTally.el) false :: .int .i64 (a0.length : Int) :: .int .i64 x1 :: .bool (decide (x1 < (a0.length : Int))) :: .int .i64 x1 :: .ref x2.cs 0 :: .agg x2.cs :: .ptr (lv + 1) i6 0 :: .str x2.name :: .bool y8 :: .bool (!y8) :: .bool (!y8) :: .int .i64 x1 :: .bool (decide (0 < x1)) :: .bool (decide (0 < x1)) :: .sl 3 (a0.map GTally.el) false :: .int .i64 x1 :: .int .i64 (IntKind.i64.wrap (x1 - 1)) :: .ref x13.cs 0 :: .ref x13.cs 0 :: .str x13.name :: .ptr (lv + 1) i6 0 :: .str x2.name :: .bool (!(Op.bytesLess x13.name x2.name)) :: .bool (!(Op.bytesLess x13.name x2.name)) :: .bool (!(Op.bytesLess x13.name x2.name)) :: .bool (!(Op.bytesLess x13.name x2.name)) :: .ptr (lv + 1) i6 1 :: .int .i64 x2.count :: .bool (decide (x2.count < 1)) :: .bool (decide (x2.count < 1)) :: .bool (decide (x2.count < 1)) :: .ptr (lv + 1) i6 1 :: .int .i64 x2.count :: .bool (decide (1000000000 < x2.count)) :: .bool (decide (1000000000 < x2.count)) :: .bool (decide (1000000000 < x2.count)) :: .tup [] :: .tup [] :: .tup [] :: .bool true :: .bool true :: .tup [] :: .tup [] :: .tup [] :: .bool true :: an 1 [])), ⟨lv + 1, L, E⟩, [], E⟩ [⟨24, [.str x2.name], ⟨lv + 1, L, E⟩, .bool y8, ⟨lv + 1, L, E⟩⟩] (by first | (simp -implicitDefEqProofs [GTally.cs, g0, hg11, hg12, q14, q15, GTally.el_cs, hg17, hg19, hg20]; done) | simp -implicitDefEqProofs [GTally.cs, g0, hg11, hg12, q14, q15, GTally.el_cs, hg17, hg19, hg20, hg11n, hg12n, hg17n, hg19n, hg20n]) (claims_cons (go_report_named_ok _ _ _ q9 _) claims_nil) ?_
                      have hA : AccG (lv + 1) L [] [] := hA.sel [] (by simp) rfl (.cons _ .slnil)
                      refine ⟨⟨.sl 3 (a0.map GTally.el) false :: an 7 (.sl 3 (a0.map GTally.el) false :: .int .i64 (a0.length : Int) :: .int .i64 x1 :: an 42 (.bool true :: an 1 [])), ⟨lv + 1, L, E⟩, [], E⟩, weak_tmps ?_, n, by omega, true, L, hA, h, rfl⟩
                      (try simp only [an, List.map_cons, List.map_nil]); repeat (first | exact VLeL.nil | refine VLeL.cons (by first | exact VLe.refl _ | exact VLe.any _ | exact VLe.nil _ _ | exact VLe.full _ _ | (refine VLe.agg' ?_; repeat (first | exact VLeL.nil | refine VLeL.cons (by first | exact VLe.refl _ | exact VLe.any _ | exact VLe.nil _ _) ?_))) ?_)
                    · have h := ite_f hg21 h
                      have hg21n := hg21
                      try simp at hg21n
                      rcases Bool.eq_false_or_eq_true (decide (x2.volume < 0)) with hg22 | hg23
                      · have h := ite_t hg22 h
                        have hg22n := hg22
                        try simp at hg22n
                        have g0 := hA.get (k := 0) rfl
                        refine satO_drw (by kernel_rfl) (by kernel_rfl) [.bool y8] ⟨.sl 3 (a0.map GTally.el) false :: an 2 (.int .i64 x1 :: .ptr (lv + 1) i6 0 :: an 3 (.sl 3 (a0.map GTally.el) false :: .int .i64 (a0.length : Int) :: .int .i64 x1 :: .bool (decide (x1 < (a0.length : Int))) :: .int .i64 x1 :: .ref x2.cs 0 :: .agg x2.cs :: .ptr (lv + 1) i6 0 :: .str x2.name :: .bool y8 :: .bool (!y8) :: .bool (!y8) :: .int .i64 x1 :: .bool (decide (0 < x1)) :: .bool (decide (0 < x1)) :: .sl 3 (a0.map GTally.el) false :: .int .i64 x1 :: .int .i64 (IntKind.i64.wrap (x1 - 1)) :: .ref x13.cs 0 :: .ref x13.cs 0 :: .str x13.name :: .ptr (lv + 1) i6 0 :: .str x2.name :: .bool (!(Op.bytesLess x13.name x2.name)) :: .bool (!(Op.bytesLess x13.name x2.name)) :: .bool (!(Op.bytesLess x13.name x2.name)) :: .bool (!(Op.bytesLess x13.name x2.name)) :: .ptr (lv + 1) i6 1 :: .int .i64 x2.count :: .bool (decide (x2.count < 1)) :: .bool (decide (x2.count < 1)) :: .bool (decide (x2.count < 1)) :: .ptr (lv + 1) i6 1 :: .int .i64 x2.count :: .bool (decide (1000000000 < x2.count)) :: .bool (decide (1000000000 < x2.count)) :: .bool (decide (1000000000 < x2.count)) :: .ptr (lv + 1) i6 2 :: .int .i64 x2.volume :: .bool (decide (x2.volume < 0)) :: .bool (decide (x2.volume < 0)) :: .bool (decide (x2.volume < 0)) :: .tup [] :: .tup [] :: .tup [] :: .bool true :: an 1 [])), ⟨lv + 1, L, E⟩, [], E⟩ [⟨24, [.str x2.name], ⟨lv + 1, L, E⟩, .bool y8, ⟨lv + 1, L, E⟩⟩] (by first | (simp -implicitDefEqProofs [GTally.cs, g0, hg11, hg12, q14, q15, GTally.el_cs, hg17, hg19, hg21, hg22]; done) | simp -implicitDefEqProofs [GTally.cs, g0, hg11, hg12, q14, q15, GTally.el_cs, hg17, hg19, hg21, hg22, hg11n, hg12n, hg17n, hg19n, hg21n, hg22n]) (claims_cons (go_report_named_ok _ _ _ q9 _) claims_nil) ?_
                        have hA : AccG (lv + 1) L [] [] := hA.sel [] (by simp) rfl (.cons _ .slnil)
                        refine ⟨⟨.sl 3 (a0.map GTally.el) false :: an 7 (.sl 3 (a0.map GTally.el) false :: .int .i64 (a0.length : Int) :: .int .i64 x1 :: an 42 (.bool true :: an 1 [])), ⟨lv + 1, L, E⟩, [], E⟩, weak_tmps ?_, n, by omega, true, L, hA, h, rfl⟩
                        (try simp only [an, List.map_cons, List.map_nil]); repeat (first | exact VLeL.nil | refine VLeL.cons (by first | exact VLe.refl _ | exact VLe.any _ | exact VLe.nil _ _ | exact VLe.full _ _ | (refine VLe.agg' ?_; repeat (first | exact VLeL.nil | refine VLeL.cons (by first | exact VLe.refl _ | exact VLe.any _ | exact VLe.nil _ _) ?_))) ?_)
                      · have h := ite_f hg23 h
                        have hg23n := hg23
                        try simp at hg23n
                        have g0 := hA.get (k := 0) rfl
                        refine satO_drw (by kernel_rfl) (by kernel_rfl) [.bool y8] ⟨.sl 3 (a0.map GTally.el) false :: an 2 (.int .i64 x1 :: .ptr (lv + 1) i6 0 :: an 3 (.sl 3 (a0.map GTally.el) false :: .int .i64 (a0.length : Int) :: .int .i64 x1 :: .bool (decide (x1 < (a0.length : Int))) :: .int .i64 x1 :: .ref x2.cs 0 :: .agg x2.cs :: .ptr (lv + 1) i6 0 :: .str x2.name :: .bool y8 :: .bool (!y8) :: .bool (!y8) :: .int .i64 x1 :: .bool (decide (0 < x1)) :: .bool (decide (0 < x1)) :: .sl 3 (a0.map GTally.el) false :: .int .i64 x1 :: .int .i64 (IntKind.i64.wrap (x1 - 1)) :: .ref x13.cs 0 :: .ref x13.cs 0 :: .str x13.name :: .ptr (lv + 1) i6 0 :: .str x2.name :: .bool (!(Op.bytesLess x13.name x2.name)) :: .bool (!(Op.bytesLess x13.name x2.name)) :: .bool (!(Op.bytesLess x13.name x2.name)) :: .bool (!(Op.bytesLess x13.name x2.name)) :: .ptr (lv + 1) i6 1 :: .int .i64 x2.count :: .bool (decide (x2.count < 1)) :: .bool (decide (x2.count < 1)) :: .bool (decide (x2.count < 1)) :: .ptr (lv + 1) i6 1 :: .int .i64 x2.count :: .bool (decide (1000000000 < x2.count)) :: .bool (decide (1000000000 < x2.count)) :: .bool (decide (1000000000 < x2.count)) :: .ptr (lv + 1) i6 2 :: .int .i64 x2.volume :: .bool (decide (x2.volume < 0)) :: .bool (decide (x2.volume < 0)) :: .bool (decide (x2.volume < 0)) :: .ptr (lv + 1) i6 2 :: .int .i64 x2.volume :: .bool (decide (1000000000000000000 < x2.volume)) :: .bool (decide (1000000000000000000 < x2.volume)) :: an 1 [])), ⟨lv + 1, L, E⟩, [], E⟩ [⟨24, [.str x2.name], ⟨lv + 1, L, E⟩, .bool y8, ⟨lv + 1, L, E⟩⟩] (by first | (simp -implicitDefEqProofs [GTally.cs, g0, hg11, hg12, q14, q15, GTally.el_cs, hg17, hg19, hg21, hg23]; done) | simp -implicitDefEqProofs [GTally.cs, g0, hg11, hg12, q14, q15, GTally.el_cs, hg17, hg19, hg21, hg23, hg11n, hg12n, hg17n, hg19n, hg21n, hg23n]) (claims_cons (go_report_named_ok _ _ _ q9 _) claims_nil) ?_
                        have hA : AccG (lv + 1) L [] [] := hA.sel [] (by simp) rfl (.cons _ .slnil)
                        refine ⟨⟨.sl 3 (a0.map GTally.el) false :: an 7 (.sl 3 (a0.map GTally.el) false :: .int .i64 (a0.length : Int) :: .int .i64 x1 :: an 42 (.bool (decide (1000000000000000000 < x2.volume)) :: an 1 [])), ⟨lv + 1, L, E⟩, [], E⟩, weak_tmps ?_, n, by omega, (decide (1000000000000000000 < x2.volume)), L, hA, h, rfl⟩
                        (try simp only [an, List.map_cons, List.map_nil]); repeat (first | exact VLeL.nil | refine VLeL.cons (by first | exact VLe.refl _ | exact VLe.any _ | exact VLe.nil _ _ | exact VLe.full _ _ | (refine VLe.agg' ?_; repeat (first | exact VLeL.nil | refine VLeL.cons (by first | exact VLe.refl _ | exact VLe.any _ | exact VLe.nil _ _) ?_))) ?_)
              · have h := ite_f hg24 h
                have hg24n := hg24
                try simp at hg24n
                rcases Bool.eq_false_or_eq_true (decide (x2.count < 1)) with hg25 | hg26
                · have h := ite_t hg25 h
                  have hg25n := hg25
                  try simp at hg25n
                  have g0 := hA.get (k := 0) rfl
                  refine satO_drw (by kernel_rfl) (by kernel_rfl) [.bool y8] ⟨.sl 3 (a0.map GTally.el) false :: an 2 (.int .i64 x1 :: .ptr (lv + 1) i6 0 :: an 3 (.sl 3 (a0.map GTally.el) false :: .int .i64 (a0.length : Int) :: .int .i64 x1 :: .bool (decide (x1 < (a0.length : Int))) :: .int .i64 x1 :: .ref x2.cs 0 :: .agg x2.cs :: .ptr (lv + 1) i6 0 :: .str x2.name :: .bool y8 :: .bool (!y8) :: .bool (!y8) :: .int .i64 x1 :: .bool (decide (0 < x1)) :: .bool (decide (0 < x1)) :: .tup [] :: .tup [] :: .tup [] :: .tup [] :: .tup [] :: .tup [] :: .tup [] :: .tup [] :: .tup [] :: .bool false :: .bool false :: .bool false :: .ptr (lv + 1) i6 1 :: .int .i64 x2.count :: .bool (decide (x2.count < 1)) :: .bool (decide (x2.count < 1)) :: .bool (decide (x2.count < 1)) :: .tup [] :: .tup [] :: .tup [] :: .bool true :: .bool true :: .tup [] :: .tup [] :: .tup [] :: .bool true :: .bool true :: .tup [] :: .tup [] :: .tup [] :: .bool true :: an 1 [])), ⟨lv + 1, L, E⟩, [], E⟩ [⟨24, [.str x2.name], ⟨lv + 1, L, E⟩, .bool y8, ⟨lv + 1, L, E⟩⟩] (by first | (simp -implicitDefEqProofs [GTally.cs, g0, hg11, hg24, hg25]; done) | simp -implicitDefEqProofs [GTally.cs, g0, hg11, hg24, hg25, hg11n, hg24n, hg25n]) (claims_cons (go_report_named_ok _ _ _ q9 _) claims_nil) ?_
                  have hA : AccG (lv + 1) L [] [] := hA.sel [] (by simp) rfl (.cons _ .slnil)
                  refine ⟨⟨.sl 3 (a0.map GTally.el) false :: an 7 (.sl 3 (a0.map GTally.el) false :: .int .i64 (a0.length : Int) :: .int .i64 x1 :: an 42 (.bool true :: an 1 [])), ⟨lv + 1, L, E⟩, [], E⟩, weak_tmps ?_, n, by omega, true, L, hA, h, rfl⟩
                  (try simp only [an, List.map_cons, List.map_nil]); repeat (first | exact VLeL.nil | refine VLeL.cons (by first | exact VLe.refl _ | exact VLe.any _ | exact VLe.nil _ _ | exact VLe.full _ _ | (refine VLe.agg' ?_; repeat (first | exact VLeL.nil | refine VLeL.cons (by first | exact VLe.refl _ | exact VLe.any _ | exact VLe.nil _ _) ?_))) ?_)
                · have h := ite_f hg26 h
                  have hg26n := hg26
                  try simp at hg26n
                  rcases Bool.eq_false_or_eq_true (decide (1000000000 < x2.count)) with hg27 | hg28
                  · have h := ite_t hg27 h
                    have hg27n := hg27
                    try simp at hg27n
                    have g0 := hA.get (k := 0) rfl
                    refine satO_drw (by kernel_rfl) (by kernel_rfl) [.bool y8] ⟨.sl 3 (a0.map GTally.el) false :: an 2 (.int .i64 x1 :: .ptr (lv + 1) i6 0 :: an 3 (.sl 3 (a0.map GTally.el) false :: .int .i64 (a0.length : Int) :: .int .i64 x1 :: .bool (decide (x1 < (a0.length : Int))) :: .int .i64 x1 :: .ref x2.cs 0 :: .agg x2.cs :: .ptr (lv + 1) i6 0 :: .str x2.name :: .bool y8 :: .bool (!y8) :: .bool (!y8) :: .int .i64 x1 :: .bool (decide (0 < x1)) :: .bool (decide (0 < x1)) :: .tup [] :: .tup [] :: .tup [] :: .tup [] :: .tup [] :: .tup [] :: .tup [] :: .tup [] :: .tup [] :: .bool false :: .bool false :: .bool false :: .ptr (lv + 1) i6 1 :: .int .i64 x2.count :: .bool (decide (x2.count < 1)) :: .bool (decide (x2.count < 1)) :: .bool (decide (x2.count < 1)) :: .ptr (lv + 1) i6 1 :: .int .i64 x2.count :: .bool (decide (1000000000 < x2.count)) :: .bool (decide (1000000000 < x2.count)) :: .bool (decide (1000000000 < x2.count)) :: .tup [] :: .tup [] :: .tup [] :: .bool true :: .bool true :: .tup [] :: .tup [] :: .tup [] :: .bool true :: an 1 [])), ⟨lv + 1, L, E⟩, [], E⟩ [⟨24, [.str x2.name], ⟨lv + 1, L, E⟩, .bool y8, ⟨lv + 1, L, E⟩⟩] (by first | (simp -implicitDefEqProofs [GTally.cs, g0, hg11, hg24, hg26, hg27]; done) | simp -implicitDefEqProofs [GTally.cs, g0, hg11, hg24, hg26, hg27, hg11n, hg24n, hg26n, hg27n]) (claims_cons (go_report_named_ok _ _ _ q9 _) claims_nil) ?_
                    have hA : AccG (lv + 1) L [] [] := hA.sel [] (by simp) rfl (.cons _ .slnil)
                    refine ⟨⟨.sl 3 (a0.map GTally.el) false :: an 7 (.sl 3 (a0.map GTally.el) false :: .int .i64 (a0.length : Int) :: .int .i64 x1 :: an 42 (.bool true :: an 1 [])), ⟨lv + 1, L, E⟩, [], E⟩, weak_tmps ?_, n, by omega, true, L, hA, h, rfl⟩
                    (try simp only [an, List.map_cons, List.map_nil]); repeat (first | exact VLeL.nil | refine VLeL.cons (by first | exact VLe.refl _ | exact VLe.any _ | exact VLe.nil _ _ | exact VLe.full _ _ | (refine VLe.agg' ?_; repeat (first | exact VLeL.nil | refine VLeL.cons (by first | exact VLe.refl _ | exact VLe.any _ | exact VLe.nil _ _) ?_))) ?_)
                  · have h := ite_f hg28 h
                    have hg28n := hg28
                    try simp at hg28n
                    rcases Bool.eq_false_or_eq_true (decide (x2.volume < 0)) with hg29 | hg30
                    · have h := ite_t hg29 h
                      have hg29n := hg29
                      try simp at hg29n
                      have g0 := hA.get (k := 0) rfl
                      refine satO_drw (by kernel_rfl) (by kernel_rfl) [.bool y8] ⟨.sl 3 (a0.map GTally.el) false :: an 2 (.int .i64 x1 :: .ptr (lv + 1) i6 0 :: an 3 (.sl 3 (a0.map GTally.el) false :: .int .i64 (a0.length : Int) :: .int .i64 x1 :: .bool (decide (x1 < (a0.length : Int))) :: .int .i64 x1 :: .ref x2.cs 0 :: .agg x2.cs :: .ptr (lv + 1) i6 0 :: .str x2.name :: .bool y8 :: .bool (!y8) :: .bool (!y8) :: .int .i64 x1 :: .bool (decide (0 < x1)) :: .bool (decide (0 < x1)) :: .tup [] :: .tup [] :: .tup [] :: .tup [] :: .tup [] :: .tup [] :: .tup [] :: .tup [] :: .tup [] :: .bool false :: .bool false :: .bool false :: .ptr (lv + 1) i6 1 :: .int .i64 x2.count :: .bool (decide (x2.count < 1)) :: .bool (decide (x2.count < 1)) :: .bool (decide (x2.count < 1)) :: .ptr (lv + 1) i6 1 :: .int .i64 x2.count :: .bool (decide (1000000000 < x2.count)) :: .bool (decide (1000000000 < x2.count)) :: .bool (decide (1000000000 < x2.count)) :: .ptr (lv + 1) i6 2 :: .int .i64 x2.volume :: .bool (decide (x2.volume < 0)) :: .bool (decide (x2.volume < 0)) :: .bool (decide (x2.volume < 0)) :: .tup [] :: .tup [] :: .tup [] :: .bool true :: an 1 [])), ⟨lv + 1, L, E⟩, [], E⟩ [⟨24, [.str x2.name], ⟨lv + 1, L, E⟩, .bool y8, ⟨lv + 1, L, E⟩⟩] (by first | (simp -implicitDefEqProofs [GTally.cs, g0, hg11, hg24, hg26, hg28, hg29]; done) | simp -implicitDefEqProofs [GTally.cs, g0, hg11, hg24, hg26, hg28, hg29, hg11n, hg24n, hg26n, hg28n, hg29n]) (claims_cons (go_report_named_ok _ _ _ q9 _) claims_nil) ?_
                      have hA : AccG (lv + 1) L [] [] := hA.sel [] (by simp) rfl (.cons _ .slnil)
                      refine ⟨⟨.sl 3 (a0.map GTally.el) false :: an 7 (.sl 3 (a0.map GTally.el) false :: .int .i64 (a0.length : Int) :: .int .i64 x1 :: an 42 (.bool true :: an 1 [])), ⟨lv + 1, L, E⟩, [], E⟩, weak_tmps ?_, n, by omega, true, L, hA, h, rfl⟩
                      (try simp only [an, List.map_cons, List.map_nil]); repeat (first | exact VLeL.nil | refine VLeL.cons (by first | exact VLe.refl _ | exact VLe.any _ | exact VLe.nil _ _ | exact VLe.full _ _ | (refine VLe.agg' ?_; repeat (first | exact VLeL.nil | refine VLeL.cons (by first | exact VLe.refl _ | exact VLe.any _ | exact VLe.nil _ _) ?_))) ?_)
                    · have h := ite_f hg30 h
                      have hg30n := hg30
                      try simp at hg30n
                      have g0 := hA.get (k := 0) rfl
                      refine satO_drw (by kernel_rfl) (by kernel_rfl) [.bool y8] ⟨.sl 3 (a0.map GTally.el) false :: an 2 (.int .i64 x1 :: .ptr (lv + 1) i6 0 :: an 3 (.sl 3 (a0.map GTally.el) false :: .int .i64 (a0.length : Int) :: .int .i64 x1 :: .bool (decide (x1 < (a0.length : Int))) :: .int .i64 x1 :: .ref x2.cs 0 :: .agg x2.cs :: .ptr (lv + 1) i6 0 :: .str x2.name :: .bool y8 :: .bool (!y8) :: .bool (!y8) :: .int .i64 x1 :: .bool (decide (0 < x1)) :: .bool (decide (0 < x1)) :: .tup [] :: .tup [] :: .tup [] :: .tup [] :: .tup [] :: .tup [] :: .tup [] :: .tup [] :: .tup [] :: .bool false :: .bool false :: .bool false :: .ptr (lv + 1) i6 1 :: .int .i64 x2.count :: .bool (decide (x2.count < 1)) :: .bool (decide (x2.count < 1)) :: .bool (decide (x2.count < 1)) :: .ptr (lv + 1) i6 1 :: .int .i64 x2.count :: .bool (decide (1000000000 < x2.count)) :: .bool (decide (1000000000 < x2.count)) :: .bool (decide (1000000000 < x2.count)) :: .ptr (lv + 1) i6 2 :: .int .i64 x2.volume :: .bool (decide (x2.volume < 0)) :: .bool (decide (x2.volume < 0)) :: .bool (decide (x2.volume < 0)) :: .ptr (lv + 1) i6 2 :: .int .i64 x2.volume :: .bool (decide (1000000000000000000 < x2.volume)) :: .bool (decide (1000000000000000000 < x2.volume)) :: an 1 [])), ⟨lv + 1, L, E⟩, [], E⟩ [⟨24, [.str x2.name], ⟨lv + 1, L, E⟩, .bool y8, ⟨lv + 1, L, E⟩⟩] (by first | (simp -implicitDefEqProofs [GTally.cs, g0, hg11, hg24, hg26, hg28, hg30]; done) | simp -implicitDefEqProofs [GTally.cs, g0, hg11, hg24, hg26, hg28, hg30, hg11n, hg24n, hg26n, hg28n, hg30n]) (claims_cons (go_report_named_ok _ _ _ q9 _) claims_nil) ?_
                      have hA : AccG (lv + 1) L [] [] := hA.sel [] (by simp) rfl (.cons _ .slnil)
                      refine ⟨⟨.sl 3 (a0.map GTally.el) false :: an 7 (.sl 3 (a0.map GTally.el) false :: .int .i64 (a0.length : Int) :: .int .i64 x1 :: an 42 (.bool (decide (1000000000000000000 < x2.volume)) :: an 1 [])), ⟨lv + 1, L, E⟩, [], E⟩, weak_tmps ?_, n, by omega, (decide (1000000000000000000 < x2.volume)), L, hA, h, rfl⟩
                      (try simp only [an, List.map_cons, List.map_nil]); repeat (first | exact VLeL.nil | refine VLeL.cons (by first | exact VLe.refl _ | exact VLe.any _ | exact VLe.nil _ _ | exact VLe.full _ _ | (refine VLe.agg' ?_; repeat (first | exact VLeL.nil | refine VLeL.cons (by first | exact VLe.refl _ | exact VLe.any _ | exact VLe.nil _ _) ?_))) ?_)
          · rintro σ0 σ hw ⟨k, hk, x7, L, hA, h, rfl⟩
            rcases k with _ | n
            · simp [go_report_Check_J1] at h
            · rw [go_report_Check_J1] at h
              refine sat_weak hw ?_
              repeat refine sat_seq ?_
              refine sat_cond rfl (fun hb => ?_) (fun hb => ?_)
              · have h := ite_t hb h
                repeat refine sat_seq ?_
                refine satO_reg ?_
                refine satO_step 1 [] ⟨.sl 3 (a0.map GTally.el) false :: an 1 (.int .i64 8 :: an 5 (.sl 3 (a0.map GTally.el) false :: .int .i64 (a0.length : Int) :: .int .i64 x1 :: an 42 (.bool x7 :: an 1 []))), ⟨lv + 1, L, E⟩, [], E⟩ [] (by simp -implicitDefEqProofs [GTally.cs]) claims_nil ?_
                refine satO_nil (by simp) ?_
                repeat refine sat_seq ?_
                refine sat_ret ?_
                refine ends (v := .int .i64 8) (by simp [resultsV, resL, resV, tupOf, Try.f10, pLoad, GTally.cs]) rfl rfl ?_
                injection h with h
                subst h
                exact (.keep _ (by simp [V.kin, V.kinL, GTally.cs]))
              · have h := ite_f hb h
                repeat refine sat_seq ?_
                refine sat_skip ?_
                repeat refine sat_seq ?_
                refine satO_reg ?_
                refine satO_step 2 [] ⟨.sl 3 (a0.map GTally.el) false :: an 7 (.sl 3 (a0.map GTally.el) false :: .int .i64 (a0.length : Int) :: .int .i64 (IntKind.i64.wrap (x1 + 1)) :: an 42 (.bool x7 :: .int .i64 (IntKind.i64.wrap (x1 + 1)) :: [])), ⟨lv + 1, L, E⟩, [], E⟩ [] (by simp -implicitDefEqProofs [GTally.cs]) claims_nil ?_
                refine satO_nil (by simp) ?_
                refine ⟨n, ⟨.sl 3 (a0.map GTally.el) false :: an 7 (.sl 3 (a0.map GTally.el) false :: .int .i64 (a0.length : Int) :: .int .i64 (IntKind.i64.wrap (x1 + 1)) :: an 44 []), ⟨lv + 1, L, E⟩, [], E⟩, weak_tmps ?_, ⟨(IntKind.i64.wrap (x1 + 1)), L, by omega, hA, h, rfl⟩, by omega⟩
                (try simp only [an, List.map_cons, List.map_nil]); repeat (first | exact VLeL.nil | refine VLeL.cons (by first | exact VLe.refl _ | exact VLe.any _ | exact VLe.nil _ _ | exact VLe.full _ _ | (refine VLe.agg' ?_; repeat (first | exact VLeL.nil | refine VLeL.cons (by first | exact VLe.refl _ | exact VLe.any _ | exact VLe.nil _ _) ?_))) ?_)
        · have h := ite_f hb h
          repeat refine sat_seq ?_
          refine sat_exit ?_
          repeat refine sat_seq ?_
          refine satO_reg ?_
          refine satO_step 1 [] ⟨.sl 3 (a0.map GTally.el) false :: an 1 (.int .i64 0 :: an 5 (.sl 3 (a0.map GTally.el) false :: .int .i64 (a0.length : Int) :: .int .i64 x1 :: .bool (decide (x1 < (a0.length : Int))) :: an 43 [])), ⟨lv + 1, L, E⟩, [], E⟩ [] (by simp -implicitDefEqProofs [GTally.cs]) claims_nil ?_
          refine satO_nil (by simp) ?_
          repeat refine sat_seq ?_
          refine sat_ret ?_
          refine ends (v := .int .i64 0) (by simp [resultsV, resL, resV, tupOf, Try.f10, pLoad, GTally.cs]) rfl rfl ?_
          injection h with h
          subst h
          exact (.keep _ (by simp [V.kin, V.kinL, GTally.cs]))
end Go.Proofs

namespace Go.Proofs
open Go Go.Ab
set_option maxRecDepth 10000
set_option maxHeartbeats 1000000
set_option linter.unusedSimpArgs false
set_option linter.unusedVariables false
theorem go_ref03_Str_ok (n : Nat) (a0 : List UInt8) (r : GValue) (h : go_ref03_Str n a0 = some r) : PCall Try.prog 41 [.str a0] (.agg r.cs) := by
  rw [go_ref03_Str] at h
  refine pcall_of Try.func41 rfl Try.ntmps41 (fun _ _ => Try.call41 _ _) fun lv E => ?_
  simp only [List.length_cons, List.length_nil, Nat.reduceAdd, Nat.reduceSub, List.replicate, List.cons_append, List.nil_append]
  have hA := AccG.nil (lv + 1)
  generalize ([] : List (Option AObj)) = L at hA ⊢
  repeat refine sat_seq ?_
  refine satO_reg ?_
  refine satO_step 1 [] ⟨.str a0 :: an 1 (.ptr (lv + 1) L.length 0 :: an 2 []), ⟨lv + 1, (L ++ [some (.cells [.int .u8 0, .int .i64 0, .int .i64 0, .bool false, .str ([]), .nils])]), E⟩, [], E⟩ [] (by simp -implicitDefEqProofs [GValue.cs]) claims_nil ?_
  have hA : AccG (lv + 1) (L ++ [some (.cells [.int .u8 0, .int .i64 0, .int .i64 0, .bool false, .str ([]), .nils])]) [] [(L.length, .cells [.int .u8 0, .int .i64 0, .int .i64 0, .bool false, .str ([]), .nils])] := hA.obj _
  generalize L.length = i2 at hA ⊢
  generalize (L ++ [some (.cells [.int .u8 0, .int .i64 0, .int .i64 0, .bool false, .str ([]), .nils])]) = L at hA ⊢
  refine satO_nil (by simp) ?_
  repeat refine sat_seq ?_
  refine satO_reg ?_
  have g0 := hA.get (k := 0) rfl
  refine satO_step 2 [] ⟨.str a0 :: an 1 (.ptr (lv + 1) i2 0 :: .str a0 :: .agg [.int .u8 3, .int .i64 0, .int .i64 0, .bool false, .str a0, .nils] :: []), ⟨lv + 1, L, E⟩, [], E⟩ [] (by simp -implicitDefEqProofs [GValue.cs, g0]) claims_nil ?_
  have g0 := hA.get (k := 0) rfl
  refine satO_step 1 [] ⟨.str a0 :: an 1 (.ptr (lv + 1) i2 0 :: .str a0 :: .agg [.int .u8 3, .int .i64 0, .int .i64 0, .bool false, .str a0, .nils] :: []), ⟨lv + 1, (L.set i2 (some (.cells [.int .u8 3, .int .i64 0, .int .i64 0, .bool false, .str a0, .nils]))), E⟩, [], E⟩ [] (by simp -implicitDefEqProofs [GValue.cs, g0]) claims_nil ?_
  have hA : AccG (lv + 1) (L.set i2 (some (.cells [.int .u8 3, .int .i64 0, .int .i64 0, .bool false, .str a0, .nils]))) [] [(i2, .cells [.int .u8 3, .int .i64 0, .int .i64 0, .bool false, .str a0, .nils])] := hA.upd (k := 0) rfl _
  generalize (L.set i2 (some (.cells [.int .u8 3, .int .i64 0, .int .i64 0, .bool false, .str a0, .nils]))) = L at hA ⊢
  refine satO_nil (by simp) ?_
  repeat refine sat_seq ?_
  refine sat_ret ?_
  have g0 := hA.get (k := 0) rfl
  refine ends (v := .agg [.int .u8 3, .int .i64 0, .int .i64 0, .bool false, .str a0, .nils]) (by simp [resultsV, resL, resV, tupOf, Try.f41, pLoad, g0, GValue.cs]) rfl rfl ?_
  injection h with h
  subst h
  exact (VS.agg' (.cons (.keep _ (by simp [V.kin, V.kinL, GValue.cs])) (.cons (.keep _ (by simp [V.kin, V.kinL, GValue.cs])) (.cons (.keep _ (by simp [V.kin, V.kinL, GValue.cs])) (.cons (.keep _ (by simp [V.kin, V.kinL, GValue.cs])) (.cons (.keep _ (by simp [V.kin, V.kinL, GValue.cs])) (.cons (.nil _ _) .nil)))))))
end Go.Proofs
