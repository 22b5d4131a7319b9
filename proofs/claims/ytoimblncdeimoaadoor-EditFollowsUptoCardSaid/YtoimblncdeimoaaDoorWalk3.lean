/-
  The Go functions compute what their Lean functions do, by a program of this repo.
-/
import Derived.Test.YtoimblncdeimoaaDoorFns
import Derived.Test.YtoimblncdeimoaaDoorFacts
import Derived.Test.YtoimblncdeimoaaDoorAbSimp
import Derived.Lib.Bytealg
import Derived.Laws.Externs
import Derived.KernelRfl
import Derived.Test.YtoimblncdeimoaaDoorWalk0
import Derived.Test.YtoimblncdeimoaaDoorWalk1
import Derived.Test.YtoimblncdeimoaaDoorWalk2
namespace Go.Proofs
open Go Go.Ab
set_option maxRecDepth 10000
set_option maxHeartbeats 1000000
set_option linter.unusedSimpArgs false
set_option linter.unusedVariables false
theorem go_ref31_SameOvers_ok (n : Nat) (a0 : List GOver) (a1 : List GOver) (r : Bool) (h : go_ref31_SameOvers n a0 a1 = some r) : PCall Tryd.prog 7 [.sl 3 (a0.map GOver.el) false, .sl 3 (a1.map GOver.el) false] (.bool r) := by
  rcases n with _ | n
  · simp [go_ref31_SameOvers] at h
  rw [go_ref31_SameOvers] at h
  refine pcall_of Tryd.func7 rfl Tryd.ntmps7 (fun _ _ => Tryd.call7 _ _) fun lv E => ?_
  simp only [List.length_cons, List.length_nil, Nat.reduceAdd, Nat.reduceSub, List.replicate, List.cons_append, List.nil_append]
  have hA := AccG.nil (lv + 1)
  generalize ([] : List (Option AObj)) = L at hA ⊢
  repeat refine sat_seq ?_
  refine satO_reg ?_
  refine satO_step 1 [] ⟨.sl 3 (a0.map GOver.el) false :: .sl 3 (a1.map GOver.el) false :: an 2 (.bool false :: an 21 []), ⟨lv + 1, L, E⟩, [], E⟩ [] (by simp -implicitDefEqProofs []) claims_nil ?_
  refine satO_nil (by simp) ?_
  repeat refine sat_seq ?_
  refine satO_reg ?_
  refine satO_step 5 [] ⟨.sl 3 (a0.map GOver.el) false :: .sl 3 (a1.map GOver.el) false :: an 2 (.bool false :: an 1 (.sl 3 (a0.map GOver.el) false :: .int .i64 (a0.length : Int) :: .sl 3 (a1.map GOver.el) false :: .int .i64 (a1.length : Int) :: .bool (!((a0.length : Int) == (a1.length : Int))) :: an 15 [])), ⟨lv + 1, L, E⟩, [], E⟩ [] (by simp -implicitDefEqProofs []) claims_nil ?_
  refine satO_nil (by simp) ?_
  repeat refine sat_seq ?_
  refine sat_cond rfl (fun hb => ?_) (fun hb => ?_)
  · have h := ite_t hb h
    repeat refine sat_seq ?_
    refine satO_reg ?_
    refine satO_step 1 [] ⟨.sl 3 (a0.map GOver.el) false :: .sl 3 (a1.map GOver.el) false :: an 2 (.bool false :: an 1 (.sl 3 (a0.map GOver.el) false :: .int .i64 (a0.length : Int) :: .sl 3 (a1.map GOver.el) false :: .int .i64 (a1.length : Int) :: .bool (!((a0.length : Int) == (a1.length : Int))) :: an 15 [])), ⟨lv + 1, L, E⟩, [], E⟩ [] (by simp -implicitDefEqProofs []) claims_nil ?_
    refine satO_nil (by simp) ?_
    repeat refine sat_seq ?_
    refine sat_ret ?_
    refine ends (v := .bool false) (by simp [resultsV, resL, resV, tupOf, Tryd.f7, pLoad]) rfl rfl ?_
    injection h with h
    subst h
    exact (.keep _ (by simp [V.kin, V.kinL]))
  · have h := ite_f hb h
    repeat refine sat_seq ?_
    refine sat_skip ?_
    repeat refine sat_seq ?_
    refine satO_reg ?_
    refine satO_step 1 [] ⟨.sl 3 (a0.map GOver.el) false :: .sl 3 (a1.map GOver.el) false :: an 2 (.bool false :: .int .i64 0 :: .sl 3 (a0.map GOver.el) false :: .int .i64 (a0.length : Int) :: .sl 3 (a1.map GOver.el) false :: .int .i64 (a1.length : Int) :: .bool (!((a0.length : Int) == (a1.length : Int))) :: an 15 []), ⟨lv + 1, L, E⟩, [], E⟩ [] (by simp -implicitDefEqProofs []) claims_nil ?_
    refine satO_nil (by simp) ?_
    repeat refine sat_seq ?_
    refine sat_block ?_
    repeat refine sat_seq ?_
    refine sat_loop (fun k σ => ∃ (x1 : Int) (L : List (Option AObj)), k ≤ n ∧ AccG (lv + 1) L [] [] ∧ go_ref31_SameOvers_L1 k a0 a1 x1 = some r ∧ σ = ⟨.sl 3 (a0.map GOver.el) false :: .sl 3 (a1.map GOver.el) false :: an 3 (.int .i64 x1 :: an 20 []), ⟨lv + 1, L, E⟩, [], E⟩) n ⟨.sl 3 (a0.map GOver.el) false :: .sl 3 (a1.map GOver.el) false :: an 3 (.int .i64 0 :: an 20 []), ⟨lv + 1, L, E⟩, [], E⟩ (weak_tmps ?_) ⟨0, L, Nat.le_refl _, hA, h, rfl⟩ ?_
    · (try simp only [an, List.map_cons, List.map_nil]); repeat (first | exact VLeL.nil | refine VLeL.cons (by first | exact VLe.refl _ | exact VLe.any _ | exact VLe.nil _ _ | exact VLe.full _ _ | (refine VLe.agg' ?_; repeat (first | exact VLeL.nil | refine VLeL.cons (by first | exact VLe.refl _ | exact VLe.any _ | exact VLe.nil _ _) ?_))) ?_)
    · rintro k σ ⟨x1, L, hk, hA, h, rfl⟩
      rcases k with _ | n
      · simp [go_ref31_SameOvers_L1] at h
      · rw [go_ref31_SameOvers_L1] at h
        repeat refine sat_seq ?_
        refine satO_reg ?_
        refine satO_step 4 [] ⟨.sl 3 (a0.map GOver.el) false :: .sl 3 (a1.map GOver.el) false :: an 3 (.int .i64 x1 :: an 5 (.int .i64 x1 :: .sl 3 (a0.map GOver.el) false :: .int .i64 (a0.length : Int) :: .bool (decide (x1 < (a0.length : Int))) :: an 11 [])), ⟨lv + 1, L, E⟩, [], E⟩ [] (by simp -implicitDefEqProofs []) claims_nil ?_
        refine satO_nil (by simp) ?_
        repeat refine sat_seq ?_
        refine sat_cond rfl (fun hb => ?_) (fun hb => ?_)
        · have h := ite_t hb h
          repeat refine sat_seq ?_
          refine sat_skip ?_
          repeat refine sat_seq ?_
          refine sat_block ?_
          repeat refine sat_seq ?_
          obtain ⟨x2, q3, h⟩ := bnd_hi h
          obtain ⟨q3, q4⟩ := ix_some q3
          obtain ⟨x5, q6, h⟩ := bnd_hi h
          obtain ⟨q6, q7⟩ := ix_some q6
          refine satO_drw (by kernel_rfl) (by kernel_rfl) [] ⟨.sl 3 (a0.map GOver.el) false :: .sl 3 (a1.map GOver.el) false :: an 3 (.int .i64 x1 :: an 5 (.int .i64 x1 :: .sl 3 (a0.map GOver.el) false :: .int .i64 (a0.length : Int) :: .bool (decide (x1 < (a0.length : Int))) :: an 2 (.sl 3 (a0.map GOver.el) false :: .int .i64 x1 :: .ref x2.cs 0 :: .agg x2.cs :: .sl 3 (a1.map GOver.el) false :: .int .i64 x1 :: .ref x5.cs 0 :: .agg x5.cs :: .bool (!((x2.path == x5.path) && ((x2.kind == x5.kind) && (x2.name == x5.name)))) :: []))), ⟨lv + 1, L, E⟩, [], E⟩ [] (by simp -implicitDefEqProofs [GOver.cs, q3, q4, GOver.el_cs, q6, q7, GOver.el_cs]) claims_nil ?_
          repeat refine sat_seq ?_
          refine sat_cond rfl (fun hb => ?_) (fun hb => ?_)
          · have h := ite_t hb h
            repeat refine sat_seq ?_
            refine satO_reg ?_
            refine satO_step 1 [] ⟨.sl 3 (a0.map GOver.el) false :: .sl 3 (a1.map GOver.el) false :: an 2 (.bool false :: .int .i64 x1 :: an 5 (.int .i64 x1 :: .sl 3 (a0.map GOver.el) false :: .int .i64 (a0.length : Int) :: .bool (decide (x1 < (a0.length : Int))) :: an 2 (.sl 3 (a0.map GOver.el) false :: .int .i64 x1 :: .ref x2.cs 0 :: .agg x2.cs :: .sl 3 (a1.map GOver.el) false :: .int .i64 x1 :: .ref x5.cs 0 :: .agg x5.cs :: .bool (!((x2.path == x5.path) && ((x2.kind == x5.kind) && (x2.name == x5.name)))) :: []))), ⟨lv + 1, L, E⟩, [], E⟩ [] (by simp -implicitDefEqProofs [GOver.cs]) claims_nil ?_
            refine satO_nil (by simp) ?_
            repeat refine sat_seq ?_
            refine sat_ret ?_
            refine ends (v := .bool false) (by simp [resultsV, resL, resV, tupOf, Tryd.f7, pLoad, GOver.cs]) rfl rfl ?_
            injection h with h
            subst h
            exact (.keep _ (by simp [V.kin, V.kinL, GOver.cs]))
          · have h := ite_f hb h
            repeat refine sat_seq ?_
            refine sat_skip ?_
            repeat refine sat_seq ?_
            refine satO_reg ?_
            refine satO_step 3 [] ⟨.sl 3 (a0.map GOver.el) false :: .sl 3 (a1.map GOver.el) false :: an 3 (.int .i64 (IntKind.i64.wrap (x1 + 1)) :: an 5 (.int .i64 x1 :: .sl 3 (a0.map GOver.el) false :: .int .i64 (a0.length : Int) :: .bool (decide (x1 < (a0.length : Int))) :: .int .i64 x1 :: .int .i64 (IntKind.i64.wrap (x1 + 1)) :: .sl 3 (a0.map GOver.el) false :: .int .i64 x1 :: .ref x2.cs 0 :: .agg x2.cs :: .sl 3 (a1.map GOver.el) false :: .int .i64 x1 :: .ref x5.cs 0 :: .agg x5.cs :: .bool (!((x2.path == x5.path) && ((x2.kind == x5.kind) && (x2.name == x5.name)))) :: [])), ⟨lv + 1, L, E⟩, [], E⟩ [] (by simp -implicitDefEqProofs [GOver.cs]) claims_nil ?_
            refine satO_nil (by simp) ?_
            refine ⟨n, ⟨.sl 3 (a0.map GOver.el) false :: .sl 3 (a1.map GOver.el) false :: an 3 (.int .i64 (IntKind.i64.wrap (x1 + 1)) :: an 20 []), ⟨lv + 1, L, E⟩, [], E⟩, weak_tmps ?_, ⟨(IntKind.i64.wrap (x1 + 1)), L, by omega, hA, h, rfl⟩, by omega⟩
            (try simp only [an, List.map_cons, List.map_nil]); repeat (first | exact VLeL.nil | refine VLeL.cons (by first | exact VLe.refl _ | exact VLe.any _ | exact VLe.nil _ _ | exact VLe.full _ _ | (refine VLe.agg' ?_; repeat (first | exact VLeL.nil | refine VLeL.cons (by first | exact VLe.refl _ | exact VLe.any _ | exact VLe.nil _ _) ?_))) ?_)
        · have h := ite_f hb h
          repeat refine sat_seq ?_
          refine sat_exit ?_
          repeat refine sat_seq ?_
          refine satO_reg ?_
          refine satO_step 1 [] ⟨.sl 3 (a0.map GOver.el) false :: .sl 3 (a1.map GOver.el) false :: an 2 (.bool true :: .int .i64 x1 :: an 5 (.int .i64 x1 :: .sl 3 (a0.map GOver.el) false :: .int .i64 (a0.length : Int) :: .bool (decide (x1 < (a0.length : Int))) :: an 11 [])), ⟨lv + 1, L, E⟩, [], E⟩ [] (by simp -implicitDefEqProofs [GOver.cs]) claims_nil ?_
          refine satO_nil (by simp) ?_
          repeat refine sat_seq ?_
          refine sat_ret ?_
          refine ends (v := .bool true) (by simp [resultsV, resL, resV, tupOf, Tryd.f7, pLoad, GOver.cs]) rfl rfl ?_
          injection h with h
          subst h
          exact (.keep _ (by simp [V.kin, V.kinL, GOver.cs]))
end Go.Proofs

namespace Go.Proofs
open Go Go.Ab
set_option maxRecDepth 10000
set_option maxHeartbeats 1000000
set_option linter.unusedSimpArgs false
set_option linter.unusedVariables false
theorem go_gambrellaw31_EditFollows_ok (n : Nat) (a0 : List GOver) (a1 : List UInt8) (a2 : List UInt8) (r : Bool) (h : go_gambrellaw31_EditFollows n a0 a1 a2 = some r) : PCall Tryd.prog 3 [.sl 3 (a0.map GOver.el) false, .str a1, .str a2] (.bool r) := by
  rw [go_gambrellaw31_EditFollows] at h
  refine pcall_of Tryd.func3 rfl Tryd.ntmps3 (fun _ _ => Tryd.call3 _ _) fun lv E => ?_
  simp only [List.length_cons, List.length_nil, Nat.reduceAdd, Nat.reduceSub, List.replicate, List.cons_append, List.nil_append]
  have hA := AccG.nil (lv + 1)
  generalize ([] : List (Option AObj)) = L at hA ⊢
  repeat refine sat_seq ?_
  refine satO_reg ?_
  refine satO_step 1 [] ⟨.sl 3 (a0.map GOver.el) false :: .str a1 :: .str a2 :: an 3 (.bool false :: an 38 []), ⟨lv + 1, L, E⟩, [], E⟩ [] (by simp -implicitDefEqProofs []) claims_nil ?_
  refine satO_nil (by simp) ?_
  repeat refine sat_seq ?_
  refine sat_meet (fun σ => ∃ (x1 : Bool) (L : List (Option AObj)), AccG (lv + 1) L [] [] ∧ go_gambrellaw31_EditFollows_J1 n a0 a1 a2 x1 = some r ∧ σ = ⟨.sl 3 (a0.map GOver.el) false :: .str a1 :: .str a2 :: an 19 (.bool x1 :: an 22 []), ⟨lv + 1, L, E⟩, [], E⟩) ?_ ?_
  · refine satO_reg ?_
    obtain ⟨y2, q3, h⟩ := bnd_hi h
    rcases Bool.eq_false_or_eq_true y2 with hg4 | hg5
    · have h := ite_t hg4 h
      have hg4n := hg4
      try simp at hg4n
      refine satO_step 12 [(.bool y2, none)] ⟨.sl 3 (a0.map GOver.el) false :: .str a1 :: .str a2 :: an 3 (.bool false :: an 4 (.sl 3 (a0.map GOver.el) false :: .bool y2 :: .bool y2 :: .tup [] :: .tup [] :: .tup [] :: .bool true :: .bool true :: .tup [] :: .tup [] :: .tup [] :: .bool true :: an 22 [])), ⟨lv + 1, L, E⟩, [], E⟩ [⟨4, [.sl 3 (a0.map GOver.el) false], ⟨lv + 1, L, E⟩, .bool y2, ⟨lv + 1, L, E⟩⟩] (by first | (simp -implicitDefEqProofs [hg4]; done) | simp -implicitDefEqProofs [hg4, hg4n]) (claims_cons (go_ref30_Great_ok _ _ _ q3 _) claims_nil) ?_
      refine satO_nil (by simp) ?_
      refine ⟨⟨.sl 3 (a0.map GOver.el) false :: .str a1 :: .str a2 :: an 19 (.bool true :: an 22 []), ⟨lv + 1, L, E⟩, [], E⟩, weak_tmps ?_, true, L, hA, h, rfl⟩
      (try simp only [an, List.map_cons, List.map_nil]); repeat (first | exact VLeL.nil | refine VLeL.cons (by first | exact VLe.refl _ | exact VLe.any _ | exact VLe.nil _ _ | exact VLe.full _ _ | (refine VLe.agg' ?_; repeat (first | exact VLeL.nil | refine VLeL.cons (by first | exact VLe.refl _ | exact VLe.any _ | exact VLe.nil _ _) ?_))) ?_)
    · have h := ite_f hg5 h
      have hg5n := hg5
      try simp at hg5n
      rcases Bool.eq_false_or_eq_true (decide (100 < (a1.length : Int))) with hg6 | hg7
      · have h := ite_t hg6 h
        have hg6n := hg6
        try simp at hg6n
        refine satO_step 12 [(.bool y2, none)] ⟨.sl 3 (a0.map GOver.el) false :: .str a1 :: .str a2 :: an 3 (.bool false :: an 4 (.sl 3 (a0.map GOver.el) false :: .bool y2 :: .bool y2 :: .str a1 :: .int .i64 (a1.length : Int) :: .bool (decide (100 < (a1.length : Int))) :: .bool (decide (100 < (a1.length : Int))) :: .bool (decide (100 < (a1.length : Int))) :: .tup [] :: .tup [] :: .tup [] :: .bool true :: an 22 [])), ⟨lv + 1, L, E⟩, [], E⟩ [⟨4, [.sl 3 (a0.map GOver.el) false], ⟨lv + 1, L, E⟩, .bool y2, ⟨lv + 1, L, E⟩⟩] (by first | (simp -implicitDefEqProofs [hg5, hg6]; done) | simp -implicitDefEqProofs [hg5, hg6, hg5n, hg6n]) (claims_cons (go_ref30_Great_ok _ _ _ q3 _) claims_nil) ?_
        refine satO_nil (by simp) ?_
        refine ⟨⟨.sl 3 (a0.map GOver.el) false :: .str a1 :: .str a2 :: an 19 (.bool true :: an 22 []), ⟨lv + 1, L, E⟩, [], E⟩, weak_tmps ?_, true, L, hA, h, rfl⟩
        (try simp only [an, List.map_cons, List.map_nil]); repeat (first | exact VLeL.nil | refine VLeL.cons (by first | exact VLe.refl _ | exact VLe.any _ | exact VLe.nil _ _ | exact VLe.full _ _ | (refine VLe.agg' ?_; repeat (first | exact VLeL.nil | refine VLeL.cons (by first | exact VLe.refl _ | exact VLe.any _ | exact VLe.nil _ _) ?_))) ?_)
      · have h := ite_f hg7 h
        have hg7n := hg7
        try simp at hg7n
        refine satO_step 12 [(.bool y2, none)] ⟨.sl 3 (a0.map GOver.el) false :: .str a1 :: .str a2 :: an 3 (.bool false :: an 4 (.sl 3 (a0.map GOver.el) false :: .bool y2 :: .bool y2 :: .str a1 :: .int .i64 (a1.length : Int) :: .bool (decide (100 < (a1.length : Int))) :: .bool (decide (100 < (a1.length : Int))) :: .bool (decide (100 < (a1.length : Int))) :: .str a2 :: .int .i64 (a2.length : Int) :: .bool (decide (100 < (a2.length : Int))) :: .bool (decide (100 < (a2.length : Int))) :: an 22 [])), ⟨lv + 1, L, E⟩, [], E⟩ [⟨4, [.sl 3 (a0.map GOver.el) false], ⟨lv + 1, L, E⟩, .bool y2, ⟨lv + 1, L, E⟩⟩] (by first | (simp -implicitDefEqProofs [hg5, hg7]; done) | simp -implicitDefEqProofs [hg5, hg7, hg5n, hg7n]) (claims_cons (go_ref30_Great_ok _ _ _ q3 _) claims_nil) ?_
        refine satO_nil (by simp) ?_
        refine ⟨⟨.sl 3 (a0.map GOver.el) false :: .str a1 :: .str a2 :: an 19 (.bool (decide (100 < (a2.length : Int))) :: an 22 []), ⟨lv + 1, L, E⟩, [], E⟩, weak_tmps ?_, (decide (100 < (a2.length : Int))), L, hA, h, rfl⟩
        (try simp only [an, List.map_cons, List.map_nil]); repeat (first | exact VLeL.nil | refine VLeL.cons (by first | exact VLe.refl _ | exact VLe.any _ | exact VLe.nil _ _ | exact VLe.full _ _ | (refine VLe.agg' ?_; repeat (first | exact VLeL.nil | refine VLeL.cons (by first | exact VLe.refl _ | exact VLe.any _ | exact VLe.nil _ _) ?_))) ?_)
  · rintro σ0 σ hw ⟨x1, L, hA, h, rfl⟩
    rw [go_gambrellaw31_EditFollows_J1] at h
    refine sat_weak hw ?_
    repeat refine sat_seq ?_
    refine sat_cond rfl (fun hb => ?_) (fun hb => ?_)
    · have h := ite_t hb h
      repeat refine sat_seq ?_
      refine satO_reg ?_
      refine satO_step 1 [] ⟨.sl 3 (a0.map GOver.el) false :: .str a1 :: .str a2 :: an 3 (.bool true :: an 15 (.bool x1 :: an 22 [])), ⟨lv + 1, L, E⟩, [], E⟩ [] (by simp -implicitDefEqProofs []) claims_nil ?_
      refine satO_nil (by simp) ?_
      repeat refine sat_seq ?_
      refine sat_ret ?_
      refine ends (v := .bool true) (by simp [resultsV, resL, resV, tupOf, Tryd.f3, pLoad]) rfl rfl ?_
      injection h with h
      subst h
      exact (.keep _ (by simp [V.kin, V.kinL]))
    · have h := ite_f hb h
      repeat refine sat_seq ?_
      refine sat_skip ?_
      repeat refine sat_seq ?_
      refine satO_reg ?_
      obtain ⟨y8, q9, h⟩ := bnd_hi h
      refine satO_step 9 [(.tup [.sl 3 (y8.1.map GOver.el) false, .int .i64 y8.2], none)] ⟨.sl 3 (a0.map GOver.el) false :: .str a1 :: .str a2 :: an 4 (.sl 3 (y8.1.map GOver.el) false :: .int .i64 y8.2 :: an 13 (.bool x1 :: .tup [.sl 3 (y8.1.map GOver.el) false, .int .i64 y8.2] :: .sl 3 (a0.map GOver.el) false :: .str a1 :: .str a2 :: .tup [.sl 3 (y8.1.map GOver.el) false, .int .i64 y8.2] :: .sl 3 (y8.1.map GOver.el) false :: .int .i64 y8.2 :: an 15 [])), ⟨lv + 1, L, E⟩, [], E⟩ [⟨5, [.sl 3 (a0.map GOver.el) false, .str a1, .str a2], ⟨lv + 1, L, E⟩, .tup [.sl 3 (y8.1.map GOver.el) false, .int .i64 y8.2], ⟨lv + 1, L, E⟩⟩] (by simp -implicitDefEqProofs []) (claims_cons (go_edit_Follow_ok _ _ _ _ _ q9 _) claims_nil) ?_
      refine satO_nil (by simp) ?_
      repeat refine sat_seq ?_
      refine satO_reg ?_
      obtain ⟨y10, q11, h⟩ := bnd_hi h
      refine satO_step 9 [(.tup [.sl 3 (y10.1.map GOver.el) false, .int .i64 y10.2], none)] ⟨.sl 3 (a0.map GOver.el) false :: .str a1 :: .str a2 :: an 4 (.sl 3 (y8.1.map GOver.el) false :: .int .i64 y8.2 :: .sl 3 (y10.1.map GOver.el) false :: .int .i64 y10.2 :: an 11 (.bool x1 :: .tup [.sl 3 (y8.1.map GOver.el) false, .int .i64 y8.2] :: .sl 3 (a0.map GOver.el) false :: .str a1 :: .str a2 :: .tup [.sl 3 (y8.1.map GOver.el) false, .int .i64 y8.2] :: .sl 3 (y8.1.map GOver.el) false :: .int .i64 y8.2 :: .tup [.sl 3 (y10.1.map GOver.el) false, .int .i64 y10.2] :: .sl 3 (a0.map GOver.el) false :: .str a1 :: .str a2 :: .tup [.sl 3 (y10.1.map GOver.el) false, .int .i64 y10.2] :: .sl 3 (y10.1.map GOver.el) false :: .int .i64 y10.2 :: an 8 [])), ⟨lv + 1, L, E⟩, [], E⟩ [⟨6, [.sl 3 (a0.map GOver.el) false, .str a1, .str a2], ⟨lv + 1, L, E⟩, .tup [.sl 3 (y10.1.map GOver.el) false, .int .i64 y10.2], ⟨lv + 1, L, E⟩⟩] (by simp -implicitDefEqProofs []) (claims_cons (go_ref31_Follow_ok _ _ _ _ _ q11 _) claims_nil) ?_
      refine satO_nil (by simp) ?_
      repeat refine sat_seq ?_
      refine sat_meet (fun σ => ∃ (x12 : Bool) (L : List (Option AObj)), AccG (lv + 1) L [] [] ∧ go_gambrellaw31_EditFollows_J2 n x12 = some r ∧ σ = ⟨an 6 (.bool x12 :: an 38 []), ⟨lv + 1, L, E⟩, [], E⟩) ?_ ?_
      · refine satO_reg ?_
        obtain ⟨y13, q14, h⟩ := bnd_hi h
        rcases Bool.eq_false_or_eq_true y13 with hg15 | hg16
        · have h := ite_t hg15 h
          have hg15n := hg15
          try simp at hg15n
          refine satO_step 9 [(.bool y13, none)] ⟨.sl 3 (a0.map GOver.el) false :: .str a1 :: .str a2 :: an 3 (.bool (y8.2 == y10.2) :: .sl 3 (y8.1.map GOver.el) false :: .int .i64 y8.2 :: .sl 3 (y10.1.map GOver.el) false :: .int .i64 y10.2 :: an 11 (.bool x1 :: .tup [.sl 3 (y8.1.map GOver.el) false, .int .i64 y8.2] :: .sl 3 (a0.map GOver.el) false :: .str a1 :: .str a2 :: .tup [.sl 3 (y8.1.map GOver.el) false, .int .i64 y8.2] :: .sl 3 (y8.1.map GOver.el) false :: .int .i64 y8.2 :: .tup [.sl 3 (y10.1.map GOver.el) false, .int .i64 y10.2] :: .sl 3 (a0.map GOver.el) false :: .str a1 :: .str a2 :: .tup [.sl 3 (y10.1.map GOver.el) false, .int .i64 y10.2] :: .sl 3 (y10.1.map GOver.el) false :: .int .i64 y10.2 :: .sl 3 (y8.1.map GOver.el) false :: .sl 3 (y10.1.map GOver.el) false :: .bool y13 :: .bool y13 :: .int .i64 y8.2 :: .int .i64 y10.2 :: .bool (y8.2 == y10.2) :: .bool (y8.2 == y10.2) :: [])), ⟨lv + 1, L, E⟩, [], E⟩ [⟨7, [.sl 3 (y8.1.map GOver.el) false, .sl 3 (y10.1.map GOver.el) false], ⟨lv + 1, L, E⟩, .bool y13, ⟨lv + 1, L, E⟩⟩] (by first | (simp -implicitDefEqProofs [hg15]; done) | simp -implicitDefEqProofs [hg15, hg15n]) (claims_cons (go_ref31_SameOvers_ok _ _ _ _ q14 _) claims_nil) ?_
          refine satO_nil (by simp) ?_
          refine ⟨⟨an 6 (.bool (y8.2 == y10.2) :: an 38 []), ⟨lv + 1, L, E⟩, [], E⟩, weak_tmps ?_, (y8.2 == y10.2), L, hA, h, rfl⟩
          (try simp only [an, List.map_cons, List.map_nil]); repeat (first | exact VLeL.nil | refine VLeL.cons (by first | exact VLe.refl _ | exact VLe.any _ | exact VLe.nil _ _ | exact VLe.full _ _ | (refine VLe.agg' ?_; repeat (first | exact VLeL.nil | refine VLeL.cons (by first | exact VLe.refl _ | exact VLe.any _ | exact VLe.nil _ _) ?_))) ?_)
        · have h := ite_f hg16 h
          have hg16n := hg16
          try simp at hg16n
          refine satO_step 9 [(.bool y13, none)] ⟨.sl 3 (a0.map GOver.el) false :: .str a1 :: .str a2 :: an 3 (.bool false :: .sl 3 (y8.1.map GOver.el) false :: .int .i64 y8.2 :: .sl 3 (y10.1.map GOver.el) false :: .int .i64 y10.2 :: an 11 (.bool x1 :: .tup [.sl 3 (y8.1.map GOver.el) false, .int .i64 y8.2] :: .sl 3 (a0.map GOver.el) false :: .str a1 :: .str a2 :: .tup [.sl 3 (y8.1.map GOver.el) false, .int .i64 y8.2] :: .sl 3 (y8.1.map GOver.el) false :: .int .i64 y8.2 :: .tup [.sl 3 (y10.1.map GOver.el) false, .int .i64 y10.2] :: .sl 3 (a0.map GOver.el) false :: .str a1 :: .str a2 :: .tup [.sl 3 (y10.1.map GOver.el) false, .int .i64 y10.2] :: .sl 3 (y10.1.map GOver.el) false :: .int .i64 y10.2 :: .sl 3 (y8.1.map GOver.el) false :: .sl 3 (y10.1.map GOver.el) false :: .bool y13 :: .bool y13 :: .tup [] :: .tup [] :: .tup [] :: .bool false :: [])), ⟨lv + 1, L, E⟩, [], E⟩ [⟨7, [.sl 3 (y8.1.map GOver.el) false, .sl 3 (y10.1.map GOver.el) false], ⟨lv + 1, L, E⟩, .bool y13, ⟨lv + 1, L, E⟩⟩] (by first | (simp -implicitDefEqProofs [hg16]; done) | simp -implicitDefEqProofs [hg16, hg16n]) (claims_cons (go_ref31_SameOvers_ok _ _ _ _ q14 _) claims_nil) ?_
          refine satO_nil (by simp) ?_
          refine ⟨⟨an 6 (.bool false :: an 38 []), ⟨lv + 1, L, E⟩, [], E⟩, weak_tmps ?_, false, L, hA, h, rfl⟩
          (try simp only [an, List.map_cons, List.map_nil]); repeat (first | exact VLeL.nil | refine VLeL.cons (by first | exact VLe.refl _ | exact VLe.any _ | exact VLe.nil _ _ | exact VLe.full _ _ | (refine VLe.agg' ?_; repeat (first | exact VLeL.nil | refine VLeL.cons (by first | exact VLe.refl _ | exact VLe.any _ | exact VLe.nil _ _) ?_))) ?_)
      · rintro σ0 σ hw ⟨x12, L, hA, h, rfl⟩
        rw [go_gambrellaw31_EditFollows_J2] at h
        refine sat_weak hw ?_
        repeat refine sat_seq ?_
        refine sat_ret ?_
        refine ends (v := .bool x12) (by simp [resultsV, resL, resV, tupOf, Tryd.f3, pLoad]) rfl rfl ?_
        injection h with h
        subst h
        exact (.keep _ (by simp [V.kin, V.kinL]))
end Go.Proofs
