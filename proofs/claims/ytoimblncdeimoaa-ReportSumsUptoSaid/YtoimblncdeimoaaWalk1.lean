/-
  The Go functions compute what their Lean functions do, by a program of this repo.
-/
import Derived.Test.YtoimblncdeimoaaFns
import Derived.Test.YtoimblncdeimoaaFacts
import Derived.Test.YtoimblncdeimoaaAbSimp
import Derived.Lib.Bytealg
import Derived.Laws.Externs
import Derived.KernelRfl
import Derived.Test.YtoimblncdeimoaaWalk0
namespace Go.Proofs
open Go Go.Ab
set_option maxRecDepth 10000
set_option maxHeartbeats 1000000
set_option linter.unusedSimpArgs false
set_option linter.unusedVariables false
theorem go_ref03_Parts_ok : ∀ n : Nat, (∀ (a0 : GValue) (r : Int), go_ref03_Parts n a0 = some r → PCall Try.prog 57 [.agg a0.cs] (.int .i64 r)) := by
  intro n; induction n using Nat.strongRecOn with | ind n ih =>
  intro a0 r h
  rcases n with _ | n
  · simp [go_ref03_Parts] at h
  rw [go_ref03_Parts] at h
  refine pcall_of Try.func57 rfl Try.ntmps57 (fun _ _ => Try.call57 _ _) fun lv E => ?_
  simp only [List.length_cons, List.length_nil, Nat.reduceAdd, Nat.reduceSub, List.replicate, List.cons_append, List.nil_append]
  have hA := AccG.nil (lv + 1)
  generalize ([] : List (Option AObj)) = L at hA ⊢
  repeat refine sat_seq ?_
  refine satO_reg ?_
  refine satO_step 1 [] ⟨.agg a0.cs :: .ptr (lv + 1) L.length 0 :: an 24 [], ⟨lv + 1, (L ++ [some (.cells a0.cs)]), E⟩, [], E⟩ [] (by simp -implicitDefEqProofs [GValue.cs]) claims_nil ?_
  have hA : AccG (lv + 1) (L ++ [some (.cells a0.cs)]) [] [(L.length, .cells a0.cs)] := hA.obj _
  generalize L.length = i2 at hA ⊢
  generalize (L ++ [some (.cells a0.cs)]) = L at hA ⊢
  have g0 := hA.get (k := 0) rfl
  refine satO_step 1 [] ⟨.agg a0.cs :: .ptr (lv + 1) i2 0 :: .int .i64 0 :: an 23 [], ⟨lv + 1, L, E⟩, [], E⟩ [] (by simp -implicitDefEqProofs [GValue.cs, g0]) claims_nil ?_
  refine satO_nil (by simp) ?_
  repeat refine sat_seq ?_
  refine satO_reg ?_
  have g0 := hA.get (k := 0) rfl
  refine satO_step 1 [] ⟨.agg a0.cs :: .ptr (lv + 1) i2 0 :: .int .i64 0 :: .int .i64 1 :: an 22 [], ⟨lv + 1, L, E⟩, [], E⟩ [] (by simp -implicitDefEqProofs [GValue.cs, g0]) claims_nil ?_
  refine satO_nil (by simp) ?_
  repeat refine sat_seq ?_
  refine satO_reg ?_
  have g0 := hA.get (k := 0) rfl
  refine satO_step 1 [] ⟨.agg a0.cs :: .ptr (lv + 1) i2 0 :: .int .i64 0 :: .int .i64 1 :: .int .i64 0 :: an 21 [], ⟨lv + 1, L, E⟩, [], E⟩ [] (by simp -implicitDefEqProofs [GValue.cs, g0]) claims_nil ?_
  refine satO_nil (by simp) ?_
  repeat refine sat_seq ?_
  refine sat_block ?_
  repeat refine sat_seq ?_
  refine sat_loop (fun k σ => ∃ (x3 : Int) (x4 : Int) (L : List (Option AObj)), k ≤ n ∧ AccG (lv + 1) L [] [(i2, .cells a0.cs)] ∧ go_ref03_Parts_L1 k a0 x3 x4 = some r ∧ σ = ⟨an 1 (.ptr (lv + 1) i2 0 :: an 1 (.int .i64 x3 :: .int .i64 x4 :: an 21 [])), ⟨lv + 1, L, E⟩, [], E⟩) n ⟨an 1 (.ptr (lv + 1) i2 0 :: an 1 (.int .i64 1 :: .int .i64 0 :: an 21 [])), ⟨lv + 1, L, E⟩, [], E⟩ (weak_tmps ?_) ⟨1, 0, L, Nat.le_refl _, hA, h, rfl⟩ ?_
  · (try simp only [an, List.map_cons, List.map_nil]); repeat (first | exact VLeL.nil | refine VLeL.cons (by first | exact VLe.refl _ | exact VLe.any _ | exact VLe.nil _ _ | exact VLe.full _ _ | (refine VLe.agg' ?_; repeat (first | exact VLeL.nil | refine VLeL.cons (by first | exact VLe.refl _ | exact VLe.any _ | exact VLe.nil _ _) ?_))) ?_)
  · rintro k σ ⟨x3, x4, L, hk, hA, h, rfl⟩
    rcases k with _ | n
    · simp [go_ref03_Parts_L1] at h
    · rw [go_ref03_Parts_L1] at h
      repeat refine sat_seq ?_
      refine sat_meet (fun σ => ∃ (k : Nat), k ≤ n ∧ ∃ (x5 : Bool) (L : List (Option AObj)), AccG (lv + 1) L [] [(i2, .cells a0.cs)] ∧ go_ref03_Parts_J1 k a0 x3 x4 x5 = some r ∧ σ = ⟨an 1 (.ptr (lv + 1) i2 0 :: an 1 (.int .i64 x3 :: .int .i64 x4 :: an 9 (.bool x5 :: an 11 []))), ⟨lv + 1, L, E⟩, [], E⟩) ?_ ?_
      · refine satO_reg ?_
        rcases Bool.eq_false_or_eq_true (decide (x4 < (a0.list.length : Int))) with hg6 | hg7
        · have h := ite_t hg6 h
          have hg6n := hg6
          try simp at hg6n
          have g0 := hA.get (k := 0) rfl
          refine satO_step 10 [] ⟨an 1 (.ptr (lv + 1) i2 0 :: an 1 (.int .i64 x3 :: .int .i64 x4 :: .int .i64 x4 :: .ptr (lv + 1) i2 5 :: .sl 6 (a0.list.map GValue.el) false :: .int .i64 (a0.list.length : Int) :: .bool (decide (x4 < (a0.list.length : Int))) :: .bool (decide (x4 < (a0.list.length : Int))) :: .ptr (lv + 1) i2 0 :: .int .u8 a0.kind :: .bool (a0.kind == 4) :: .bool (a0.kind == 4) :: an 11 [])), ⟨lv + 1, L, E⟩, [], E⟩ [] (by first | (simp -implicitDefEqProofs [GValue.cs, g0, hg6]; done) | simp -implicitDefEqProofs [GValue.cs, g0, hg6, hg6n]) claims_nil ?_
          refine satO_nil (by simp) ?_
          refine ⟨⟨an 1 (.ptr (lv + 1) i2 0 :: an 1 (.int .i64 x3 :: .int .i64 x4 :: an 9 (.bool (a0.kind == 4) :: an 11 []))), ⟨lv + 1, L, E⟩, [], E⟩, weak_tmps ?_, n, by omega, (a0.kind == 4), L, hA, h, rfl⟩
          (try simp only [an, List.map_cons, List.map_nil]); repeat (first | exact VLeL.nil | refine VLeL.cons (by first | exact VLe.refl _ | exact VLe.any _ | exact VLe.nil _ _ | exact VLe.full _ _ | (refine VLe.agg' ?_; repeat (first | exact VLeL.nil | refine VLeL.cons (by first | exact VLe.refl _ | exact VLe.any _ | exact VLe.nil _ _) ?_))) ?_)
        · have h := ite_f hg7 h
          have hg7n := hg7
          try simp at hg7n
          have g0 := hA.get (k := 0) rfl
          refine satO_step 10 [] ⟨an 1 (.ptr (lv + 1) i2 0 :: an 1 (.int .i64 x3 :: .int .i64 x4 :: .int .i64 x4 :: .ptr (lv + 1) i2 5 :: .sl 6 (a0.list.map GValue.el) false :: .int .i64 (a0.list.length : Int) :: .bool (decide (x4 < (a0.list.length : Int))) :: .bool (decide (x4 < (a0.list.length : Int))) :: .tup [] :: .tup [] :: .tup [] :: .bool false :: an 11 [])), ⟨lv + 1, L, E⟩, [], E⟩ [] (by first | (simp -implicitDefEqProofs [GValue.cs, g0, hg7]; done) | simp -implicitDefEqProofs [GValue.cs, g0, hg7, hg7n]) claims_nil ?_
          refine satO_nil (by simp) ?_
          refine ⟨⟨an 1 (.ptr (lv + 1) i2 0 :: an 1 (.int .i64 x3 :: .int .i64 x4 :: an 9 (.bool false :: an 11 []))), ⟨lv + 1, L, E⟩, [], E⟩, weak_tmps ?_, n, by omega, false, L, hA, h, rfl⟩
          (try simp only [an, List.map_cons, List.map_nil]); repeat (first | exact VLeL.nil | refine VLeL.cons (by first | exact VLe.refl _ | exact VLe.any _ | exact VLe.nil _ _ | exact VLe.full _ _ | (refine VLe.agg' ?_; repeat (first | exact VLeL.nil | refine VLeL.cons (by first | exact VLe.refl _ | exact VLe.any _ | exact VLe.nil _ _) ?_))) ?_)
      · rintro σ0 σ hw ⟨k, hk, x5, L, hA, h, rfl⟩
        rcases k with _ | n
        · simp [go_ref03_Parts_J1] at h
        · rw [go_ref03_Parts_J1] at h
          refine sat_weak hw ?_
          repeat refine sat_seq ?_
          refine sat_cond rfl (fun hb => ?_) (fun hb => ?_)
          · have h := ite_t hb h
            repeat refine sat_seq ?_
            refine sat_skip ?_
            repeat refine sat_seq ?_
            refine sat_block ?_
            repeat refine sat_seq ?_
            refine satO_reg ?_
            obtain ⟨x8, q9, h⟩ := bnd_hi h
            obtain ⟨q9, q10⟩ := ix_some q9
            obtain ⟨y11, q12, h⟩ := bnd_hi h
            have g0 := hA.get (k := 0) rfl
            refine satO_step 9 [(.int .i64 y11, none)] ⟨an 1 (.ptr (lv + 1) i2 0 :: an 1 (.int .i64 (IntKind.i64.wrap (x3 + y11)) :: .int .i64 x4 :: an 9 (.bool x5 :: an 2 (.int .i64 x3 :: .ptr (lv + 1) i2 5 :: .sl 6 (a0.list.map GValue.el) false :: .int .i64 x4 :: .ref x8.cs 0 :: .agg x8.cs :: .int .i64 y11 :: .int .i64 (IntKind.i64.wrap (x3 + y11)) :: an 1 [])))), ⟨lv + 1, L, E⟩, [], E⟩ [⟨57, [.agg x8.cs], ⟨lv + 1, L, E⟩, .int .i64 y11, ⟨lv + 1, L, E⟩⟩] (by simp -implicitDefEqProofs [GValue.cs, g0, q9, q10, GValue.el_cs]) (claims_cons (ih _ (by omega) _ _ q12 _) claims_nil) ?_
            refine satO_nil (by simp) ?_
            repeat refine sat_seq ?_
            refine satO_reg ?_
            have g0 := hA.get (k := 0) rfl
            refine satO_step 3 [] ⟨an 1 (.ptr (lv + 1) i2 0 :: an 1 (.int .i64 (IntKind.i64.wrap (x3 + y11)) :: .int .i64 (IntKind.i64.wrap (x4 + 1)) :: an 9 (.bool x5 :: .int .i64 x4 :: .int .i64 (IntKind.i64.wrap (x4 + 1)) :: .int .i64 x3 :: .ptr (lv + 1) i2 5 :: .sl 6 (a0.list.map GValue.el) false :: .int .i64 x4 :: .ref x8.cs 0 :: .agg x8.cs :: .int .i64 y11 :: .int .i64 (IntKind.i64.wrap (x3 + y11)) :: an 1 []))), ⟨lv + 1, L, E⟩, [], E⟩ [] (by simp -implicitDefEqProofs [GValue.cs, g0]) claims_nil ?_
            refine satO_nil (by simp) ?_
            refine ⟨n, ⟨an 1 (.ptr (lv + 1) i2 0 :: an 1 (.int .i64 (IntKind.i64.wrap (x3 + y11)) :: .int .i64 (IntKind.i64.wrap (x4 + 1)) :: an 21 [])), ⟨lv + 1, L, E⟩, [], E⟩, weak_tmps ?_, ⟨(IntKind.i64.wrap (x3 + y11)), (IntKind.i64.wrap (x4 + 1)), L, by omega, hA, h, rfl⟩, by omega⟩
            (try simp only [an, List.map_cons, List.map_nil]); repeat (first | exact VLeL.nil | refine VLeL.cons (by first | exact VLe.refl _ | exact VLe.any _ | exact VLe.nil _ _ | exact VLe.full _ _ | (refine VLe.agg' ?_; repeat (first | exact VLeL.nil | refine VLeL.cons (by first | exact VLe.refl _ | exact VLe.any _ | exact VLe.nil _ _) ?_))) ?_)
          · have h := ite_f hb h
            repeat refine sat_seq ?_
            refine sat_exit ?_
            repeat refine sat_seq ?_
            refine satO_reg ?_
            have g0 := hA.get (k := 0) rfl
            refine satO_step 2 [] ⟨an 1 (.ptr (lv + 1) i2 0 :: .int .i64 x3 :: .int .i64 x3 :: .int .i64 x4 :: an 9 (.bool x5 :: an 10 (.int .i64 x3 :: []))), ⟨lv + 1, L, E⟩, [], E⟩ [] (by simp -implicitDefEqProofs [GValue.cs, g0]) claims_nil ?_
            refine satO_nil (by simp) ?_
            repeat refine sat_seq ?_
            refine sat_ret ?_
            have g0 := hA.get (k := 0) rfl
            refine ends (v := .int .i64 x3) (by simp [resultsV, resL, resV, tupOf, Try.f57, pLoad, g0, GValue.cs]) rfl rfl ?_
            injection h with h
            subst h
            exact (.keep _ (by simp [V.kin, V.kinL, GValue.cs]))
end Go.Proofs

namespace Go.Proofs
open Go Go.Ab
set_option maxRecDepth 10000
set_option maxHeartbeats 1000000
set_option linter.unusedSimpArgs false
set_option linter.unusedVariables false
theorem go_ref03_Deep_ok : ∀ n : Nat, (∀ (a0 : GValue) (r : Int), go_ref03_Deep n a0 = some r → PCall Try.prog 58 [.agg a0.cs] (.int .i64 r)) := by
  intro n; induction n using Nat.strongRecOn with | ind n ih =>
  intro a0 r h
  rcases n with _ | n
  · simp [go_ref03_Deep] at h
  rw [go_ref03_Deep] at h
  refine pcall_of Try.func58 rfl Try.ntmps58 (fun _ _ => Try.call58 _ _) fun lv E => ?_
  simp only [List.length_cons, List.length_nil, Nat.reduceAdd, Nat.reduceSub, List.replicate, List.cons_append, List.nil_append]
  have hA := AccG.nil (lv + 1)
  generalize ([] : List (Option AObj)) = L at hA ⊢
  repeat refine sat_seq ?_
  refine satO_reg ?_
  refine satO_step 1 [] ⟨.agg a0.cs :: .ptr (lv + 1) L.length 0 :: an 25 [], ⟨lv + 1, (L ++ [some (.cells a0.cs)]), E⟩, [], E⟩ [] (by simp -implicitDefEqProofs [GValue.cs]) claims_nil ?_
  have hA : AccG (lv + 1) (L ++ [some (.cells a0.cs)]) [] [(L.length, .cells a0.cs)] := hA.obj _
  generalize L.length = i2 at hA ⊢
  generalize (L ++ [some (.cells a0.cs)]) = L at hA ⊢
  have g0 := hA.get (k := 0) rfl
  refine satO_step 1 [] ⟨.agg a0.cs :: .ptr (lv + 1) i2 0 :: .int .i64 0 :: an 24 [], ⟨lv + 1, L, E⟩, [], E⟩ [] (by simp -implicitDefEqProofs [GValue.cs, g0]) claims_nil ?_
  refine satO_nil (by simp) ?_
  repeat refine sat_seq ?_
  refine satO_reg ?_
  have g0 := hA.get (k := 0) rfl
  refine satO_step 1 [] ⟨.agg a0.cs :: .ptr (lv + 1) i2 0 :: .int .i64 0 :: .int .i64 1 :: an 23 [], ⟨lv + 1, L, E⟩, [], E⟩ [] (by simp -implicitDefEqProofs [GValue.cs, g0]) claims_nil ?_
  refine satO_nil (by simp) ?_
  repeat refine sat_seq ?_
  refine satO_reg ?_
  have g0 := hA.get (k := 0) rfl
  refine satO_step 1 [] ⟨.agg a0.cs :: .ptr (lv + 1) i2 0 :: .int .i64 0 :: .int .i64 1 :: .int .i64 0 :: an 22 [], ⟨lv + 1, L, E⟩, [], E⟩ [] (by simp -implicitDefEqProofs [GValue.cs, g0]) claims_nil ?_
  refine satO_nil (by simp) ?_
  repeat refine sat_seq ?_
  refine sat_block ?_
  repeat refine sat_seq ?_
  refine sat_loop (fun k σ => ∃ (x3 : Int) (x4 : Int) (L : List (Option AObj)), k ≤ n ∧ AccG (lv + 1) L [] [(i2, .cells a0.cs)] ∧ go_ref03_Deep_L1 k a0 x3 x4 = some r ∧ σ = ⟨an 1 (.ptr (lv + 1) i2 0 :: an 1 (.int .i64 x3 :: .int .i64 x4 :: an 22 [])), ⟨lv + 1, L, E⟩, [], E⟩) n ⟨an 1 (.ptr (lv + 1) i2 0 :: an 1 (.int .i64 1 :: .int .i64 0 :: an 22 [])), ⟨lv + 1, L, E⟩, [], E⟩ (weak_tmps ?_) ⟨1, 0, L, Nat.le_refl _, hA, h, rfl⟩ ?_
  · (try simp only [an, List.map_cons, List.map_nil]); repeat (first | exact VLeL.nil | refine VLeL.cons (by first | exact VLe.refl _ | exact VLe.any _ | exact VLe.nil _ _ | exact VLe.full _ _ | (refine VLe.agg' ?_; repeat (first | exact VLeL.nil | refine VLeL.cons (by first | exact VLe.refl _ | exact VLe.any _ | exact VLe.nil _ _) ?_))) ?_)
  · rintro k σ ⟨x3, x4, L, hk, hA, h, rfl⟩
    rcases k with _ | n
    · simp [go_ref03_Deep_L1] at h
    · rw [go_ref03_Deep_L1] at h
      repeat refine sat_seq ?_
      refine sat_meet (fun σ => ∃ (k : Nat), k ≤ n ∧ ∃ (x5 : Bool) (L : List (Option AObj)), AccG (lv + 1) L [] [(i2, .cells a0.cs)] ∧ go_ref03_Deep_J1 k a0 x3 x4 x5 = some r ∧ σ = ⟨an 1 (.ptr (lv + 1) i2 0 :: an 1 (.int .i64 x3 :: .int .i64 x4 :: an 9 (.bool x5 :: an 12 []))), ⟨lv + 1, L, E⟩, [], E⟩) ?_ ?_
      · refine satO_reg ?_
        rcases Bool.eq_false_or_eq_true (decide (x4 < (a0.list.length : Int))) with hg6 | hg7
        · have h := ite_t hg6 h
          have hg6n := hg6
          try simp at hg6n
          have g0 := hA.get (k := 0) rfl
          refine satO_step 10 [] ⟨an 1 (.ptr (lv + 1) i2 0 :: an 1 (.int .i64 x3 :: .int .i64 x4 :: .int .i64 x4 :: .ptr (lv + 1) i2 5 :: .sl 6 (a0.list.map GValue.el) false :: .int .i64 (a0.list.length : Int) :: .bool (decide (x4 < (a0.list.length : Int))) :: .bool (decide (x4 < (a0.list.length : Int))) :: .ptr (lv + 1) i2 0 :: .int .u8 a0.kind :: .bool (a0.kind == 4) :: .bool (a0.kind == 4) :: an 12 [])), ⟨lv + 1, L, E⟩, [], E⟩ [] (by first | (simp -implicitDefEqProofs [GValue.cs, g0, hg6]; done) | simp -implicitDefEqProofs [GValue.cs, g0, hg6, hg6n]) claims_nil ?_
          refine satO_nil (by simp) ?_
          refine ⟨⟨an 1 (.ptr (lv + 1) i2 0 :: an 1 (.int .i64 x3 :: .int .i64 x4 :: an 9 (.bool (a0.kind == 4) :: an 12 []))), ⟨lv + 1, L, E⟩, [], E⟩, weak_tmps ?_, n, by omega, (a0.kind == 4), L, hA, h, rfl⟩
          (try simp only [an, List.map_cons, List.map_nil]); repeat (first | exact VLeL.nil | refine VLeL.cons (by first | exact VLe.refl _ | exact VLe.any _ | exact VLe.nil _ _ | exact VLe.full _ _ | (refine VLe.agg' ?_; repeat (first | exact VLeL.nil | refine VLeL.cons (by first | exact VLe.refl _ | exact VLe.any _ | exact VLe.nil _ _) ?_))) ?_)
        · have h := ite_f hg7 h
          have hg7n := hg7
          try simp at hg7n
          have g0 := hA.get (k := 0) rfl
          refine satO_step 10 [] ⟨an 1 (.ptr (lv + 1) i2 0 :: an 1 (.int .i64 x3 :: .int .i64 x4 :: .int .i64 x4 :: .ptr (lv + 1) i2 5 :: .sl 6 (a0.list.map GValue.el) false :: .int .i64 (a0.list.length : Int) :: .bool (decide (x4 < (a0.list.length : Int))) :: .bool (decide (x4 < (a0.list.length : Int))) :: .tup [] :: .tup [] :: .tup [] :: .bool false :: an 12 [])), ⟨lv + 1, L, E⟩, [], E⟩ [] (by first | (simp -implicitDefEqProofs [GValue.cs, g0, hg7]; done) | simp -implicitDefEqProofs [GValue.cs, g0, hg7, hg7n]) claims_nil ?_
          refine satO_nil (by simp) ?_
          refine ⟨⟨an 1 (.ptr (lv + 1) i2 0 :: an 1 (.int .i64 x3 :: .int .i64 x4 :: an 9 (.bool false :: an 12 []))), ⟨lv + 1, L, E⟩, [], E⟩, weak_tmps ?_, n, by omega, false, L, hA, h, rfl⟩
          (try simp only [an, List.map_cons, List.map_nil]); repeat (first | exact VLeL.nil | refine VLeL.cons (by first | exact VLe.refl _ | exact VLe.any _ | exact VLe.nil _ _ | exact VLe.full _ _ | (refine VLe.agg' ?_; repeat (first | exact VLeL.nil | refine VLeL.cons (by first | exact VLe.refl _ | exact VLe.any _ | exact VLe.nil _ _) ?_))) ?_)
      · rintro σ0 σ hw ⟨k, hk, x5, L, hA, h, rfl⟩
        rcases k with _ | n
        · simp [go_ref03_Deep_J1] at h
        · rw [go_ref03_Deep_J1] at h
          refine sat_weak hw ?_
          repeat refine sat_seq ?_
          refine sat_cond rfl (fun hb => ?_) (fun hb => ?_)
          · have h := ite_t hb h
            repeat refine sat_seq ?_
            refine sat_skip ?_
            repeat refine sat_seq ?_
            refine sat_block ?_
            repeat refine sat_seq ?_
            refine satO_reg ?_
            obtain ⟨x8, q9, h⟩ := bnd_hi h
            obtain ⟨q9, q10⟩ := ix_some q9
            obtain ⟨y11, q12, h⟩ := bnd_hi h
            have g0 := hA.get (k := 0) rfl
            refine satO_step 10 [(.int .i64 y11, none)] ⟨an 1 (.ptr (lv + 1) i2 0 :: an 1 (.int .i64 (mxI x3 (IntKind.i64.wrap (1 + y11))) :: .int .i64 x4 :: an 9 (.bool x5 :: an 2 (.int .i64 x3 :: .ptr (lv + 1) i2 5 :: .sl 6 (a0.list.map GValue.el) false :: .int .i64 x4 :: .ref x8.cs 0 :: .agg x8.cs :: .int .i64 y11 :: .int .i64 (IntKind.i64.wrap (1 + y11)) :: .int .i64 (mxI x3 (IntKind.i64.wrap (1 + y11))) :: an 1 [])))), ⟨lv + 1, L, E⟩, [], E⟩ [⟨58, [.agg x8.cs], ⟨lv + 1, L, E⟩, .int .i64 y11, ⟨lv + 1, L, E⟩⟩] (by simp -implicitDefEqProofs [GValue.cs, g0, q9, q10, GValue.el_cs]) (claims_cons (ih _ (by omega) _ _ q12 _) claims_nil) ?_
            refine satO_nil (by simp) ?_
            repeat refine sat_seq ?_
            refine satO_reg ?_
            have g0 := hA.get (k := 0) rfl
            refine satO_step 3 [] ⟨an 1 (.ptr (lv + 1) i2 0 :: an 1 (.int .i64 (mxI x3 (IntKind.i64.wrap (1 + y11))) :: .int .i64 (IntKind.i64.wrap (x4 + 1)) :: an 9 (.bool x5 :: .int .i64 x4 :: .int .i64 (IntKind.i64.wrap (x4 + 1)) :: .int .i64 x3 :: .ptr (lv + 1) i2 5 :: .sl 6 (a0.list.map GValue.el) false :: .int .i64 x4 :: .ref x8.cs 0 :: .agg x8.cs :: .int .i64 y11 :: .int .i64 (IntKind.i64.wrap (1 + y11)) :: .int .i64 (mxI x3 (IntKind.i64.wrap (1 + y11))) :: an 1 []))), ⟨lv + 1, L, E⟩, [], E⟩ [] (by simp -implicitDefEqProofs [GValue.cs, g0]) claims_nil ?_
            refine satO_nil (by simp) ?_
            refine ⟨n, ⟨an 1 (.ptr (lv + 1) i2 0 :: an 1 (.int .i64 (mxI x3 (IntKind.i64.wrap (1 + y11))) :: .int .i64 (IntKind.i64.wrap (x4 + 1)) :: an 22 [])), ⟨lv + 1, L, E⟩, [], E⟩, weak_tmps ?_, ⟨(mxI x3 (IntKind.i64.wrap (1 + y11))), (IntKind.i64.wrap (x4 + 1)), L, by omega, hA, h, rfl⟩, by omega⟩
            (try simp only [an, List.map_cons, List.map_nil]); repeat (first | exact VLeL.nil | refine VLeL.cons (by first | exact VLe.refl _ | exact VLe.any _ | exact VLe.nil _ _ | exact VLe.full _ _ | (refine VLe.agg' ?_; repeat (first | exact VLeL.nil | refine VLeL.cons (by first | exact VLe.refl _ | exact VLe.any _ | exact VLe.nil _ _) ?_))) ?_)
          · have h := ite_f hb h
            repeat refine sat_seq ?_
            refine sat_exit ?_
            repeat refine sat_seq ?_
            refine satO_reg ?_
            have g0 := hA.get (k := 0) rfl
            refine satO_step 2 [] ⟨an 1 (.ptr (lv + 1) i2 0 :: .int .i64 x3 :: .int .i64 x3 :: .int .i64 x4 :: an 9 (.bool x5 :: an 11 (.int .i64 x3 :: []))), ⟨lv + 1, L, E⟩, [], E⟩ [] (by simp -implicitDefEqProofs [GValue.cs, g0]) claims_nil ?_
            refine satO_nil (by simp) ?_
            repeat refine sat_seq ?_
            refine sat_ret ?_
            have g0 := hA.get (k := 0) rfl
            refine ends (v := .int .i64 x3) (by simp [resultsV, resL, resV, tupOf, Try.f58, pLoad, g0, GValue.cs]) rfl rfl ?_
            injection h with h
            subst h
            exact (.keep _ (by simp [V.kin, V.kinL, GValue.cs]))
end Go.Proofs

namespace Go.Proofs
open Go Go.Ab
set_option maxRecDepth 10000
set_option maxHeartbeats 1000000
set_option linter.unusedSimpArgs false
set_option linter.unusedVariables false
theorem go_ref01_common_ok (n : Nat) (a0 : Int) (a1 : Int) (r : Int) (h : go_ref01_common n a0 a1 = some r) : PCall Try.prog 118 [.int .i64 a0, .int .i64 a1] (.int .i64 r) := by
  rcases n with _ | n
  · simp [go_ref01_common] at h
  rw [go_ref01_common] at h
  refine pcall_of Try.func118 rfl Try.ntmps118 (fun _ _ => Try.call118 _ _) fun lv E => ?_
  simp only [List.length_cons, List.length_nil, Nat.reduceAdd, Nat.reduceSub, List.replicate, List.cons_append, List.nil_append]
  have hA := AccG.nil (lv + 1)
  generalize ([] : List (Option AObj)) = L at hA ⊢
  repeat refine sat_seq ?_
  refine satO_reg ?_
  refine satO_step 1 [] ⟨.int .i64 a0 :: .int .i64 a1 :: an 2 (.int .i64 0 :: an 11 []), ⟨lv + 1, L, E⟩, [], E⟩ [] (by simp -implicitDefEqProofs []) claims_nil ?_
  refine satO_nil (by simp) ?_
  repeat refine sat_seq ?_
  refine sat_block ?_
  repeat refine sat_seq ?_
  refine sat_loop (fun k σ => ∃ (x1 : Int) (x2 : Int) (L : List (Option AObj)), k ≤ n ∧ AccG (lv + 1) L [] [] ∧ go_ref01_common_L1 k x1 x2 = some r ∧ σ = ⟨.int .i64 x1 :: .int .i64 x2 :: an 14 [], ⟨lv + 1, L, E⟩, [], E⟩) n ⟨.int .i64 a0 :: .int .i64 a1 :: an 14 [], ⟨lv + 1, L, E⟩, [], E⟩ (weak_tmps ?_) ⟨a0, a1, L, Nat.le_refl _, hA, h, rfl⟩ ?_
  · (try simp only [an, List.map_cons, List.map_nil]); repeat (first | exact VLeL.nil | refine VLeL.cons (by first | exact VLe.refl _ | exact VLe.any _ | exact VLe.nil _ _ | exact VLe.full _ _ | (refine VLe.agg' ?_; repeat (first | exact VLeL.nil | refine VLeL.cons (by first | exact VLe.refl _ | exact VLe.any _ | exact VLe.nil _ _) ?_))) ?_)
  · rintro k σ ⟨x1, x2, L, hk, hA, h, rfl⟩
    rcases k with _ | n
    · simp [go_ref01_common_L1] at h
    · rw [go_ref01_common_L1] at h
      repeat refine sat_seq ?_
      refine satO_reg ?_
      refine satO_step 2 [] ⟨.int .i64 x1 :: .int .i64 x2 :: an 3 (.int .i64 x2 :: .bool (!(x2 == 0)) :: an 9 []), ⟨lv + 1, L, E⟩, [], E⟩ [] (by simp -implicitDefEqProofs []) claims_nil ?_
      refine satO_nil (by simp) ?_
      repeat refine sat_seq ?_
      refine sat_cond rfl (fun hb => ?_) (fun hb => ?_)
      · have h := ite_t hb h
        repeat refine sat_seq ?_
        refine sat_skip ?_
        repeat refine sat_seq ?_
        refine sat_block ?_
        repeat refine sat_seq ?_
        obtain ⟨x3, q4, h⟩ := bnd_hi h
        obtain ⟨q4, q5⟩ := rem_some q4
        refine satO_drw (by kernel_rfl) (by kernel_rfl) [] ⟨.int .i64 x2 :: .int .i64 x3 :: an 3 (.int .i64 x2 :: .bool (!(x2 == 0)) :: .int .i64 x2 :: .int .i64 x1 :: .int .i64 x2 :: .int .i64 x3 :: an 5 []), ⟨lv + 1, L, E⟩, [], E⟩ [] (by simp -implicitDefEqProofs [q4, q5]) claims_nil ?_
        refine ⟨n, ⟨.int .i64 x2 :: .int .i64 x3 :: an 14 [], ⟨lv + 1, L, E⟩, [], E⟩, weak_tmps ?_, ⟨x2, x3, L, by omega, hA, h, rfl⟩, by omega⟩
        (try simp only [an, List.map_cons, List.map_nil]); repeat (first | exact VLeL.nil | refine VLeL.cons (by first | exact VLe.refl _ | exact VLe.any _ | exact VLe.nil _ _ | exact VLe.full _ _ | (refine VLe.agg' ?_; repeat (first | exact VLeL.nil | refine VLeL.cons (by first | exact VLe.refl _ | exact VLe.any _ | exact VLe.nil _ _) ?_))) ?_)
      · have h := ite_f hb h
        repeat refine sat_seq ?_
        refine sat_exit ?_
        repeat refine sat_seq ?_
        refine satO_reg ?_
        refine satO_step 2 [] ⟨.int .i64 x1 :: .int .i64 x2 :: an 3 (.int .i64 x2 :: .bool (!(x2 == 0)) :: an 4 (.int .i64 x1 :: .bool (decide (x1 < 0)) :: an 3 [])), ⟨lv + 1, L, E⟩, [], E⟩ [] (by simp -implicitDefEqProofs []) claims_nil ?_
        refine satO_nil (by simp) ?_
        repeat refine sat_seq ?_
        refine sat_cond rfl (fun hb => ?_) (fun hb => ?_)
        · have h := ite_t hb h
          repeat refine sat_seq ?_
          refine satO_reg ?_
          refine satO_step 3 [] ⟨.int .i64 x1 :: .int .i64 x2 :: an 2 (.int .i64 (IntKind.i64.wrap (0 - x1)) :: .int .i64 x2 :: .bool (!(x2 == 0)) :: an 4 (.int .i64 x1 :: .bool (decide (x1 < 0)) :: .int .i64 x1 :: .int .i64 (IntKind.i64.wrap (0 - x1)) :: an 1 [])), ⟨lv + 1, L, E⟩, [], E⟩ [] (by simp -implicitDefEqProofs []) claims_nil ?_
          refine satO_nil (by simp) ?_
          repeat refine sat_seq ?_
          refine sat_ret ?_
          refine ends (v := .int .i64 (IntKind.i64.wrap (0 - x1))) (by simp [resultsV, resL, resV, tupOf, Try.f118, pLoad]) rfl rfl ?_
          injection h with h
          subst h
          exact (.keep _ (by simp [V.kin, V.kinL]))
        · have h := ite_f hb h
          repeat refine sat_seq ?_
          refine sat_skip ?_
          repeat refine sat_seq ?_
          refine satO_reg ?_
          refine satO_step 2 [] ⟨.int .i64 x1 :: .int .i64 x2 :: an 2 (.int .i64 x1 :: .int .i64 x2 :: .bool (!(x2 == 0)) :: an 4 (.int .i64 x1 :: .bool (decide (x1 < 0)) :: an 2 (.int .i64 x1 :: []))), ⟨lv + 1, L, E⟩, [], E⟩ [] (by simp -implicitDefEqProofs []) claims_nil ?_
          refine satO_nil (by simp) ?_
          repeat refine sat_seq ?_
          refine sat_ret ?_
          refine ends (v := .int .i64 x1) (by simp [resultsV, resL, resV, tupOf, Try.f118, pLoad]) rfl rfl ?_
          injection h with h
          subst h
          exact (.keep _ (by simp [V.kin, V.kinL]))
end Go.Proofs

namespace Go.Proofs
open Go Go.Ab
set_option maxRecDepth 10000
set_option maxHeartbeats 1000000
set_option linter.unusedSimpArgs false
set_option linter.unusedVariables false
theorem go_ref01_Check_ok (n : Nat) (a0 : GRatio) (r : Int) (h : go_ref01_Check n a0 = some r) : PCall Try.prog 84 [.agg a0.cs] (.int .i64 r) := by
  rw [go_ref01_Check] at h
  refine pcall_of Try.func84 rfl Try.ntmps84 (fun _ _ => Try.call84 _ _) fun lv E => ?_
  simp only [List.length_cons, List.length_nil, Nat.reduceAdd, Nat.reduceSub, List.replicate, List.cons_append, List.nil_append]
  have hA := AccG.nil (lv + 1)
  generalize ([] : List (Option AObj)) = L at hA ⊢
  repeat refine sat_seq ?_
  refine satO_reg ?_
  refine satO_step 1 [] ⟨.agg a0.cs :: .ptr (lv + 1) L.length 0 :: an 27 [], ⟨lv + 1, (L ++ [some (.cells a0.cs)]), E⟩, [], E⟩ [] (by simp -implicitDefEqProofs [GRatio.cs]) claims_nil ?_
  have hA : AccG (lv + 1) (L ++ [some (.cells a0.cs)]) [] [(L.length, .cells a0.cs)] := hA.obj _
  generalize L.length = i2 at hA ⊢
  generalize (L ++ [some (.cells a0.cs)]) = L at hA ⊢
  have g0 := hA.get (k := 0) rfl
  refine satO_step 1 [] ⟨.agg a0.cs :: .ptr (lv + 1) i2 0 :: .int .i64 0 :: an 26 [], ⟨lv + 1, L, E⟩, [], E⟩ [] (by simp -implicitDefEqProofs [GRatio.cs, g0]) claims_nil ?_
  refine satO_nil (by simp) ?_
  repeat refine sat_seq ?_
  refine sat_meet (fun σ => ∃ (x3 : Bool) (L : List (Option AObj)), AccG (lv + 1) L [] [] ∧ go_ref01_Check_J1 n x3 = some r ∧ σ = ⟨an 28 (.bool x3 :: []), ⟨lv + 1, L, E⟩, [], E⟩) ?_ ?_
  · refine satO_reg ?_
    rcases Bool.eq_false_or_eq_true (decide (a0.den < 1)) with hg4 | hg5
    · have h := ite_t hg4 h
      have hg4n := hg4
      try simp at hg4n
      have g0 := hA.get (k := 0) rfl
      refine satO_step 26 [] ⟨.agg a0.cs :: .ptr (lv + 1) i2 0 :: .int .i64 0 :: .ptr (lv + 1) i2 1 :: .int .i64 a0.den :: .bool (decide (a0.den < 1)) :: .bool (decide (a0.den < 1)) :: .tup [] :: .tup [] :: .tup [] :: .bool true :: .bool true :: .tup [] :: .tup [] :: .tup [] :: .bool true :: .bool true :: .tup [] :: .tup [] :: .tup [] :: .bool true :: .bool true :: .tup [] :: .tup [] :: .tup [] :: .tup [] :: .tup [] :: .tup [] :: .bool true :: [], ⟨lv + 1, L, E⟩, [], E⟩ [] (by first | (simp -implicitDefEqProofs [GRatio.cs, g0, hg4]; done) | simp -implicitDefEqProofs [GRatio.cs, g0, hg4, hg4n]) claims_nil ?_
      refine satO_nil (by simp) ?_
      have hA : AccG (lv + 1) L [] [] := hA.sel [] (by simp) rfl (.cons _ .slnil)
      refine ⟨⟨an 28 (.bool true :: []), ⟨lv + 1, L, E⟩, [], E⟩, weak_tmps ?_, true, L, hA, h, rfl⟩
      (try simp only [an, List.map_cons, List.map_nil]); repeat (first | exact VLeL.nil | refine VLeL.cons (by first | exact VLe.refl _ | exact VLe.any _ | exact VLe.nil _ _ | exact VLe.full _ _ | (refine VLe.agg' ?_; repeat (first | exact VLeL.nil | refine VLeL.cons (by first | exact VLe.refl _ | exact VLe.any _ | exact VLe.nil _ _) ?_))) ?_)
    · have h := ite_f hg5 h
      have hg5n := hg5
      try simp at hg5n
      rcases Bool.eq_false_or_eq_true (decide (1000000000 < a0.den)) with hg6 | hg7
      · have h := ite_t hg6 h
        have hg6n := hg6
        try simp at hg6n
        have g0 := hA.get (k := 0) rfl
        refine satO_step 26 [] ⟨.agg a0.cs :: .ptr (lv + 1) i2 0 :: .int .i64 0 :: .ptr (lv + 1) i2 1 :: .int .i64 a0.den :: .bool (decide (a0.den < 1)) :: .bool (decide (a0.den < 1)) :: .ptr (lv + 1) i2 1 :: .int .i64 a0.den :: .bool (decide (1000000000 < a0.den)) :: .bool (decide (1000000000 < a0.den)) :: .bool (decide (1000000000 < a0.den)) :: .tup [] :: .tup [] :: .tup [] :: .bool true :: .bool true :: .tup [] :: .tup [] :: .tup [] :: .bool true :: .bool true :: .tup [] :: .tup [] :: .tup [] :: .tup [] :: .tup [] :: .tup [] :: .bool true :: [], ⟨lv + 1, L, E⟩, [], E⟩ [] (by first | (simp -implicitDefEqProofs [GRatio.cs, g0, hg5, hg6]; done) | simp -implicitDefEqProofs [GRatio.cs, g0, hg5, hg6, hg5n, hg6n]) claims_nil ?_
        refine satO_nil (by simp) ?_
        have hA : AccG (lv + 1) L [] [] := hA.sel [] (by simp) rfl (.cons _ .slnil)
        refine ⟨⟨an 28 (.bool true :: []), ⟨lv + 1, L, E⟩, [], E⟩, weak_tmps ?_, true, L, hA, h, rfl⟩
        (try simp only [an, List.map_cons, List.map_nil]); repeat (first | exact VLeL.nil | refine VLeL.cons (by first | exact VLe.refl _ | exact VLe.any _ | exact VLe.nil _ _ | exact VLe.full _ _ | (refine VLe.agg' ?_; repeat (first | exact VLeL.nil | refine VLeL.cons (by first | exact VLe.refl _ | exact VLe.any _ | exact VLe.nil _ _) ?_))) ?_)
      · have h := ite_f hg7 h
        have hg7n := hg7
        try simp at hg7n
        rcases Bool.eq_false_or_eq_true (decide (a0.num < (-1000000000))) with hg8 | hg9
        · have h := ite_t hg8 h
          have hg8n := hg8
          try simp at hg8n
          have g0 := hA.get (k := 0) rfl
          refine satO_step 26 [] ⟨.agg a0.cs :: .ptr (lv + 1) i2 0 :: .int .i64 0 :: .ptr (lv + 1) i2 1 :: .int .i64 a0.den :: .bool (decide (a0.den < 1)) :: .bool (decide (a0.den < 1)) :: .ptr (lv + 1) i2 1 :: .int .i64 a0.den :: .bool (decide (1000000000 < a0.den)) :: .bool (decide (1000000000 < a0.den)) :: .bool (decide (1000000000 < a0.den)) :: .ptr (lv + 1) i2 0 :: .int .i64 a0.num :: .bool (decide (a0.num < (-1000000000))) :: .bool (decide (a0.num < (-1000000000))) :: .bool (decide (a0.num < (-1000000000))) :: .tup [] :: .tup [] :: .tup [] :: .bool true :: .bool true :: .tup [] :: .tup [] :: .tup [] :: .tup [] :: .tup [] :: .tup [] :: .bool true :: [], ⟨lv + 1, L, E⟩, [], E⟩ [] (by first | (simp -implicitDefEqProofs [GRatio.cs, g0, hg5, hg7, hg8]; done) | simp -implicitDefEqProofs [GRatio.cs, g0, hg5, hg7, hg8, hg5n, hg7n, hg8n]) claims_nil ?_
          refine satO_nil (by simp) ?_
          have hA : AccG (lv + 1) L [] [] := hA.sel [] (by simp) rfl (.cons _ .slnil)
          refine ⟨⟨an 28 (.bool true :: []), ⟨lv + 1, L, E⟩, [], E⟩, weak_tmps ?_, true, L, hA, h, rfl⟩
          (try simp only [an, List.map_cons, List.map_nil]); repeat (first | exact VLeL.nil | refine VLeL.cons (by first | exact VLe.refl _ | exact VLe.any _ | exact VLe.nil _ _ | exact VLe.full _ _ | (refine VLe.agg' ?_; repeat (first | exact VLeL.nil | refine VLeL.cons (by first | exact VLe.refl _ | exact VLe.any _ | exact VLe.nil _ _) ?_))) ?_)
        · have h := ite_f hg9 h
          have hg9n := hg9
          try simp at hg9n
          rcases Bool.eq_false_or_eq_true (decide (1000000000 < a0.num)) with hg10 | hg11
          · have h := ite_t hg10 h
            have hg10n := hg10
            try simp at hg10n
            have g0 := hA.get (k := 0) rfl
            refine satO_step 26 [] ⟨.agg a0.cs :: .ptr (lv + 1) i2 0 :: .int .i64 0 :: .ptr (lv + 1) i2 1 :: .int .i64 a0.den :: .bool (decide (a0.den < 1)) :: .bool (decide (a0.den < 1)) :: .ptr (lv + 1) i2 1 :: .int .i64 a0.den :: .bool (decide (1000000000 < a0.den)) :: .bool (decide (1000000000 < a0.den)) :: .bool (decide (1000000000 < a0.den)) :: .ptr (lv + 1) i2 0 :: .int .i64 a0.num :: .bool (decide (a0.num < (-1000000000))) :: .bool (decide (a0.num < (-1000000000))) :: .bool (decide (a0.num < (-1000000000))) :: .ptr (lv + 1) i2 0 :: .int .i64 a0.num :: .bool (decide (1000000000 < a0.num)) :: .bool (decide (1000000000 < a0.num)) :: .bool (decide (1000000000 < a0.num)) :: .tup [] :: .tup [] :: .tup [] :: .tup [] :: .tup [] :: .tup [] :: .bool true :: [], ⟨lv + 1, L, E⟩, [], E⟩ [] (by first | (simp -implicitDefEqProofs [GRatio.cs, g0, hg5, hg7, hg9, hg10]; done) | simp -implicitDefEqProofs [GRatio.cs, g0, hg5, hg7, hg9, hg10, hg5n, hg7n, hg9n, hg10n]) claims_nil ?_
            refine satO_nil (by simp) ?_
            have hA : AccG (lv + 1) L [] [] := hA.sel [] (by simp) rfl (.cons _ .slnil)
            refine ⟨⟨an 28 (.bool true :: []), ⟨lv + 1, L, E⟩, [], E⟩, weak_tmps ?_, true, L, hA, h, rfl⟩
            (try simp only [an, List.map_cons, List.map_nil]); repeat (first | exact VLeL.nil | refine VLeL.cons (by first | exact VLe.refl _ | exact VLe.any _ | exact VLe.nil _ _ | exact VLe.full _ _ | (refine VLe.agg' ?_; repeat (first | exact VLeL.nil | refine VLeL.cons (by first | exact VLe.refl _ | exact VLe.any _ | exact VLe.nil _ _) ?_))) ?_)
          · have h := ite_f hg11 h
            have hg11n := hg11
            try simp at hg11n
            obtain ⟨y12, q13, h⟩ := bnd_hi h
            have g0 := hA.get (k := 0) rfl
            refine satO_step 26 [(.int .i64 y12, none)] ⟨.agg a0.cs :: .ptr (lv + 1) i2 0 :: .int .i64 0 :: .ptr (lv + 1) i2 1 :: .int .i64 a0.den :: .bool (decide (a0.den < 1)) :: .bool (decide (a0.den < 1)) :: .ptr (lv + 1) i2 1 :: .int .i64 a0.den :: .bool (decide (1000000000 < a0.den)) :: .bool (decide (1000000000 < a0.den)) :: .bool (decide (1000000000 < a0.den)) :: .ptr (lv + 1) i2 0 :: .int .i64 a0.num :: .bool (decide (a0.num < (-1000000000))) :: .bool (decide (a0.num < (-1000000000))) :: .bool (decide (a0.num < (-1000000000))) :: .ptr (lv + 1) i2 0 :: .int .i64 a0.num :: .bool (decide (1000000000 < a0.num)) :: .bool (decide (1000000000 < a0.num)) :: .bool (decide (1000000000 < a0.num)) :: .ptr (lv + 1) i2 0 :: .int .i64 a0.num :: .ptr (lv + 1) i2 1 :: .int .i64 a0.den :: .int .i64 y12 :: .bool (!(y12 == 1)) :: .bool (!(y12 == 1)) :: [], ⟨lv + 1, L, E⟩, [], E⟩ [⟨118, [.int .i64 a0.num, .int .i64 a0.den], ⟨lv + 1, L, E⟩, .int .i64 y12, ⟨lv + 1, L, E⟩⟩] (by first | (simp -implicitDefEqProofs [GRatio.cs, g0, hg5, hg7, hg9, hg11]; done) | simp -implicitDefEqProofs [GRatio.cs, g0, hg5, hg7, hg9, hg11, hg5n, hg7n, hg9n, hg11n]) (claims_cons (go_ref01_common_ok _ _ _ _ q13 _) claims_nil) ?_
            refine satO_nil (by simp) ?_
            have hA : AccG (lv + 1) L [] [] := hA.sel [] (by simp) rfl (.cons _ .slnil)
            refine ⟨⟨an 28 (.bool (!(y12 == 1)) :: []), ⟨lv + 1, L, E⟩, [], E⟩, weak_tmps ?_, (!(y12 == 1)), L, hA, h, rfl⟩
            (try simp only [an, List.map_cons, List.map_nil]); repeat (first | exact VLeL.nil | refine VLeL.cons (by first | exact VLe.refl _ | exact VLe.any _ | exact VLe.nil _ _ | exact VLe.full _ _ | (refine VLe.agg' ?_; repeat (first | exact VLeL.nil | refine VLeL.cons (by first | exact VLe.refl _ | exact VLe.any _ | exact VLe.nil _ _) ?_))) ?_)
  · rintro σ0 σ hw ⟨x3, L, hA, h, rfl⟩
    rw [go_ref01_Check_J1] at h
    refine sat_weak hw ?_
    repeat refine sat_seq ?_
    refine sat_cond rfl (fun hb => ?_) (fun hb => ?_)
    · have h := ite_t hb h
      repeat refine sat_seq ?_
      refine satO_reg ?_
      refine satO_step 1 [] ⟨an 2 (.int .i64 8 :: an 25 (.bool x3 :: [])), ⟨lv + 1, L, E⟩, [], E⟩ [] (by simp -implicitDefEqProofs [GRatio.cs]) claims_nil ?_
      refine satO_nil (by simp) ?_
      repeat refine sat_seq ?_
      refine sat_ret ?_
      refine ends (v := .int .i64 8) (by simp [resultsV, resL, resV, tupOf, Try.f84, pLoad, GRatio.cs]) rfl rfl ?_
      injection h with h
      subst h
      exact (.keep _ (by simp [V.kin, V.kinL, GRatio.cs]))
    · have h := ite_f hb h
      repeat refine sat_seq ?_
      refine sat_skip ?_
      repeat refine sat_seq ?_
      refine satO_reg ?_
      refine satO_step 1 [] ⟨an 2 (.int .i64 0 :: an 25 (.bool x3 :: [])), ⟨lv + 1, L, E⟩, [], E⟩ [] (by simp -implicitDefEqProofs [GRatio.cs]) claims_nil ?_
      refine satO_nil (by simp) ?_
      repeat refine sat_seq ?_
      refine sat_ret ?_
      refine ends (v := .int .i64 0) (by simp [resultsV, resL, resV, tupOf, Try.f84, pLoad, GRatio.cs]) rfl rfl ?_
      injection h with h
      subst h
      exact (.keep _ (by simp [V.kin, V.kinL, GRatio.cs]))
end Go.Proofs

namespace Go.Proofs
open Go Go.Ab
set_option maxRecDepth 10000
set_option maxHeartbeats 1000000
set_option linter.unusedSimpArgs false
set_option linter.unusedVariables false
theorem go_ref03_fine_ok : ∀ n : Nat, (∀ (a0 : GValue) (r : Bool), go_ref03_fine n a0 = some r → PCall Try.prog 59 [.agg a0.cs] (.bool r)) := by
  intro n; induction n using Nat.strongRecOn with | ind n ih =>
  intro a0 r h
  rcases n with _ | n
  · simp [go_ref03_fine] at h
  rw [go_ref03_fine] at h
  refine pcall_of Try.func59 rfl Try.ntmps59 (fun _ _ => Try.call59 _ _) fun lv E => ?_
  simp only [List.length_cons, List.length_nil, Nat.reduceAdd, Nat.reduceSub, List.replicate, List.cons_append, List.nil_append]
  have hA := AccG.nil (lv + 1)
  generalize ([] : List (Option AObj)) = L at hA ⊢
  repeat refine sat_seq ?_
  refine satO_reg ?_
  refine satO_step 1 [] ⟨.agg a0.cs :: .ptr (lv + 1) L.length 0 :: an 119 [], ⟨lv + 1, (L ++ [some (.cells a0.cs)]), E⟩, [], E⟩ [] (by simp -implicitDefEqProofs [GValue.cs]) claims_nil ?_
  have hA : AccG (lv + 1) (L ++ [some (.cells a0.cs)]) [] [(L.length, .cells a0.cs)] := hA.obj _
  generalize L.length = i2 at hA ⊢
  generalize (L ++ [some (.cells a0.cs)]) = L at hA ⊢
  have g0 := hA.get (k := 0) rfl
  refine satO_step 1 [] ⟨.agg a0.cs :: .ptr (lv + 1) i2 0 :: .bool false :: an 118 [], ⟨lv + 1, L, E⟩, [], E⟩ [] (by simp -implicitDefEqProofs [GValue.cs, g0]) claims_nil ?_
  refine satO_nil (by simp) ?_
  repeat refine sat_seq ?_
  refine satO_reg ?_
  have g0 := hA.get (k := 0) rfl
  refine satO_step 1 [] ⟨.agg a0.cs :: .ptr (lv + 1) i2 0 :: .bool false :: an 3 (.agg [.int .i64 0, .int .i64 0] :: an 114 []), ⟨lv + 1, L, E⟩, [], E⟩ [] (by simp -implicitDefEqProofs [GValue.cs, g0]) claims_nil ?_
  refine satO_step 1 [] ⟨.agg a0.cs :: .ptr (lv + 1) i2 0 :: .bool false :: .ptr (lv + 1) L.length 0 :: an 2 (.agg [.int .i64 0, .int .i64 0] :: an 114 []), ⟨lv + 1, (L ++ [some (.cells [.int .i64 0, .int .i64 0])]), E⟩, [], E⟩ [] (by simp -implicitDefEqProofs [GValue.cs]) claims_nil ?_
  have hA : AccG (lv + 1) (L ++ [some (.cells [.int .i64 0, .int .i64 0])]) [] [(L.length, .cells [.int .i64 0, .int .i64 0]), (i2, .cells a0.cs)] := hA.obj _
  generalize L.length = i4 at hA ⊢
  generalize (L ++ [some (.cells [.int .i64 0, .int .i64 0])]) = L at hA ⊢
  have g0 := hA.get (k := 0) rfl
  have g1 := hA.get (k := 1) rfl
  refine satO_step 1 [] ⟨.agg a0.cs :: .ptr (lv + 1) i2 0 :: .bool false :: .ptr (lv + 1) i4 0 :: an 2 (.agg [.int .i64 0, .int .i64 0] :: an 114 []), ⟨lv + 1, (L.set i4 (some (.cells [.int .i64 0, .int .i64 0]))), E⟩, [], E⟩ [] (by simp -implicitDefEqProofs [GValue.cs, g0, g1]) claims_nil ?_
  have hA : AccG (lv + 1) (L.set i4 (some (.cells [.int .i64 0, .int .i64 0]))) [] [(i4, .cells [.int .i64 0, .int .i64 0]), (i2, .cells a0.cs)] := hA.upd (k := 0) rfl _
  generalize (L.set i4 (some (.cells [.int .i64 0, .int .i64 0]))) = L at hA ⊢
  refine satO_nil (by simp) ?_
  repeat refine sat_seq ?_
  refine satO_reg ?_
  have g0 := hA.get (k := 0) rfl
  have g1 := hA.get (k := 1) rfl
  refine satO_step 2 [] ⟨.agg a0.cs :: .ptr (lv + 1) i2 0 :: .bool false :: .ptr (lv + 1) i4 0 :: an 2 (.agg [.int .i64 0, .int .i64 0] :: .ptr (lv + 1) i2 0 :: .int .u8 a0.kind :: an 112 []), ⟨lv + 1, L, E⟩, [], E⟩ [] (by simp -implicitDefEqProofs [GValue.cs, g0, g1]) claims_nil ?_
  refine satO_nil (by simp) ?_
  repeat refine sat_seq ?_
  refine sat_block ?_
  repeat refine sat_seq ?_
  refine satO_reg ?_
  have g0 := hA.get (k := 0) rfl
  have g1 := hA.get (k := 1) rfl
  refine satO_step 2 [] ⟨.agg a0.cs :: .ptr (lv + 1) i2 0 :: .bool false :: .ptr (lv + 1) i4 0 :: an 2 (.agg [.int .i64 0, .int .i64 0] :: .ptr (lv + 1) i2 0 :: .int .u8 a0.kind :: .bool (a0.kind == 1) :: .bool (a0.kind == 1) :: an 110 []), ⟨lv + 1, L, E⟩, [], E⟩ [] (by simp -implicitDefEqProofs [GValue.cs, g0, g1]) claims_nil ?_
  refine satO_nil (by simp) ?_
  repeat refine sat_seq ?_
  refine sat_cond rfl (fun hb => ?_) (fun hb => ?_)
  · have h := ite_t hb h
    repeat refine sat_seq ?_
    refine sat_meet (fun σ => ∃ (k : Nat), k ≤ n ∧ ∃ (x5 : Bool) (L : List (Option AObj)), AccG (lv + 1) L [] [] ∧ go_ref03_fine_J1 k x5 = some r ∧ σ = ⟨an 2 (.bool x5 :: an 118 []), ⟨lv + 1, L, E⟩, [], E⟩) ?_ ?_
    · refine satO_reg ?_
      obtain ⟨y6, q7, h⟩ := bnd_hi h
      rcases Bool.eq_false_or_eq_true (y6 == 0) with hg8 | hg13
      · have h := ite_t hg8 h
        have hg8n := hg8
        try simp at hg8n
        rcases Bool.eq_false_or_eq_true (!a0.truth) with hg9 | hg12
        · have h := ite_t hg9 h
          have hg9n := hg9
          try simp at hg9n
          rcases Bool.eq_false_or_eq_true ((a0.str.length : Int) == 0) with hg10 | hg11
          · have h := ite_t hg10 h
            have hg10n := hg10
            try simp at hg10n
            have g0 := hA.get (k := 0) rfl
            have g1 := hA.get (k := 1) rfl
            refine satO_step 22 [(.int .i64 y6, none)] ⟨.agg a0.cs :: .ptr (lv + 1) i2 0 :: .bool ((a0.list.length : Int) == 0) :: .ptr (lv + 1) i4 0 :: an 2 (.agg [.int .i64 0, .int .i64 0] :: .ptr (lv + 1) i2 0 :: .int .u8 a0.kind :: .bool (a0.kind == 1) :: .bool (a0.kind == 1) :: .ptr (lv + 1) i2 1 :: .agg [.int .i64 a0.num.num, .int .i64 a0.num.den] :: .int .i64 y6 :: .bool (y6 == 0) :: .bool (y6 == 0) :: .ptr (lv + 1) i2 3 :: .bool a0.truth :: .bool (!a0.truth) :: .bool (!a0.truth) :: .bool (!a0.truth) :: .ptr (lv + 1) i2 4 :: .str a0.str :: .int .i64 (a0.str.length : Int) :: .bool ((a0.str.length : Int) == 0) :: .bool ((a0.str.length : Int) == 0) :: .bool ((a0.str.length : Int) == 0) :: .ptr (lv + 1) i2 5 :: .sl 6 (a0.list.map GValue.el) false :: .int .i64 (a0.list.length : Int) :: .bool ((a0.list.length : Int) == 0) :: .bool ((a0.list.length : Int) == 0) :: an 89 []), ⟨lv + 1, L, E⟩, [], E⟩ [⟨84, [.agg [.int .i64 a0.num.num, .int .i64 a0.num.den]], ⟨lv + 1, L, E⟩, .int .i64 y6, ⟨lv + 1, L, E⟩⟩] (by first | (simp -implicitDefEqProofs [GValue.cs, g0, g1, hg8, hg9, hg10]; done) | simp -implicitDefEqProofs [GValue.cs, g0, g1, hg8, hg9, hg10, hg8n, hg9n, hg10n]) (claims_cons (go_ref01_Check_ok _ _ _ q7 _) claims_nil) ?_
            refine satO_nil (by simp) ?_
            have hA : AccG (lv + 1) L [] [] := hA.sel [] (by simp) rfl (.cons _ (.cons _ .slnil))
            refine ⟨⟨an 2 (.bool ((a0.list.length : Int) == 0) :: an 118 []), ⟨lv + 1, L, E⟩, [], E⟩, weak_tmps ?_, n, by omega, ((a0.list.length : Int) == 0), L, hA, h, rfl⟩
            (try simp only [an, List.map_cons, List.map_nil]); repeat (first | exact VLeL.nil | refine VLeL.cons (by first | exact VLe.refl _ | exact VLe.any _ | exact VLe.nil _ _ | exact VLe.full _ _ | (refine VLe.agg' ?_; repeat (first | exact VLeL.nil | refine VLeL.cons (by first | exact VLe.refl _ | exact VLe.any _ | exact VLe.nil _ _) ?_))) ?_)
          · have h := ite_f hg11 h
            have hg11n := hg11
            try simp at hg11n
            have g0 := hA.get (k := 0) rfl
            have g1 := hA.get (k := 1) rfl
            refine satO_step 22 [(.int .i64 y6, none)] ⟨.agg a0.cs :: .ptr (lv + 1) i2 0 :: .bool false :: .ptr (lv + 1) i4 0 :: an 2 (.agg [.int .i64 0, .int .i64 0] :: .ptr (lv + 1) i2 0 :: .int .u8 a0.kind :: .bool (a0.kind == 1) :: .bool (a0.kind == 1) :: .ptr (lv + 1) i2 1 :: .agg [.int .i64 a0.num.num, .int .i64 a0.num.den] :: .int .i64 y6 :: .bool (y6 == 0) :: .bool (y6 == 0) :: .ptr (lv + 1) i2 3 :: .bool a0.truth :: .bool (!a0.truth) :: .bool (!a0.truth) :: .bool (!a0.truth) :: .ptr (lv + 1) i2 4 :: .str a0.str :: .int .i64 (a0.str.length : Int) :: .bool ((a0.str.length : Int) == 0) :: .bool ((a0.str.length : Int) == 0) :: .bool ((a0.str.length : Int) == 0) :: .tup [] :: .tup [] :: .tup [] :: .tup [] :: .bool false :: an 89 []), ⟨lv + 1, L, E⟩, [], E⟩ [⟨84, [.agg [.int .i64 a0.num.num, .int .i64 a0.num.den]], ⟨lv + 1, L, E⟩, .int .i64 y6, ⟨lv + 1, L, E⟩⟩] (by first | (simp -implicitDefEqProofs [GValue.cs, g0, g1, hg8, hg9, hg11]; done) | simp -implicitDefEqProofs [GValue.cs, g0, g1, hg8, hg9, hg11, hg8n, hg9n, hg11n]) (claims_cons (go_ref01_Check_ok _ _ _ q7 _) claims_nil) ?_
            refine satO_nil (by simp) ?_
            have hA : AccG (lv + 1) L [] [] := hA.sel [] (by simp) rfl (.cons _ (.cons _ .slnil))
            refine ⟨⟨an 2 (.bool false :: an 118 []), ⟨lv + 1, L, E⟩, [], E⟩, weak_tmps ?_, n, by omega, false, L, hA, h, rfl⟩
            (try simp only [an, List.map_cons, List.map_nil]); repeat (first | exact VLeL.nil | refine VLeL.cons (by first | exact VLe.refl _ | exact VLe.any _ | exact VLe.nil _ _ | exact VLe.full _ _ | (refine VLe.agg' ?_; repeat (first | exact VLeL.nil | refine VLeL.cons (by first | exact VLe.refl _ | exact VLe.any _ | exact VLe.nil _ _) ?_))) ?_)
        · have h := ite_f hg12 h
          have hg12n := hg12
          try simp at hg12n
          have g0 := hA.get (k := 0) rfl
          have g1 := hA.get (k := 1) rfl
          refine satO_step 22 [(.int .i64 y6, none)] ⟨.agg a0.cs :: .ptr (lv + 1) i2 0 :: .bool false :: .ptr (lv + 1) i4 0 :: an 2 (.agg [.int .i64 0, .int .i64 0] :: .ptr (lv + 1) i2 0 :: .int .u8 a0.kind :: .bool (a0.kind == 1) :: .bool (a0.kind == 1) :: .ptr (lv + 1) i2 1 :: .agg [.int .i64 a0.num.num, .int .i64 a0.num.den] :: .int .i64 y6 :: .bool (y6 == 0) :: .bool (y6 == 0) :: .ptr (lv + 1) i2 3 :: .bool a0.truth :: .bool (!a0.truth) :: .bool (!a0.truth) :: .bool (!a0.truth) :: .tup [] :: .tup [] :: .tup [] :: .tup [] :: .bool false :: .bool false :: .tup [] :: .tup [] :: .tup [] :: .tup [] :: .bool false :: an 89 []), ⟨lv + 1, L, E⟩, [], E⟩ [⟨84, [.agg [.int .i64 a0.num.num, .int .i64 a0.num.den]], ⟨lv + 1, L, E⟩, .int .i64 y6, ⟨lv + 1, L, E⟩⟩] (by first | (simp -implicitDefEqProofs [GValue.cs, g0, g1, hg8, hg12]; done) | simp -implicitDefEqProofs [GValue.cs, g0, g1, hg8, hg12, hg8n, hg12n]) (claims_cons (go_ref01_Check_ok _ _ _ q7 _) claims_nil) ?_
          refine satO_nil (by simp) ?_
          have hA : AccG (lv + 1) L [] [] := hA.sel [] (by simp) rfl (.cons _ (.cons _ .slnil))
          refine ⟨⟨an 2 (.bool false :: an 118 []), ⟨lv + 1, L, E⟩, [], E⟩, weak_tmps ?_, n, by omega, false, L, hA, h, rfl⟩
          (try simp only [an, List.map_cons, List.map_nil]); repeat (first | exact VLeL.nil | refine VLeL.cons (by first | exact VLe.refl _ | exact VLe.any _ | exact VLe.nil _ _ | exact VLe.full _ _ | (refine VLe.agg' ?_; repeat (first | exact VLeL.nil | refine VLeL.cons (by first | exact VLe.refl _ | exact VLe.any _ | exact VLe.nil _ _) ?_))) ?_)
      · have h := ite_f hg13 h
        have hg13n := hg13
        try simp at hg13n
        have g0 := hA.get (k := 0) rfl
        have g1 := hA.get (k := 1) rfl
        refine satO_step 22 [(.int .i64 y6, none)] ⟨.agg a0.cs :: .ptr (lv + 1) i2 0 :: .bool false :: .ptr (lv + 1) i4 0 :: an 2 (.agg [.int .i64 0, .int .i64 0] :: .ptr (lv + 1) i2 0 :: .int .u8 a0.kind :: .bool (a0.kind == 1) :: .bool (a0.kind == 1) :: .ptr (lv + 1) i2 1 :: .agg [.int .i64 a0.num.num, .int .i64 a0.num.den] :: .int .i64 y6 :: .bool (y6 == 0) :: .bool (y6 == 0) :: .tup [] :: .tup [] :: .tup [] :: .bool false :: .bool false :: .tup [] :: .tup [] :: .tup [] :: .tup [] :: .bool false :: .bool false :: .tup [] :: .tup [] :: .tup [] :: .tup [] :: .bool false :: an 89 []), ⟨lv + 1, L, E⟩, [], E⟩ [⟨84, [.agg [.int .i64 a0.num.num, .int .i64 a0.num.den]], ⟨lv + 1, L, E⟩, .int .i64 y6, ⟨lv + 1, L, E⟩⟩] (by first | (simp -implicitDefEqProofs [GValue.cs, g0, g1, hg13]; done) | simp -implicitDefEqProofs [GValue.cs, g0, g1, hg13, hg13n]) (claims_cons (go_ref01_Check_ok _ _ _ q7 _) claims_nil) ?_
        refine satO_nil (by simp) ?_
        have hA : AccG (lv + 1) L [] [] := hA.sel [] (by simp) rfl (.cons _ (.cons _ .slnil))
        refine ⟨⟨an 2 (.bool false :: an 118 []), ⟨lv + 1, L, E⟩, [], E⟩, weak_tmps ?_, n, by omega, false, L, hA, h, rfl⟩
        (try simp only [an, List.map_cons, List.map_nil]); repeat (first | exact VLeL.nil | refine VLeL.cons (by first | exact VLe.refl _ | exact VLe.any _ | exact VLe.nil _ _ | exact VLe.full _ _ | (refine VLe.agg' ?_; repeat (first | exact VLeL.nil | refine VLeL.cons (by first | exact VLe.refl _ | exact VLe.any _ | exact VLe.nil _ _) ?_))) ?_)
    · rintro σ0 σ hw ⟨k, hk, x5, L, hA, h, rfl⟩
      rcases k with _ | n
      · simp [go_ref03_fine_J1] at h
      · rw [go_ref03_fine_J1] at h
        refine sat_weak hw ?_
        repeat refine sat_seq ?_
        refine sat_ret ?_
        refine ends (v := .bool x5) (by simp [resultsV, resL, resV, tupOf, Try.f59, pLoad, GValue.cs]) rfl rfl ?_
        injection h with h
        subst h
        exact (.keep _ (by simp [V.kin, V.kinL, GValue.cs]))
  · have h := ite_f hb h
    repeat refine sat_seq ?_
    refine satO_reg ?_
    have g0 := hA.get (k := 0) rfl
    have g1 := hA.get (k := 1) rfl
    refine satO_step 2 [] ⟨.agg a0.cs :: .ptr (lv + 1) i2 0 :: .bool false :: .ptr (lv + 1) i4 0 :: an 2 (.agg [.int .i64 0, .int .i64 0] :: .ptr (lv + 1) i2 0 :: .int .u8 a0.kind :: .bool (a0.kind == 1) :: .bool (a0.kind == 1) :: an 21 (.bool (a0.kind == 2) :: .bool (a0.kind == 2) :: an 87 [])), ⟨lv + 1, L, E⟩, [], E⟩ [] (by simp -implicitDefEqProofs [GValue.cs, g0, g1]) claims_nil ?_
    refine satO_nil (by simp) ?_
    repeat refine sat_seq ?_
    refine sat_cond rfl (fun hb => ?_) (fun hb => ?_)
    · have h := ite_t hb h
      repeat refine sat_seq ?_
      refine sat_meet (fun σ => ∃ (k : Nat), k ≤ n ∧ ∃ (x14 : Bool) (L : List (Option AObj)), AccG (lv + 1) L [] [] ∧ go_ref03_fine_J2 k x14 = some r ∧ σ = ⟨an 2 (.bool x14 :: an 118 []), ⟨lv + 1, L, E⟩, [], E⟩) ?_ ?_
      · refine satO_reg ?_
        rcases Bool.eq_false_or_eq_true ((a0.num.num == 0) && (a0.num.den == 0)) with hg15 | hg18
        · have h := ite_t hg15 h
          have hg15n := hg15
          try simp at hg15n
          rcases Bool.eq_false_or_eq_true ((a0.str.length : Int) == 0) with hg16 | hg17
          · have h := ite_t hg16 h
            have hg16n := hg16
            try simp at hg16n
            have g0 := hA.get (k := 0) rfl
            have g1 := hA.get (k := 1) rfl
            refine satO_step 17 [] ⟨.agg a0.cs :: .ptr (lv + 1) i2 0 :: .bool ((a0.list.length : Int) == 0) :: .ptr (lv + 1) i4 0 :: an 2 (.agg [.int .i64 0, .int .i64 0] :: .ptr (lv + 1) i2 0 :: .int .u8 a0.kind :: .bool (a0.kind == 1) :: .bool (a0.kind == 1) :: an 21 (.bool (a0.kind == 2) :: .bool (a0.kind == 2) :: .ptr (lv + 1) i2 1 :: .agg [.int .i64 a0.num.num, .int .i64 a0.num.den] :: .agg [.int .i64 0, .int .i64 0] :: .bool ((a0.num.num == 0) && (a0.num.den == 0)) :: .bool ((a0.num.num == 0) && (a0.num.den == 0)) :: .ptr (lv + 1) i2 4 :: .str a0.str :: .int .i64 (a0.str.length : Int) :: .bool ((a0.str.length : Int) == 0) :: .bool ((a0.str.length : Int) == 0) :: .bool ((a0.str.length : Int) == 0) :: .ptr (lv + 1) i2 5 :: .sl 6 (a0.list.map GValue.el) false :: .int .i64 (a0.list.length : Int) :: .bool ((a0.list.length : Int) == 0) :: .bool ((a0.list.length : Int) == 0) :: an 71 [])), ⟨lv + 1, L, E⟩, [], E⟩ [] (by first | (simp -implicitDefEqProofs [GValue.cs, g0, g1, hg15, hg16]; done) | simp -implicitDefEqProofs [GValue.cs, g0, g1, hg15, hg16, hg15n, hg16n]) claims_nil ?_
            refine satO_nil (by simp) ?_
            have hA : AccG (lv + 1) L [] [] := hA.sel [] (by simp) rfl (.cons _ (.cons _ .slnil))
            refine ⟨⟨an 2 (.bool ((a0.list.length : Int) == 0) :: an 118 []), ⟨lv + 1, L, E⟩, [], E⟩, weak_tmps ?_, n, by omega, ((a0.list.length : Int) == 0), L, hA, h, rfl⟩
            (try simp only [an, List.map_cons, List.map_nil]); repeat (first | exact VLeL.nil | refine VLeL.cons (by first | exact VLe.refl _ | exact VLe.any _ | exact VLe.nil _ _ | exact VLe.full _ _ | (refine VLe.agg' ?_; repeat (first | exact VLeL.nil | refine VLeL.cons (by first | exact VLe.refl _ | exact VLe.any _ | exact VLe.nil _ _) ?_))) ?_)
          · have h := ite_f hg17 h
            have hg17n := hg17
            try simp at hg17n
            have g0 := hA.get (k := 0) rfl
            have g1 := hA.get (k := 1) rfl
            refine satO_step 17 [] ⟨.agg a0.cs :: .ptr (lv + 1) i2 0 :: .bool false :: .ptr (lv + 1) i4 0 :: an 2 (.agg [.int .i64 0, .int .i64 0] :: .ptr (lv + 1) i2 0 :: .int .u8 a0.kind :: .bool (a0.kind == 1) :: .bool (a0.kind == 1) :: an 21 (.bool (a0.kind == 2) :: .bool (a0.kind == 2) :: .ptr (lv + 1) i2 1 :: .agg [.int .i64 a0.num.num, .int .i64 a0.num.den] :: .agg [.int .i64 0, .int .i64 0] :: .bool ((a0.num.num == 0) && (a0.num.den == 0)) :: .bool ((a0.num.num == 0) && (a0.num.den == 0)) :: .ptr (lv + 1) i2 4 :: .str a0.str :: .int .i64 (a0.str.length : Int) :: .bool ((a0.str.length : Int) == 0) :: .bool ((a0.str.length : Int) == 0) :: .bool ((a0.str.length : Int) == 0) :: .tup [] :: .tup [] :: .tup [] :: .tup [] :: .bool false :: an 71 [])), ⟨lv + 1, L, E⟩, [], E⟩ [] (by first | (simp -implicitDefEqProofs [GValue.cs, g0, g1, hg15, hg17]; done) | simp -implicitDefEqProofs [GValue.cs, g0, g1, hg15, hg17, hg15n, hg17n]) claims_nil ?_
            refine satO_nil (by simp) ?_
            have hA : AccG (lv + 1) L [] [] := hA.sel [] (by simp) rfl (.cons _ (.cons _ .slnil))
            refine ⟨⟨an 2 (.bool false :: an 118 []), ⟨lv + 1, L, E⟩, [], E⟩, weak_tmps ?_, n, by omega, false, L, hA, h, rfl⟩
            (try simp only [an, List.map_cons, List.map_nil]); repeat (first | exact VLeL.nil | refine VLeL.cons (by first | exact VLe.refl _ | exact VLe.any _ | exact VLe.nil _ _ | exact VLe.full _ _ | (refine VLe.agg' ?_; repeat (first | exact VLeL.nil | refine VLeL.cons (by first | exact VLe.refl _ | exact VLe.any _ | exact VLe.nil _ _) ?_))) ?_)
        · have h := ite_f hg18 h
          have hg18n := hg18
          try simp at hg18n
          have g0 := hA.get (k := 0) rfl
          have g1 := hA.get (k := 1) rfl
          refine satO_step 17 [] ⟨.agg a0.cs :: .ptr (lv + 1) i2 0 :: .bool false :: .ptr (lv + 1) i4 0 :: an 2 (.agg [.int .i64 0, .int .i64 0] :: .ptr (lv + 1) i2 0 :: .int .u8 a0.kind :: .bool (a0.kind == 1) :: .bool (a0.kind == 1) :: an 21 (.bool (a0.kind == 2) :: .bool (a0.kind == 2) :: .ptr (lv + 1) i2 1 :: .agg [.int .i64 a0.num.num, .int .i64 a0.num.den] :: .agg [.int .i64 0, .int .i64 0] :: .bool ((a0.num.num == 0) && (a0.num.den == 0)) :: .bool ((a0.num.num == 0) && (a0.num.den == 0)) :: .tup [] :: .tup [] :: .tup [] :: .tup [] :: .bool false :: .bool false :: .tup [] :: .tup [] :: .tup [] :: .tup [] :: .bool false :: an 71 [])), ⟨lv + 1, L, E⟩, [], E⟩ [] (by first | (simp -implicitDefEqProofs [GValue.cs, g0, g1, hg18]; done) | simp -implicitDefEqProofs [GValue.cs, g0, g1, hg18, hg18n]) claims_nil ?_
          refine satO_nil (by simp) ?_
          have hA : AccG (lv + 1) L [] [] := hA.sel [] (by simp) rfl (.cons _ (.cons _ .slnil))
          refine ⟨⟨an 2 (.bool false :: an 118 []), ⟨lv + 1, L, E⟩, [], E⟩, weak_tmps ?_, n, by omega, false, L, hA, h, rfl⟩
          (try simp only [an, List.map_cons, List.map_nil]); repeat (first | exact VLeL.nil | refine VLeL.cons (by first | exact VLe.refl _ | exact VLe.any _ | exact VLe.nil _ _ | exact VLe.full _ _ | (refine VLe.agg' ?_; repeat (first | exact VLeL.nil | refine VLeL.cons (by first | exact VLe.refl _ | exact VLe.any _ | exact VLe.nil _ _) ?_))) ?_)
      · rintro σ0 σ hw ⟨k, hk, x14, L, hA, h, rfl⟩
        rcases k with _ | n
        · simp [go_ref03_fine_J2] at h
        · rw [go_ref03_fine_J2] at h
          refine sat_weak hw ?_
          repeat refine sat_seq ?_
          refine sat_ret ?_
          refine ends (v := .bool x14) (by simp [resultsV, resL, resV, tupOf, Try.f59, pLoad, GValue.cs]) rfl rfl ?_
          injection h with h
          subst h
          exact (.keep _ (by simp [V.kin, V.kinL, GValue.cs]))
    · have h := ite_f hb h
      repeat refine sat_seq ?_
      refine satO_reg ?_
      have g0 := hA.get (k := 0) rfl
      have g1 := hA.get (k := 1) rfl
      refine satO_step 2 [] ⟨.agg a0.cs :: .ptr (lv + 1) i2 0 :: .bool false :: .ptr (lv + 1) i4 0 :: an 2 (.agg [.int .i64 0, .int .i64 0] :: .ptr (lv + 1) i2 0 :: .int .u8 a0.kind :: .bool (a0.kind == 1) :: .bool (a0.kind == 1) :: an 21 (.bool (a0.kind == 2) :: .bool (a0.kind == 2) :: an 16 (.bool (a0.kind == 3) :: .bool (a0.kind == 3) :: an 69 []))), ⟨lv + 1, L, E⟩, [], E⟩ [] (by simp -implicitDefEqProofs [GValue.cs, g0, g1]) claims_nil ?_
      refine satO_nil (by simp) ?_
      repeat refine sat_seq ?_
      refine sat_cond rfl (fun hb => ?_) (fun hb => ?_)
      · have h := ite_t hb h
        repeat refine sat_seq ?_
        refine sat_meet (fun σ => ∃ (k : Nat), k ≤ n ∧ ∃ (x19 : Bool) (L : List (Option AObj)), AccG (lv + 1) L [] [(i2, .cells a0.cs)] ∧ go_ref03_fine_J3 k a0 x19 = some r ∧ σ = ⟨an 1 (.ptr (lv + 1) i2 0 :: an 69 (.bool x19 :: an 49 [])), ⟨lv + 1, L, E⟩, [], E⟩) ?_ ?_
        · refine satO_reg ?_
          rcases Bool.eq_false_or_eq_true (!((a0.num.num == 0) && (a0.num.den == 0))) with hg20 | hg21
          · have h := ite_t hg20 h
            have hg20n := hg20
            try simp at hg20n
            have g0 := hA.get (k := 0) rfl
            have g1 := hA.get (k := 1) rfl
            refine satO_step 20 [] ⟨.agg a0.cs :: .ptr (lv + 1) i2 0 :: .bool false :: .ptr (lv + 1) i4 0 :: an 2 (.agg [.int .i64 0, .int .i64 0] :: .ptr (lv + 1) i2 0 :: .int .u8 a0.kind :: .bool (a0.kind == 1) :: .bool (a0.kind == 1) :: an 21 (.bool (a0.kind == 2) :: .bool (a0.kind == 2) :: an 16 (.bool (a0.kind == 3) :: .bool (a0.kind == 3) :: .ptr (lv + 1) i2 1 :: .agg [.int .i64 a0.num.num, .int .i64 a0.num.den] :: .agg [.int .i64 0, .int .i64 0] :: .bool (!((a0.num.num == 0) && (a0.num.den == 0))) :: .bool (!((a0.num.num == 0) && (a0.num.den == 0))) :: .tup [] :: .tup [] :: .bool true :: .bool true :: .tup [] :: .tup [] :: .tup [] :: .tup [] :: .bool true :: .bool true :: .tup [] :: .tup [] :: .tup [] :: .tup [] :: .bool true :: an 49 []))), ⟨lv + 1, L, E⟩, [], E⟩ [] (by first | (simp -implicitDefEqProofs [GValue.cs, g0, g1, hg20]; done) | simp -implicitDefEqProofs [GValue.cs, g0, g1, hg20, hg20n]) claims_nil ?_
            refine satO_nil (by simp) ?_
            have hA : AccG (lv + 1) L [] [(i2, .cells a0.cs)] := hA.sel [] (by simp) rfl (.cons _ (.cons_cons _ .slnil))
            refine ⟨⟨an 1 (.ptr (lv + 1) i2 0 :: an 69 (.bool true :: an 49 [])), ⟨lv + 1, L, E⟩, [], E⟩, weak_tmps ?_, n, by omega, true, L, hA, h, rfl⟩
            (try simp only [an, List.map_cons, List.map_nil]); repeat (first | exact VLeL.nil | refine VLeL.cons (by first | exact VLe.refl _ | exact VLe.any _ | exact VLe.nil _ _ | exact VLe.full _ _ | (refine VLe.agg' ?_; repeat (first | exact VLeL.nil | refine VLeL.cons (by first | exact VLe.refl _ | exact VLe.any _ | exact VLe.nil _ _) ?_))) ?_)
          · have h := ite_f hg21 h
            have hg21n := hg21
            try simp at hg21n
            rcases Bool.eq_false_or_eq_true a0.truth with hg22 | hg23
            · have h := ite_t hg22 h
              have hg22n := hg22
              try simp at hg22n
              have g0 := hA.get (k := 0) rfl
              have g1 := hA.get (k := 1) rfl
              refine satO_step 20 [] ⟨.agg a0.cs :: .ptr (lv + 1) i2 0 :: .bool false :: .ptr (lv + 1) i4 0 :: an 2 (.agg [.int .i64 0, .int .i64 0] :: .ptr (lv + 1) i2 0 :: .int .u8 a0.kind :: .bool (a0.kind == 1) :: .bool (a0.kind == 1) :: an 21 (.bool (a0.kind == 2) :: .bool (a0.kind == 2) :: an 16 (.bool (a0.kind == 3) :: .bool (a0.kind == 3) :: .ptr (lv + 1) i2 1 :: .agg [.int .i64 a0.num.num, .int .i64 a0.num.den] :: .agg [.int .i64 0, .int .i64 0] :: .bool (!((a0.num.num == 0) && (a0.num.den == 0))) :: .bool (!((a0.num.num == 0) && (a0.num.den == 0))) :: .ptr (lv + 1) i2 3 :: .bool a0.truth :: .bool a0.truth :: .bool a0.truth :: .tup [] :: .tup [] :: .tup [] :: .tup [] :: .bool true :: .bool true :: .tup [] :: .tup [] :: .tup [] :: .tup [] :: .bool true :: an 49 []))), ⟨lv + 1, L, E⟩, [], E⟩ [] (by first | (simp -implicitDefEqProofs [GValue.cs, g0, g1, hg21, hg22]; done) | simp -implicitDefEqProofs [GValue.cs, g0, g1, hg21, hg22, hg21n, hg22n]) claims_nil ?_
              refine satO_nil (by simp) ?_
              have hA : AccG (lv + 1) L [] [(i2, .cells a0.cs)] := hA.sel [] (by simp) rfl (.cons _ (.cons_cons _ .slnil))
              refine ⟨⟨an 1 (.ptr (lv + 1) i2 0 :: an 69 (.bool true :: an 49 [])), ⟨lv + 1, L, E⟩, [], E⟩, weak_tmps ?_, n, by omega, true, L, hA, h, rfl⟩
              (try simp only [an, List.map_cons, List.map_nil]); repeat (first | exact VLeL.nil | refine VLeL.cons (by first | exact VLe.refl _ | exact VLe.any _ | exact VLe.nil _ _ | exact VLe.full _ _ | (refine VLe.agg' ?_; repeat (first | exact VLeL.nil | refine VLeL.cons (by first | exact VLe.refl _ | exact VLe.any _ | exact VLe.nil _ _) ?_))) ?_)
            · have h := ite_f hg23 h
              have hg23n := hg23
              try simp at hg23n
              rcases Bool.eq_false_or_eq_true (decide (0 < (a0.list.length : Int))) with hg24 | hg25
              · have h := ite_t hg24 h
                have hg24n := hg24
                try simp at hg24n
                have g0 := hA.get (k := 0) rfl
                have g1 := hA.get (k := 1) rfl
                refine satO_step 20 [] ⟨.agg a0.cs :: .ptr (lv + 1) i2 0 :: .bool false :: .ptr (lv + 1) i4 0 :: an 2 (.agg [.int .i64 0, .int .i64 0] :: .ptr (lv + 1) i2 0 :: .int .u8 a0.kind :: .bool (a0.kind == 1) :: .bool (a0.kind == 1) :: an 21 (.bool (a0.kind == 2) :: .bool (a0.kind == 2) :: an 16 (.bool (a0.kind == 3) :: .bool (a0.kind == 3) :: .ptr (lv + 1) i2 1 :: .agg [.int .i64 a0.num.num, .int .i64 a0.num.den] :: .agg [.int .i64 0, .int .i64 0] :: .bool (!((a0.num.num == 0) && (a0.num.den == 0))) :: .bool (!((a0.num.num == 0) && (a0.num.den == 0))) :: .ptr (lv + 1) i2 3 :: .bool a0.truth :: .bool a0.truth :: .bool a0.truth :: .ptr (lv + 1) i2 5 :: .sl 6 (a0.list.map GValue.el) false :: .int .i64 (a0.list.length : Int) :: .bool (decide (0 < (a0.list.length : Int))) :: .bool (decide (0 < (a0.list.length : Int))) :: .bool (decide (0 < (a0.list.length : Int))) :: .tup [] :: .tup [] :: .tup [] :: .tup [] :: .bool true :: an 49 []))), ⟨lv + 1, L, E⟩, [], E⟩ [] (by first | (simp -implicitDefEqProofs [GValue.cs, g0, g1, hg21, hg23, hg24]; done) | simp -implicitDefEqProofs [GValue.cs, g0, g1, hg21, hg23, hg24, hg21n, hg23n, hg24n]) claims_nil ?_
                refine satO_nil (by simp) ?_
                have hA : AccG (lv + 1) L [] [(i2, .cells a0.cs)] := hA.sel [] (by simp) rfl (.cons _ (.cons_cons _ .slnil))
                refine ⟨⟨an 1 (.ptr (lv + 1) i2 0 :: an 69 (.bool true :: an 49 [])), ⟨lv + 1, L, E⟩, [], E⟩, weak_tmps ?_, n, by omega, true, L, hA, h, rfl⟩
                (try simp only [an, List.map_cons, List.map_nil]); repeat (first | exact VLeL.nil | refine VLeL.cons (by first | exact VLe.refl _ | exact VLe.any _ | exact VLe.nil _ _ | exact VLe.full _ _ | (refine VLe.agg' ?_; repeat (first | exact VLeL.nil | refine VLeL.cons (by first | exact VLe.refl _ | exact VLe.any _ | exact VLe.nil _ _) ?_))) ?_)
              · have h := ite_f hg25 h
                have hg25n := hg25
                try simp at hg25n
                have g0 := hA.get (k := 0) rfl
                have g1 := hA.get (k := 1) rfl
                refine satO_step 20 [] ⟨.agg a0.cs :: .ptr (lv + 1) i2 0 :: .bool false :: .ptr (lv + 1) i4 0 :: an 2 (.agg [.int .i64 0, .int .i64 0] :: .ptr (lv + 1) i2 0 :: .int .u8 a0.kind :: .bool (a0.kind == 1) :: .bool (a0.kind == 1) :: an 21 (.bool (a0.kind == 2) :: .bool (a0.kind == 2) :: an 16 (.bool (a0.kind == 3) :: .bool (a0.kind == 3) :: .ptr (lv + 1) i2 1 :: .agg [.int .i64 a0.num.num, .int .i64 a0.num.den] :: .agg [.int .i64 0, .int .i64 0] :: .bool (!((a0.num.num == 0) && (a0.num.den == 0))) :: .bool (!((a0.num.num == 0) && (a0.num.den == 0))) :: .ptr (lv + 1) i2 3 :: .bool a0.truth :: .bool a0.truth :: .bool a0.truth :: .ptr (lv + 1) i2 5 :: .sl 6 (a0.list.map GValue.el) false :: .int .i64 (a0.list.length : Int) :: .bool (decide (0 < (a0.list.length : Int))) :: .bool (decide (0 < (a0.list.length : Int))) :: .bool (decide (0 < (a0.list.length : Int))) :: .ptr (lv + 1) i2 4 :: .str a0.str :: .int .i64 (a0.str.length : Int) :: .bool (decide (60 < (a0.str.length : Int))) :: .bool (decide (60 < (a0.str.length : Int))) :: an 49 []))), ⟨lv + 1, L, E⟩, [], E⟩ [] (by first | (simp -implicitDefEqProofs [GValue.cs, g0, g1, hg21, hg23, hg25]; done) | simp -implicitDefEqProofs [GValue.cs, g0, g1, hg21, hg23, hg25, hg21n, hg23n, hg25n]) claims_nil ?_
                refine satO_nil (by simp) ?_
                have hA : AccG (lv + 1) L [] [(i2, .cells a0.cs)] := hA.sel [] (by simp) rfl (.cons _ (.cons_cons _ .slnil))
                refine ⟨⟨an 1 (.ptr (lv + 1) i2 0 :: an 69 (.bool (decide (60 < (a0.str.length : Int))) :: an 49 [])), ⟨lv + 1, L, E⟩, [], E⟩, weak_tmps ?_, n, by omega, (decide (60 < (a0.str.length : Int))), L, hA, h, rfl⟩
                (try simp only [an, List.map_cons, List.map_nil]); repeat (first | exact VLeL.nil | refine VLeL.cons (by first | exact VLe.refl _ | exact VLe.any _ | exact VLe.nil _ _ | exact VLe.full _ _ | (refine VLe.agg' ?_; repeat (first | exact VLeL.nil | refine VLeL.cons (by first | exact VLe.refl _ | exact VLe.any _ | exact VLe.nil _ _) ?_))) ?_)
        · rintro σ0 σ hw ⟨k, hk, x19, L, hA, h, rfl⟩
          rcases k with _ | n
          · simp [go_ref03_fine_J3] at h
          · rw [go_ref03_fine_J3] at h
            refine sat_weak hw ?_
            repeat refine sat_seq ?_
            refine sat_cond rfl (fun hb => ?_) (fun hb => ?_)
            · have h := ite_t hb h
              repeat refine sat_seq ?_
              refine satO_reg ?_
              have g0 := hA.get (k := 0) rfl
              refine satO_step 1 [] ⟨an 1 (.ptr (lv + 1) i2 0 :: .bool false :: an 68 (.bool x19 :: an 49 [])), ⟨lv + 1, L, E⟩, [], E⟩ [] (by simp -implicitDefEqProofs [GValue.cs, g0]) claims_nil ?_
              refine satO_nil (by simp) ?_
              repeat refine sat_seq ?_
              refine sat_ret ?_
              have g0 := hA.get (k := 0) rfl
              refine ends (v := .bool false) (by simp [resultsV, resL, resV, tupOf, Try.f59, pLoad, g0, GValue.cs]) rfl rfl ?_
              injection h with h
              subst h
              exact (.keep _ (by simp [V.kin, V.kinL, GValue.cs]))
            · have h := ite_f hb h
              repeat refine sat_seq ?_
              refine sat_skip ?_
              repeat refine sat_seq ?_
              refine satO_reg ?_
              have g0 := hA.get (k := 0) rfl
              refine satO_step 1 [] ⟨an 1 (.ptr (lv + 1) i2 0 :: an 2 (.int .i64 0 :: an 66 (.bool x19 :: an 49 []))), ⟨lv + 1, L, E⟩, [], E⟩ [] (by simp -implicitDefEqProofs [GValue.cs, g0]) claims_nil ?_
              refine satO_nil (by simp) ?_
              repeat refine sat_seq ?_
              refine sat_block ?_
              repeat refine sat_seq ?_
              refine sat_loop (fun k σ => ∃ (x26 : Int) (L : List (Option AObj)), k ≤ n ∧ AccG (lv + 1) L [] [(i2, .cells a0.cs)] ∧ go_ref03_fine_L1 k a0 x26 = some r ∧ σ = ⟨an 1 (.ptr (lv + 1) i2 0 :: an 2 (.int .i64 x26 :: an 116 [])), ⟨lv + 1, L, E⟩, [], E⟩) n ⟨an 1 (.ptr (lv + 1) i2 0 :: an 2 (.int .i64 0 :: an 116 [])), ⟨lv + 1, L, E⟩, [], E⟩ (weak_tmps ?_) ⟨0, L, Nat.le_refl _, hA, h, rfl⟩ ?_
              · (try simp only [an, List.map_cons, List.map_nil]); repeat (first | exact VLeL.nil | refine VLeL.cons (by first | exact VLe.refl _ | exact VLe.any _ | exact VLe.nil _ _ | exact VLe.full _ _ | (refine VLe.agg' ?_; repeat (first | exact VLeL.nil | refine VLeL.cons (by first | exact VLe.refl _ | exact VLe.any _ | exact VLe.nil _ _) ?_))) ?_)
              · rintro k σ ⟨x26, L, hk, hA, h, rfl⟩
                rcases k with _ | n
                · simp [go_ref03_fine_L1] at h
                · rw [go_ref03_fine_L1] at h
                  repeat refine sat_seq ?_
                  refine satO_reg ?_
                  have g0 := hA.get (k := 0) rfl
                  refine satO_step 5 [] ⟨an 1 (.ptr (lv + 1) i2 0 :: an 2 (.int .i64 x26 :: an 67 (.int .i64 x26 :: .ptr (lv + 1) i2 4 :: .str a0.str :: .int .i64 (a0.str.length : Int) :: .bool (decide (x26 < (a0.str.length : Int))) :: an 44 []))), ⟨lv + 1, L, E⟩, [], E⟩ [] (by simp -implicitDefEqProofs [GValue.cs, g0]) claims_nil ?_
                  refine satO_nil (by simp) ?_
                  repeat refine sat_seq ?_
                  refine sat_cond rfl (fun hb => ?_) (fun hb => ?_)
                  · have h := ite_t hb h
                    repeat refine sat_seq ?_
                    refine sat_skip ?_
                    repeat refine sat_seq ?_
                    refine sat_block ?_
                    repeat refine sat_seq ?_
                    refine sat_meet (fun σ => ∃ (k : Nat), k ≤ n ∧ ∃ (x27 : Bool) (L : List (Option AObj)), AccG (lv + 1) L [] [(i2, .cells a0.cs)] ∧ go_ref03_fine_J4 k a0 x26 x27 = some r ∧ σ = ⟨an 1 (.ptr (lv + 1) i2 0 :: an 2 (.int .i64 x26 :: an 85 (.bool x27 :: an 30 []))), ⟨lv + 1, L, E⟩, [], E⟩) ?_ ?_
                    · refine satO_reg ?_
                      obtain ⟨x28, q29, h⟩ := bnd_hi h
                      obtain ⟨q29, q30⟩ := ix_some q29
                      rcases Bool.eq_false_or_eq_true (decide ((x28.toNat : Int) < 32)) with hg31 | hg32
                      · have h := ite_t hg31 h
                        have hg31n := hg31
                        try simp at hg31n
                        have g0 := hA.get (k := 0) rfl
                        refine satO_step 12 [] ⟨an 1 (.ptr (lv + 1) i2 0 :: an 2 (.int .i64 x26 :: an 67 (.int .i64 x26 :: .ptr (lv + 1) i2 4 :: .str a0.str :: .int .i64 (a0.str.length : Int) :: .bool (decide (x26 < (a0.str.length : Int))) :: an 2 (.ptr (lv + 1) i2 4 :: .str a0.str :: .int .i64 x26 :: .int .u8 (x28.toNat : Int) :: .bool (decide ((x28.toNat : Int) < 32)) :: .bool (decide ((x28.toNat : Int) < 32)) :: .tup [] :: .tup [] :: .tup [] :: .tup [] :: .tup [] :: .bool true :: an 30 [])))), ⟨lv + 1, L, E⟩, [], E⟩ [] (by first | (simp -implicitDefEqProofs [GValue.cs, g0, q29, q30, hg31]; done) | simp -implicitDefEqProofs [GValue.cs, g0, q29, q30, hg31, hg31n]) claims_nil ?_
                        refine satO_nil (by simp) ?_
                        refine ⟨⟨an 1 (.ptr (lv + 1) i2 0 :: an 2 (.int .i64 x26 :: an 85 (.bool true :: an 30 []))), ⟨lv + 1, L, E⟩, [], E⟩, weak_tmps ?_, n, by omega, true, L, hA, h, rfl⟩
                        (try simp only [an, List.map_cons, List.map_nil]); repeat (first | exact VLeL.nil | refine VLeL.cons (by first | exact VLe.refl _ | exact VLe.any _ | exact VLe.nil _ _ | exact VLe.full _ _ | (refine VLe.agg' ?_; repeat (first | exact VLeL.nil | refine VLeL.cons (by first | exact VLe.refl _ | exact VLe.any _ | exact VLe.nil _ _) ?_))) ?_)
                      · have h := ite_f hg32 h
                        have hg32n := hg32
                        try simp at hg32n
                        have g0 := hA.get (k := 0) rfl
                        refine satO_step 12 [] ⟨an 1 (.ptr (lv + 1) i2 0 :: an 2 (.int .i64 x26 :: an 67 (.int .i64 x26 :: .ptr (lv + 1) i2 4 :: .str a0.str :: .int .i64 (a0.str.length : Int) :: .bool (decide (x26 < (a0.str.length : Int))) :: an 2 (.ptr (lv + 1) i2 4 :: .str a0.str :: .int .i64 x26 :: .int .u8 (x28.toNat : Int) :: .bool (decide ((x28.toNat : Int) < 32)) :: .bool (decide ((x28.toNat : Int) < 32)) :: .ptr (lv + 1) i2 4 :: .str a0.str :: .int .i64 x26 :: .int .u8 (x28.toNat : Int) :: .bool (decide (126 < (x28.toNat : Int))) :: .bool (decide (126 < (x28.toNat : Int))) :: an 30 [])))), ⟨lv + 1, L, E⟩, [], E⟩ [] (by first | (simp -implicitDefEqProofs [GValue.cs, g0, q29, q30, hg32, q29, q30]; done) | simp -implicitDefEqProofs [GValue.cs, g0, q29, q30, hg32, q29, q30, hg32n]) claims_nil ?_
                        refine satO_nil (by simp) ?_
                        refine ⟨⟨an 1 (.ptr (lv + 1) i2 0 :: an 2 (.int .i64 x26 :: an 85 (.bool (decide (126 < (x28.toNat : Int))) :: an 30 []))), ⟨lv + 1, L, E⟩, [], E⟩, weak_tmps ?_, n, by omega, (decide (126 < (x28.toNat : Int))), L, hA, h, rfl⟩
                        (try simp only [an, List.map_cons, List.map_nil]); repeat (first | exact VLeL.nil | refine VLeL.cons (by first | exact VLe.refl _ | exact VLe.any _ | exact VLe.nil _ _ | exact VLe.full _ _ | (refine VLe.agg' ?_; repeat (first | exact VLeL.nil | refine VLeL.cons (by first | exact VLe.refl _ | exact VLe.any _ | exact VLe.nil _ _) ?_))) ?_)
                    · rintro σ0 σ hw ⟨k, hk, x27, L, hA, h, rfl⟩
                      rcases k with _ | n
                      · simp [go_ref03_fine_J4] at h
                      · rw [go_ref03_fine_J4] at h
                        refine sat_weak hw ?_
                        repeat refine sat_seq ?_
                        refine sat_cond rfl (fun hb => ?_) (fun hb => ?_)
                        · have h := ite_t hb h
                          repeat refine sat_seq ?_
                          refine satO_reg ?_
                          have g0 := hA.get (k := 0) rfl
                          refine satO_step 1 [] ⟨an 1 (.ptr (lv + 1) i2 0 :: .bool false :: an 1 (.int .i64 x26 :: an 85 (.bool x27 :: an 30 []))), ⟨lv + 1, L, E⟩, [], E⟩ [] (by simp -implicitDefEqProofs [GValue.cs, g0]) claims_nil ?_
                          refine satO_nil (by simp) ?_
                          repeat refine sat_seq ?_
                          refine sat_ret ?_
                          have g0 := hA.get (k := 0) rfl
                          refine ends (v := .bool false) (by simp [resultsV, resL, resV, tupOf, Try.f59, pLoad, g0, GValue.cs]) rfl rfl ?_
                          injection h with h
                          subst h
                          exact (.keep _ (by simp [V.kin, V.kinL, GValue.cs]))
                        · have h := ite_f hb h
                          repeat refine sat_seq ?_
                          refine sat_skip ?_
                          repeat refine sat_seq ?_
                          refine satO_reg ?_
                          have g0 := hA.get (k := 0) rfl
                          refine satO_step 3 [] ⟨an 1 (.ptr (lv + 1) i2 0 :: an 2 (.int .i64 (IntKind.i64.wrap (x26 + 1)) :: an 72 (.int .i64 x26 :: .int .i64 (IntKind.i64.wrap (x26 + 1)) :: an 11 (.bool x27 :: an 30 [])))), ⟨lv + 1, L, E⟩, [], E⟩ [] (by simp -implicitDefEqProofs [GValue.cs, g0]) claims_nil ?_
                          refine satO_nil (by simp) ?_
                          refine ⟨n, ⟨an 1 (.ptr (lv + 1) i2 0 :: an 2 (.int .i64 (IntKind.i64.wrap (x26 + 1)) :: an 116 [])), ⟨lv + 1, L, E⟩, [], E⟩, weak_tmps ?_, ⟨(IntKind.i64.wrap (x26 + 1)), L, by omega, hA, h, rfl⟩, by omega⟩
                          (try simp only [an, List.map_cons, List.map_nil]); repeat (first | exact VLeL.nil | refine VLeL.cons (by first | exact VLe.refl _ | exact VLe.any _ | exact VLe.nil _ _ | exact VLe.full _ _ | (refine VLe.agg' ?_; repeat (first | exact VLeL.nil | refine VLeL.cons (by first | exact VLe.refl _ | exact VLe.any _ | exact VLe.nil _ _) ?_))) ?_)
                  · have h := ite_f hb h
                    repeat refine sat_seq ?_
                    refine sat_exit ?_
                    repeat refine sat_seq ?_
                    refine satO_reg ?_
                    have g0 := hA.get (k := 0) rfl
                    refine satO_step 1 [] ⟨an 1 (.ptr (lv + 1) i2 0 :: .bool true :: an 1 (.int .i64 x26 :: an 67 (.int .i64 x26 :: .ptr (lv + 1) i2 4 :: .str a0.str :: .int .i64 (a0.str.length : Int) :: .bool (decide (x26 < (a0.str.length : Int))) :: an 44 []))), ⟨lv + 1, L, E⟩, [], E⟩ [] (by simp -implicitDefEqProofs [GValue.cs, g0]) claims_nil ?_
                    refine satO_nil (by simp) ?_
                    repeat refine sat_seq ?_
                    refine sat_ret ?_
                    have g0 := hA.get (k := 0) rfl
                    refine ends (v := .bool true) (by simp [resultsV, resL, resV, tupOf, Try.f59, pLoad, g0, GValue.cs]) rfl rfl ?_
                    injection h with h
                    subst h
                    exact (.keep _ (by simp [V.kin, V.kinL, GValue.cs]))
      · have h := ite_f hb h
        repeat refine sat_seq ?_
        refine satO_reg ?_
        have g0 := hA.get (k := 0) rfl
        have g1 := hA.get (k := 1) rfl
        refine satO_step 2 [] ⟨.agg a0.cs :: .ptr (lv + 1) i2 0 :: .bool false :: .ptr (lv + 1) i4 0 :: an 2 (.agg [.int .i64 0, .int .i64 0] :: .ptr (lv + 1) i2 0 :: .int .u8 a0.kind :: .bool (a0.kind == 1) :: .bool (a0.kind == 1) :: an 21 (.bool (a0.kind == 2) :: .bool (a0.kind == 2) :: an 16 (.bool (a0.kind == 3) :: .bool (a0.kind == 3) :: an 39 (.bool (a0.kind == 4) :: .bool (a0.kind == 4) :: an 28 [])))), ⟨lv + 1, L, E⟩, [], E⟩ [] (by simp -implicitDefEqProofs [GValue.cs, g0, g1]) claims_nil ?_
        refine satO_nil (by simp) ?_
        repeat refine sat_seq ?_
        refine sat_cond rfl (fun hb => ?_) (fun hb => ?_)
        · have h := ite_t hb h
          repeat refine sat_seq ?_
          refine sat_meet (fun σ => ∃ (k : Nat), k ≤ n ∧ ∃ (x33 : Bool) (L : List (Option AObj)), AccG (lv + 1) L [] [(i2, .cells a0.cs)] ∧ go_ref03_fine_J5 k a0 x33 = some r ∧ σ = ⟨an 1 (.ptr (lv + 1) i2 0 :: an 104 (.bool x33 :: an 14 [])), ⟨lv + 1, L, E⟩, [], E⟩) ?_ ?_
          · refine satO_reg ?_
            rcases Bool.eq_false_or_eq_true (!((a0.num.num == 0) && (a0.num.den == 0))) with hg34 | hg35
            · have h := ite_t hg34 h
              have hg34n := hg34
              try simp at hg34n
              have g0 := hA.get (k := 0) rfl
              have g1 := hA.get (k := 1) rfl
              refine satO_step 14 [] ⟨.agg a0.cs :: .ptr (lv + 1) i2 0 :: .bool false :: .ptr (lv + 1) i4 0 :: an 2 (.agg [.int .i64 0, .int .i64 0] :: .ptr (lv + 1) i2 0 :: .int .u8 a0.kind :: .bool (a0.kind == 1) :: .bool (a0.kind == 1) :: an 21 (.bool (a0.kind == 2) :: .bool (a0.kind == 2) :: an 16 (.bool (a0.kind == 3) :: .bool (a0.kind == 3) :: an 39 (.bool (a0.kind == 4) :: .bool (a0.kind == 4) :: .ptr (lv + 1) i2 1 :: .agg [.int .i64 a0.num.num, .int .i64 a0.num.den] :: .agg [.int .i64 0, .int .i64 0] :: .bool (!((a0.num.num == 0) && (a0.num.den == 0))) :: .bool (!((a0.num.num == 0) && (a0.num.den == 0))) :: .tup [] :: .tup [] :: .bool true :: .bool true :: .tup [] :: .tup [] :: .tup [] :: .tup [] :: .bool true :: an 14 [])))), ⟨lv + 1, L, E⟩, [], E⟩ [] (by first | (simp -implicitDefEqProofs [GValue.cs, g0, g1, hg34]; done) | simp -implicitDefEqProofs [GValue.cs, g0, g1, hg34, hg34n]) claims_nil ?_
              refine satO_nil (by simp) ?_
              have hA : AccG (lv + 1) L [] [(i2, .cells a0.cs)] := hA.sel [] (by simp) rfl (.cons _ (.cons_cons _ .slnil))
              refine ⟨⟨an 1 (.ptr (lv + 1) i2 0 :: an 104 (.bool true :: an 14 [])), ⟨lv + 1, L, E⟩, [], E⟩, weak_tmps ?_, n, by omega, true, L, hA, h, rfl⟩
              (try simp only [an, List.map_cons, List.map_nil]); repeat (first | exact VLeL.nil | refine VLeL.cons (by first | exact VLe.refl _ | exact VLe.any _ | exact VLe.nil _ _ | exact VLe.full _ _ | (refine VLe.agg' ?_; repeat (first | exact VLeL.nil | refine VLeL.cons (by first | exact VLe.refl _ | exact VLe.any _ | exact VLe.nil _ _) ?_))) ?_)
            · have h := ite_f hg35 h
              have hg35n := hg35
              try simp at hg35n
              rcases Bool.eq_false_or_eq_true a0.truth with hg36 | hg37
              · have h := ite_t hg36 h
                have hg36n := hg36
                try simp at hg36n
                have g0 := hA.get (k := 0) rfl
                have g1 := hA.get (k := 1) rfl
                refine satO_step 14 [] ⟨.agg a0.cs :: .ptr (lv + 1) i2 0 :: .bool false :: .ptr (lv + 1) i4 0 :: an 2 (.agg [.int .i64 0, .int .i64 0] :: .ptr (lv + 1) i2 0 :: .int .u8 a0.kind :: .bool (a0.kind == 1) :: .bool (a0.kind == 1) :: an 21 (.bool (a0.kind == 2) :: .bool (a0.kind == 2) :: an 16 (.bool (a0.kind == 3) :: .bool (a0.kind == 3) :: an 39 (.bool (a0.kind == 4) :: .bool (a0.kind == 4) :: .ptr (lv + 1) i2 1 :: .agg [.int .i64 a0.num.num, .int .i64 a0.num.den] :: .agg [.int .i64 0, .int .i64 0] :: .bool (!((a0.num.num == 0) && (a0.num.den == 0))) :: .bool (!((a0.num.num == 0) && (a0.num.den == 0))) :: .ptr (lv + 1) i2 3 :: .bool a0.truth :: .bool a0.truth :: .bool a0.truth :: .tup [] :: .tup [] :: .tup [] :: .tup [] :: .bool true :: an 14 [])))), ⟨lv + 1, L, E⟩, [], E⟩ [] (by first | (simp -implicitDefEqProofs [GValue.cs, g0, g1, hg35, hg36]; done) | simp -implicitDefEqProofs [GValue.cs, g0, g1, hg35, hg36, hg35n, hg36n]) claims_nil ?_
                refine satO_nil (by simp) ?_
                have hA : AccG (lv + 1) L [] [(i2, .cells a0.cs)] := hA.sel [] (by simp) rfl (.cons _ (.cons_cons _ .slnil))
                refine ⟨⟨an 1 (.ptr (lv + 1) i2 0 :: an 104 (.bool true :: an 14 [])), ⟨lv + 1, L, E⟩, [], E⟩, weak_tmps ?_, n, by omega, true, L, hA, h, rfl⟩
                (try simp only [an, List.map_cons, List.map_nil]); repeat (first | exact VLeL.nil | refine VLeL.cons (by first | exact VLe.refl _ | exact VLe.any _ | exact VLe.nil _ _ | exact VLe.full _ _ | (refine VLe.agg' ?_; repeat (first | exact VLeL.nil | refine VLeL.cons (by first | exact VLe.refl _ | exact VLe.any _ | exact VLe.nil _ _) ?_))) ?_)
              · have h := ite_f hg37 h
                have hg37n := hg37
                try simp at hg37n
                have g0 := hA.get (k := 0) rfl
                have g1 := hA.get (k := 1) rfl
                refine satO_step 14 [] ⟨.agg a0.cs :: .ptr (lv + 1) i2 0 :: .bool false :: .ptr (lv + 1) i4 0 :: an 2 (.agg [.int .i64 0, .int .i64 0] :: .ptr (lv + 1) i2 0 :: .int .u8 a0.kind :: .bool (a0.kind == 1) :: .bool (a0.kind == 1) :: an 21 (.bool (a0.kind == 2) :: .bool (a0.kind == 2) :: an 16 (.bool (a0.kind == 3) :: .bool (a0.kind == 3) :: an 39 (.bool (a0.kind == 4) :: .bool (a0.kind == 4) :: .ptr (lv + 1) i2 1 :: .agg [.int .i64 a0.num.num, .int .i64 a0.num.den] :: .agg [.int .i64 0, .int .i64 0] :: .bool (!((a0.num.num == 0) && (a0.num.den == 0))) :: .bool (!((a0.num.num == 0) && (a0.num.den == 0))) :: .ptr (lv + 1) i2 3 :: .bool a0.truth :: .bool a0.truth :: .bool a0.truth :: .ptr (lv + 1) i2 4 :: .str a0.str :: .int .i64 (a0.str.length : Int) :: .bool (decide (0 < (a0.str.length : Int))) :: .bool (decide (0 < (a0.str.length : Int))) :: an 14 [])))), ⟨lv + 1, L, E⟩, [], E⟩ [] (by first | (simp -implicitDefEqProofs [GValue.cs, g0, g1, hg35, hg37]; done) | simp -implicitDefEqProofs [GValue.cs, g0, g1, hg35, hg37, hg35n, hg37n]) claims_nil ?_
                refine satO_nil (by simp) ?_
                have hA : AccG (lv + 1) L [] [(i2, .cells a0.cs)] := hA.sel [] (by simp) rfl (.cons _ (.cons_cons _ .slnil))
                refine ⟨⟨an 1 (.ptr (lv + 1) i2 0 :: an 104 (.bool (decide (0 < (a0.str.length : Int))) :: an 14 [])), ⟨lv + 1, L, E⟩, [], E⟩, weak_tmps ?_, n, by omega, (decide (0 < (a0.str.length : Int))), L, hA, h, rfl⟩
                (try simp only [an, List.map_cons, List.map_nil]); repeat (first | exact VLeL.nil | refine VLeL.cons (by first | exact VLe.refl _ | exact VLe.any _ | exact VLe.nil _ _ | exact VLe.full _ _ | (refine VLe.agg' ?_; repeat (first | exact VLeL.nil | refine VLeL.cons (by first | exact VLe.refl _ | exact VLe.any _ | exact VLe.nil _ _) ?_))) ?_)
          · rintro σ0 σ hw ⟨k, hk, x33, L, hA, h, rfl⟩
            rcases k with _ | n
            · simp [go_ref03_fine_J5] at h
            · rw [go_ref03_fine_J5] at h
              refine sat_weak hw ?_
              repeat refine sat_seq ?_
              refine sat_cond rfl (fun hb => ?_) (fun hb => ?_)
              · have h := ite_t hb h
                repeat refine sat_seq ?_
                refine satO_reg ?_
                have g0 := hA.get (k := 0) rfl
                refine satO_step 1 [] ⟨an 1 (.ptr (lv + 1) i2 0 :: .bool false :: an 103 (.bool x33 :: an 14 [])), ⟨lv + 1, L, E⟩, [], E⟩ [] (by simp -implicitDefEqProofs [GValue.cs, g0]) claims_nil ?_
                refine satO_nil (by simp) ?_
                repeat refine sat_seq ?_
                refine sat_ret ?_
                have g0 := hA.get (k := 0) rfl
                refine ends (v := .bool false) (by simp [resultsV, resL, resV, tupOf, Try.f59, pLoad, g0, GValue.cs]) rfl rfl ?_
                injection h with h
                subst h
                exact (.keep _ (by simp [V.kin, V.kinL, GValue.cs]))
              · have h := ite_f hb h
                repeat refine sat_seq ?_
                refine sat_skip ?_
                repeat refine sat_seq ?_
                refine satO_reg ?_
                have g0 := hA.get (k := 0) rfl
                refine satO_step 1 [] ⟨an 1 (.ptr (lv + 1) i2 0 :: an 3 (.int .i64 0 :: an 100 (.bool x33 :: an 14 []))), ⟨lv + 1, L, E⟩, [], E⟩ [] (by simp -implicitDefEqProofs [GValue.cs, g0]) claims_nil ?_
                refine satO_nil (by simp) ?_
                repeat refine sat_seq ?_
                refine sat_block ?_
                repeat refine sat_seq ?_
                refine sat_loop (fun k σ => ∃ (x38 : Int) (L : List (Option AObj)), k ≤ n ∧ AccG (lv + 1) L [] [(i2, .cells a0.cs)] ∧ go_ref03_fine_L2 k a0 x38 = some r ∧ σ = ⟨an 1 (.ptr (lv + 1) i2 0 :: an 3 (.int .i64 x38 :: an 115 [])), ⟨lv + 1, L, E⟩, [], E⟩) n ⟨an 1 (.ptr (lv + 1) i2 0 :: an 3 (.int .i64 0 :: an 115 [])), ⟨lv + 1, L, E⟩, [], E⟩ (weak_tmps ?_) ⟨0, L, Nat.le_refl _, hA, h, rfl⟩ ?_
                · (try simp only [an, List.map_cons, List.map_nil]); repeat (first | exact VLeL.nil | refine VLeL.cons (by first | exact VLe.refl _ | exact VLe.any _ | exact VLe.nil _ _ | exact VLe.full _ _ | (refine VLe.agg' ?_; repeat (first | exact VLeL.nil | refine VLeL.cons (by first | exact VLe.refl _ | exact VLe.any _ | exact VLe.nil _ _) ?_))) ?_)
                · rintro k σ ⟨x38, L, hk, hA, h, rfl⟩
                  rcases k with _ | n
                  · simp [go_ref03_fine_L2] at h
                  · rw [go_ref03_fine_L2] at h
                    repeat refine sat_seq ?_
                    refine satO_reg ?_
                    have g0 := hA.get (k := 0) rfl
                    refine satO_step 5 [] ⟨an 1 (.ptr (lv + 1) i2 0 :: an 3 (.int .i64 x38 :: an 101 (.int .i64 x38 :: .ptr (lv + 1) i2 5 :: .sl 6 (a0.list.map GValue.el) false :: .int .i64 (a0.list.length : Int) :: .bool (decide (x38 < (a0.list.length : Int))) :: an 9 []))), ⟨lv + 1, L, E⟩, [], E⟩ [] (by simp -implicitDefEqProofs [GValue.cs, g0]) claims_nil ?_
                    refine satO_nil (by simp) ?_
                    repeat refine sat_seq ?_
                    refine sat_cond rfl (fun hb => ?_) (fun hb => ?_)
                    · have h := ite_t hb h
                      repeat refine sat_seq ?_
                      refine sat_skip ?_
                      repeat refine sat_seq ?_
                      refine sat_block ?_
                      repeat refine sat_seq ?_
                      refine satO_reg ?_
                      obtain ⟨x39, q40, h⟩ := bnd_hi h
                      obtain ⟨q40, q41⟩ := ix_some q40
                      obtain ⟨y42, q43, h⟩ := bnd_hi h
                      have g0 := hA.get (k := 0) rfl
                      refine satO_step 7 [(.bool y42, none)] ⟨an 1 (.ptr (lv + 1) i2 0 :: an 3 (.int .i64 x38 :: an 101 (.int .i64 x38 :: .ptr (lv + 1) i2 5 :: .sl 6 (a0.list.map GValue.el) false :: .int .i64 (a0.list.length : Int) :: .bool (decide (x38 < (a0.list.length : Int))) :: an 2 (.ptr (lv + 1) i2 5 :: .sl 6 (a0.list.map GValue.el) false :: .int .i64 x38 :: .ref x39.cs 0 :: .agg x39.cs :: .bool y42 :: .bool (!y42) :: [])))), ⟨lv + 1, L, E⟩, [], E⟩ [⟨59, [.agg x39.cs], ⟨lv + 1, L, E⟩, .bool y42, ⟨lv + 1, L, E⟩⟩] (by simp -implicitDefEqProofs [GValue.cs, g0, q40, q41, GValue.el_cs]) (claims_cons (ih _ (by omega) _ _ q43 _) claims_nil) ?_
                      refine satO_nil (by simp) ?_
                      repeat refine sat_seq ?_
                      refine sat_cond rfl (fun hb => ?_) (fun hb => ?_)
                      · have h := ite_t hb h
                        repeat refine sat_seq ?_
                        refine satO_reg ?_
                        have g0 := hA.get (k := 0) rfl
                        refine satO_step 1 [] ⟨an 1 (.ptr (lv + 1) i2 0 :: .bool false :: an 2 (.int .i64 x38 :: an 101 (.int .i64 x38 :: .ptr (lv + 1) i2 5 :: .sl 6 (a0.list.map GValue.el) false :: .int .i64 (a0.list.length : Int) :: .bool (decide (x38 < (a0.list.length : Int))) :: an 2 (.ptr (lv + 1) i2 5 :: .sl 6 (a0.list.map GValue.el) false :: .int .i64 x38 :: .ref x39.cs 0 :: .agg x39.cs :: .bool y42 :: .bool (!y42) :: [])))), ⟨lv + 1, L, E⟩, [], E⟩ [] (by simp -implicitDefEqProofs [GValue.cs, g0]) claims_nil ?_
                        refine satO_nil (by simp) ?_
                        repeat refine sat_seq ?_
                        refine sat_ret ?_
                        have g0 := hA.get (k := 0) rfl
                        refine ends (v := .bool false) (by simp [resultsV, resL, resV, tupOf, Try.f59, pLoad, g0, GValue.cs]) rfl rfl ?_
                        injection h with h
                        subst h
                        exact (.keep _ (by simp [V.kin, V.kinL, GValue.cs]))
                      · have h := ite_f hb h
                        repeat refine sat_seq ?_
                        refine sat_skip ?_
                        repeat refine sat_seq ?_
                        refine satO_reg ?_
                        have g0 := hA.get (k := 0) rfl
                        refine satO_step 3 [] ⟨an 1 (.ptr (lv + 1) i2 0 :: an 3 (.int .i64 (IntKind.i64.wrap (x38 + 1)) :: an 101 (.int .i64 x38 :: .ptr (lv + 1) i2 5 :: .sl 6 (a0.list.map GValue.el) false :: .int .i64 (a0.list.length : Int) :: .bool (decide (x38 < (a0.list.length : Int))) :: .int .i64 x38 :: .int .i64 (IntKind.i64.wrap (x38 + 1)) :: .ptr (lv + 1) i2 5 :: .sl 6 (a0.list.map GValue.el) false :: .int .i64 x38 :: .ref x39.cs 0 :: .agg x39.cs :: .bool y42 :: .bool (!y42) :: []))), ⟨lv + 1, L, E⟩, [], E⟩ [] (by simp -implicitDefEqProofs [GValue.cs, g0]) claims_nil ?_
                        refine satO_nil (by simp) ?_
                        refine ⟨n, ⟨an 1 (.ptr (lv + 1) i2 0 :: an 3 (.int .i64 (IntKind.i64.wrap (x38 + 1)) :: an 115 [])), ⟨lv + 1, L, E⟩, [], E⟩, weak_tmps ?_, ⟨(IntKind.i64.wrap (x38 + 1)), L, by omega, hA, h, rfl⟩, by omega⟩
                        (try simp only [an, List.map_cons, List.map_nil]); repeat (first | exact VLeL.nil | refine VLeL.cons (by first | exact VLe.refl _ | exact VLe.any _ | exact VLe.nil _ _ | exact VLe.full _ _ | (refine VLe.agg' ?_; repeat (first | exact VLeL.nil | refine VLeL.cons (by first | exact VLe.refl _ | exact VLe.any _ | exact VLe.nil _ _) ?_))) ?_)
                    · have h := ite_f hb h
                      repeat refine sat_seq ?_
                      refine sat_exit ?_
                      repeat refine sat_seq ?_
                      refine satO_reg ?_
                      have g0 := hA.get (k := 0) rfl
                      refine satO_step 1 [] ⟨an 1 (.ptr (lv + 1) i2 0 :: .bool true :: an 2 (.int .i64 x38 :: an 101 (.int .i64 x38 :: .ptr (lv + 1) i2 5 :: .sl 6 (a0.list.map GValue.el) false :: .int .i64 (a0.list.length : Int) :: .bool (decide (x38 < (a0.list.length : Int))) :: an 9 []))), ⟨lv + 1, L, E⟩, [], E⟩ [] (by simp -implicitDefEqProofs [GValue.cs, g0]) claims_nil ?_
                      refine satO_nil (by simp) ?_
                      repeat refine sat_seq ?_
                      refine sat_ret ?_
                      have g0 := hA.get (k := 0) rfl
                      refine ends (v := .bool true) (by simp [resultsV, resL, resV, tupOf, Try.f59, pLoad, g0, GValue.cs]) rfl rfl ?_
                      injection h with h
                      subst h
                      exact (.keep _ (by simp [V.kin, V.kinL, GValue.cs]))
        · have h := ite_f hb h
          repeat refine sat_seq ?_
          refine sat_skip ?_
          repeat refine sat_seq ?_
          refine satO_reg ?_
          have g0 := hA.get (k := 0) rfl
          have g1 := hA.get (k := 1) rfl
          refine satO_step 1 [] ⟨.agg a0.cs :: .ptr (lv + 1) i2 0 :: .bool false :: .ptr (lv + 1) i4 0 :: an 2 (.agg [.int .i64 0, .int .i64 0] :: .ptr (lv + 1) i2 0 :: .int .u8 a0.kind :: .bool (a0.kind == 1) :: .bool (a0.kind == 1) :: an 21 (.bool (a0.kind == 2) :: .bool (a0.kind == 2) :: an 16 (.bool (a0.kind == 3) :: .bool (a0.kind == 3) :: an 39 (.bool (a0.kind == 4) :: .bool (a0.kind == 4) :: an 28 [])))), ⟨lv + 1, L, E⟩, [], E⟩ [] (by simp -implicitDefEqProofs [GValue.cs, g0, g1]) claims_nil ?_
          refine satO_nil (by simp) ?_
          repeat refine sat_seq ?_
          refine sat_ret ?_
          have g0 := hA.get (k := 0) rfl
          have g1 := hA.get (k := 1) rfl
          refine ends (v := .bool false) (by simp [resultsV, resL, resV, tupOf, Try.f59, pLoad, g0, g1, GValue.cs]) rfl rfl ?_
          injection h with h
          subst h
          exact (.keep _ (by simp [V.kin, V.kinL, GValue.cs]))
end Go.Proofs

namespace Go.Proofs
open Go Go.Ab
set_option maxRecDepth 10000
set_option maxHeartbeats 1000000
set_option linter.unusedSimpArgs false
set_option linter.unusedVariables false
theorem go_ref03_Check_ok (n : Nat) (a0 : GValue) (r : Int) (h : go_ref03_Check n a0 = some r) : PCall Try.prog 40 [.agg a0.cs] (.int .i64 r) := by
  rw [go_ref03_Check] at h
  refine pcall_of Try.func40 rfl Try.ntmps40 (fun _ _ => Try.call40 _ _) fun lv E => ?_
  simp only [List.length_cons, List.length_nil, Nat.reduceAdd, Nat.reduceSub, List.replicate, List.cons_append, List.nil_append]
  have hA := AccG.nil (lv + 1)
  generalize ([] : List (Option AObj)) = L at hA ⊢
  repeat refine sat_seq ?_
  refine satO_reg ?_
  refine satO_step 1 [] ⟨.agg a0.cs :: .ptr (lv + 1) L.length 0 :: an 12 [], ⟨lv + 1, (L ++ [some (.cells a0.cs)]), E⟩, [], E⟩ [] (by simp -implicitDefEqProofs [GValue.cs]) claims_nil ?_
  have hA : AccG (lv + 1) (L ++ [some (.cells a0.cs)]) [] [(L.length, .cells a0.cs)] := hA.obj _
  generalize L.length = i2 at hA ⊢
  generalize (L ++ [some (.cells a0.cs)]) = L at hA ⊢
  have g0 := hA.get (k := 0) rfl
  refine satO_step 1 [] ⟨.agg a0.cs :: .ptr (lv + 1) i2 0 :: .int .i64 0 :: an 11 [], ⟨lv + 1, L, E⟩, [], E⟩ [] (by simp -implicitDefEqProofs [GValue.cs, g0]) claims_nil ?_
  refine satO_nil (by simp) ?_
  repeat refine sat_seq ?_
  refine sat_meet (fun σ => ∃ (x3 : Bool) (L : List (Option AObj)), AccG (lv + 1) L [] [(i2, .cells a0.cs)] ∧ go_ref03_Check_J1 n a0 x3 = some r ∧ σ = ⟨an 1 (.ptr (lv + 1) i2 0 :: an 8 (.bool x3 :: an 3 [])), ⟨lv + 1, L, E⟩, [], E⟩) ?_ ?_
  · refine satO_reg ?_
    obtain ⟨y4, q5, h⟩ := bnd_hi h
    rcases Bool.eq_false_or_eq_true (decide (100 < y4)) with hg6 | hg7
    · have h := ite_t hg6 h
      have hg6n := hg6
      try simp at hg6n
      have g0 := hA.get (k := 0) rfl
      refine satO_step 8 [(.int .i64 y4, none)] ⟨.agg a0.cs :: .ptr (lv + 1) i2 0 :: .int .i64 0 :: .agg a0.cs :: .int .i64 y4 :: .bool (decide (100 < y4)) :: .bool (decide (100 < y4)) :: .tup [] :: .tup [] :: .tup [] :: .bool true :: an 3 [], ⟨lv + 1, L, E⟩, [], E⟩ [⟨57, [.agg a0.cs], ⟨lv + 1, L, E⟩, .int .i64 y4, ⟨lv + 1, L, E⟩⟩] (by first | (simp -implicitDefEqProofs [GValue.cs, g0, hg6]; done) | simp -implicitDefEqProofs [GValue.cs, g0, hg6, hg6n]) (claims_cons (go_ref03_Parts_ok _ _ _ q5 _) claims_nil) ?_
      refine satO_nil (by simp) ?_
      refine ⟨⟨an 1 (.ptr (lv + 1) i2 0 :: an 8 (.bool true :: an 3 [])), ⟨lv + 1, L, E⟩, [], E⟩, weak_tmps ?_, true, L, hA, h, rfl⟩
      (try simp only [an, List.map_cons, List.map_nil]); repeat (first | exact VLeL.nil | refine VLeL.cons (by first | exact VLe.refl _ | exact VLe.any _ | exact VLe.nil _ _ | exact VLe.full _ _ | (refine VLe.agg' ?_; repeat (first | exact VLeL.nil | refine VLeL.cons (by first | exact VLe.refl _ | exact VLe.any _ | exact VLe.nil _ _) ?_))) ?_)
    · have h := ite_f hg7 h
      have hg7n := hg7
      try simp at hg7n
      obtain ⟨y8, q9, h⟩ := bnd_hi h
      have g0 := hA.get (k := 0) rfl
      refine satO_step 8 [(.int .i64 y4, none), (.int .i64 y8, none)] ⟨.agg a0.cs :: .ptr (lv + 1) i2 0 :: .int .i64 0 :: .agg a0.cs :: .int .i64 y4 :: .bool (decide (100 < y4)) :: .bool (decide (100 < y4)) :: .agg a0.cs :: .int .i64 y8 :: .bool (decide (6 < y8)) :: .bool (decide (6 < y8)) :: an 3 [], ⟨lv + 1, L, E⟩, [], E⟩ [⟨57, [.agg a0.cs], ⟨lv + 1, L, E⟩, .int .i64 y4, ⟨lv + 1, L, E⟩⟩, ⟨58, [.agg a0.cs], ⟨lv + 1, L, E⟩, .int .i64 y8, ⟨lv + 1, L, E⟩⟩] (by first | (simp -implicitDefEqProofs [GValue.cs, g0, hg7]; done) | simp -implicitDefEqProofs [GValue.cs, g0, hg7, hg7n]) (claims_cons (go_ref03_Parts_ok _ _ _ q5 _) (claims_cons (go_ref03_Deep_ok _ _ _ q9 _) claims_nil)) ?_
      refine satO_nil (by simp) ?_
      refine ⟨⟨an 1 (.ptr (lv + 1) i2 0 :: an 8 (.bool (decide (6 < y8)) :: an 3 [])), ⟨lv + 1, L, E⟩, [], E⟩, weak_tmps ?_, (decide (6 < y8)), L, hA, h, rfl⟩
      (try simp only [an, List.map_cons, List.map_nil]); repeat (first | exact VLeL.nil | refine VLeL.cons (by first | exact VLe.refl _ | exact VLe.any _ | exact VLe.nil _ _ | exact VLe.full _ _ | (refine VLe.agg' ?_; repeat (first | exact VLeL.nil | refine VLeL.cons (by first | exact VLe.refl _ | exact VLe.any _ | exact VLe.nil _ _) ?_))) ?_)
  · rintro σ0 σ hw ⟨x3, L, hA, h, rfl⟩
    rw [go_ref03_Check_J1] at h
    refine sat_weak hw ?_
    repeat refine sat_seq ?_
    refine sat_cond rfl (fun hb => ?_) (fun hb => ?_)
    · have h := ite_t hb h
      repeat refine sat_seq ?_
      refine satO_reg ?_
      have g0 := hA.get (k := 0) rfl
      refine satO_step 1 [] ⟨an 1 (.ptr (lv + 1) i2 0 :: .int .i64 4 :: an 7 (.bool x3 :: an 3 [])), ⟨lv + 1, L, E⟩, [], E⟩ [] (by simp -implicitDefEqProofs [GValue.cs, g0]) claims_nil ?_
      refine satO_nil (by simp) ?_
      repeat refine sat_seq ?_
      refine sat_ret ?_
      have g0 := hA.get (k := 0) rfl
      refine ends (v := .int .i64 4) (by simp [resultsV, resL, resV, tupOf, Try.f40, pLoad, g0, GValue.cs]) rfl rfl ?_
      injection h with h
      subst h
      exact (.keep _ (by simp [V.kin, V.kinL, GValue.cs]))
    · have h := ite_f hb h
      repeat refine sat_seq ?_
      refine sat_skip ?_
      repeat refine sat_seq ?_
      refine satO_reg ?_
      obtain ⟨y10, q11, h⟩ := bnd_hi h
      have g0 := hA.get (k := 0) rfl
      refine satO_step 3 [(.bool y10, none)] ⟨an 1 (.ptr (lv + 1) i2 0 :: an 8 (.bool x3 :: .agg a0.cs :: .bool y10 :: .bool (!y10) :: [])), ⟨lv + 1, L, E⟩, [], E⟩ [⟨59, [.agg a0.cs], ⟨lv + 1, L, E⟩, .bool y10, ⟨lv + 1, L, E⟩⟩] (by simp -implicitDefEqProofs [GValue.cs, g0]) (claims_cons (go_ref03_fine_ok _ _ _ q11 _) claims_nil) ?_
      refine satO_nil (by simp) ?_
      repeat refine sat_seq ?_
      refine sat_cond rfl (fun hb => ?_) (fun hb => ?_)
      · have h := ite_t hb h
        repeat refine sat_seq ?_
        refine satO_reg ?_
        have g0 := hA.get (k := 0) rfl
        refine satO_step 1 [] ⟨an 1 (.ptr (lv + 1) i2 0 :: .int .i64 8 :: an 7 (.bool x3 :: .agg a0.cs :: .bool y10 :: .bool (!y10) :: [])), ⟨lv + 1, L, E⟩, [], E⟩ [] (by simp -implicitDefEqProofs [GValue.cs, g0]) claims_nil ?_
        refine satO_nil (by simp) ?_
        repeat refine sat_seq ?_
        refine sat_ret ?_
        have g0 := hA.get (k := 0) rfl
        refine ends (v := .int .i64 8) (by simp [resultsV, resL, resV, tupOf, Try.f40, pLoad, g0, GValue.cs]) rfl rfl ?_
        injection h with h
        subst h
        exact (.keep _ (by simp [V.kin, V.kinL, GValue.cs]))
      · have h := ite_f hb h
        repeat refine sat_seq ?_
        refine sat_skip ?_
        repeat refine sat_seq ?_
        refine satO_reg ?_
        have g0 := hA.get (k := 0) rfl
        refine satO_step 1 [] ⟨an 1 (.ptr (lv + 1) i2 0 :: .int .i64 0 :: an 7 (.bool x3 :: .agg a0.cs :: .bool y10 :: .bool (!y10) :: [])), ⟨lv + 1, L, E⟩, [], E⟩ [] (by simp -implicitDefEqProofs [GValue.cs, g0]) claims_nil ?_
        refine satO_nil (by simp) ?_
        repeat refine sat_seq ?_
        refine sat_ret ?_
        have g0 := hA.get (k := 0) rfl
        refine ends (v := .int .i64 0) (by simp [resultsV, resL, resV, tupOf, Try.f40, pLoad, g0, GValue.cs]) rfl rfl ?_
        injection h with h
        subst h
        exact (.keep _ (by simp [V.kin, V.kinL, GValue.cs]))
end Go.Proofs

namespace Go.Proofs
open Go Go.Ab
set_option maxRecDepth 10000
set_option maxHeartbeats 1000000
set_option linter.unusedSimpArgs false
set_option linter.unusedVariables false
theorem go_ref45_Named_ok (n : Nat) (a0 : List UInt8) (r : Bool) (h : go_ref45_Named n a0 = some r) : PCall Try.prog 25 [.str a0] (.bool r) := by
  rw [go_ref45_Named] at h
  refine pcall_of Try.func25 rfl Try.ntmps25 (fun _ _ => Try.call25 _ _) fun lv E => ?_
  simp only [List.length_cons, List.length_nil, Nat.reduceAdd, Nat.reduceSub, List.replicate, List.cons_append, List.nil_append]
  have hA := AccG.nil (lv + 1)
  generalize ([] : List (Option AObj)) = L at hA ⊢
  repeat refine sat_seq ?_
  refine satO_reg ?_
  refine satO_step 1 [] ⟨.str a0 :: an 1 (.bool false :: an 4 []), ⟨lv + 1, L, E⟩, [], E⟩ [] (by simp -implicitDefEqProofs []) claims_nil ?_
  refine satO_nil (by simp) ?_
  repeat refine sat_seq ?_
  refine satO_reg ?_
  obtain ⟨y1, q2, h⟩ := bnd_hi h
  obtain ⟨y3, q4, h⟩ := bnd_hi h
  refine satO_step 5 [(.agg y1.cs, none), (.int .i64 y3, none)] ⟨.str a0 :: an 1 (.bool (y3 == 0) :: .str a0 :: .agg y1.cs :: .int .i64 y3 :: .bool (y3 == 0) :: []), ⟨lv + 1, L, E⟩, [], E⟩ [⟨41, [.str a0], ⟨lv + 1, L, E⟩, .agg y1.cs, ⟨lv + 1, L, E⟩⟩, ⟨40, [.agg y1.cs], ⟨lv + 1, L, E⟩, .int .i64 y3, ⟨lv + 1, L, E⟩⟩] (by simp -implicitDefEqProofs [GValue.cs]) (claims_cons (go_ref03_Str_ok _ _ _ q2 _) (claims_cons (go_ref03_Check_ok _ _ _ q4 _) claims_nil)) ?_
  refine satO_nil (by simp) ?_
  repeat refine sat_seq ?_
  refine sat_ret ?_
  refine ends (v := .bool (y3 == 0)) (by simp [resultsV, resL, resV, tupOf, Try.f25, pLoad, GValue.cs]) rfl rfl ?_
  injection h with h
  subst h
  exact (.keep _ (by simp [V.kin, V.kinL, GValue.cs]))
end Go.Proofs

namespace Go.Proofs
open Go Go.Ab
set_option maxRecDepth 10000
set_option maxHeartbeats 1000000
set_option linter.unusedSimpArgs false
set_option linter.unusedVariables false
theorem go_ref45_Check_ok (n : Nat) (a0 : List GTally) (r : Int) (h : go_ref45_Check n a0 = some r) : PCall Try.prog 11 [.sl 3 (a0.map GTally.el) false] (.int .i64 r) := by
  rcases n with _ | n
  · simp [go_ref45_Check] at h
  rw [go_ref45_Check] at h
  refine pcall_of Try.func11 rfl Try.ntmps11 (fun _ _ => Try.call11 _ _) fun lv E => ?_
  simp only [List.length_cons, List.length_nil, Nat.reduceAdd, Nat.reduceSub, List.replicate, List.cons_append, List.nil_append]
  have hA := AccG.nil (lv + 1)
  generalize ([] : List (Option AObj)) = L at hA ⊢
  repeat refine sat_seq ?_
  refine satO_reg ?_
  refine satO_step 1 [] ⟨.sl 3 (a0.map GTally.el) false :: an 1 (.int .i64 0 :: an 67 []), ⟨lv + 1, L, E⟩, [], E⟩ [] (by simp -implicitDefEqProofs []) claims_nil ?_
  refine satO_nil (by simp) ?_
  repeat refine sat_seq ?_
  refine satO_reg ?_
  refine satO_step 3 [] ⟨.sl 3 (a0.map GTally.el) false :: an 1 (.int .i64 0 :: an 1 (.sl 3 (a0.map GTally.el) false :: .int .i64 (a0.length : Int) :: .bool (decide (200 < (a0.length : Int))) :: an 63 [])), ⟨lv + 1, L, E⟩, [], E⟩ [] (by simp -implicitDefEqProofs []) claims_nil ?_
  refine satO_nil (by simp) ?_
  repeat refine sat_seq ?_
  refine sat_cond rfl (fun hb => ?_) (fun hb => ?_)
  · have h := ite_t hb h
    repeat refine sat_seq ?_
    refine satO_reg ?_
    refine satO_step 1 [] ⟨.sl 3 (a0.map GTally.el) false :: an 1 (.int .i64 4 :: an 1 (.sl 3 (a0.map GTally.el) false :: .int .i64 (a0.length : Int) :: .bool (decide (200 < (a0.length : Int))) :: an 63 [])), ⟨lv + 1, L, E⟩, [], E⟩ [] (by simp -implicitDefEqProofs []) claims_nil ?_
    refine satO_nil (by simp) ?_
    repeat refine sat_seq ?_
    refine sat_ret ?_
    refine ends (v := .int .i64 4) (by simp [resultsV, resL, resV, tupOf, Try.f11, pLoad]) rfl rfl ?_
    injection h with h
    subst h
    exact (.keep _ (by simp [V.kin, V.kinL]))
  · have h := ite_f hb h
    repeat refine sat_seq ?_
    refine sat_skip ?_
    repeat refine sat_seq ?_
    refine satO_reg ?_
    refine satO_step 1 [] ⟨.sl 3 (a0.map GTally.el) false :: an 1 (.int .i64 0 :: .int .i64 0 :: .sl 3 (a0.map GTally.el) false :: .int .i64 (a0.length : Int) :: .bool (decide (200 < (a0.length : Int))) :: an 63 []), ⟨lv + 1, L, E⟩, [], E⟩ [] (by simp -implicitDefEqProofs []) claims_nil ?_
    refine satO_nil (by simp) ?_
    repeat refine sat_seq ?_
    refine sat_block ?_
    repeat refine sat_seq ?_
    refine sat_loop (fun k σ => ∃ (x1 : Int) (L : List (Option AObj)), k ≤ n ∧ AccG (lv + 1) L [] [] ∧ go_ref45_Check_L1 k a0 x1 = some r ∧ σ = ⟨.sl 3 (a0.map GTally.el) false :: an 2 (.int .i64 x1 :: an 66 []), ⟨lv + 1, L, E⟩, [], E⟩) n ⟨.sl 3 (a0.map GTally.el) false :: an 2 (.int .i64 0 :: an 66 []), ⟨lv + 1, L, E⟩, [], E⟩ (weak_tmps ?_) ⟨0, L, Nat.le_refl _, hA, h, rfl⟩ ?_
    · (try simp only [an, List.map_cons, List.map_nil]); repeat (first | exact VLeL.nil | refine VLeL.cons (by first | exact VLe.refl _ | exact VLe.any _ | exact VLe.nil _ _ | exact VLe.full _ _ | (refine VLe.agg' ?_; repeat (first | exact VLeL.nil | refine VLeL.cons (by first | exact VLe.refl _ | exact VLe.any _ | exact VLe.nil _ _) ?_))) ?_)
    · rintro k σ ⟨x1, L, hk, hA, h, rfl⟩
      rcases k with _ | n
      · simp [go_ref45_Check_L1] at h
      · rw [go_ref45_Check_L1] at h
        repeat refine sat_seq ?_
        refine satO_reg ?_
        refine satO_step 4 [] ⟨.sl 3 (a0.map GTally.el) false :: an 2 (.int .i64 x1 :: an 3 (.int .i64 x1 :: .sl 3 (a0.map GTally.el) false :: .int .i64 (a0.length : Int) :: .bool (decide (x1 < (a0.length : Int))) :: an 59 [])), ⟨lv + 1, L, E⟩, [], E⟩ [] (by simp -implicitDefEqProofs []) claims_nil ?_
        refine satO_nil (by simp) ?_
        repeat refine sat_seq ?_
        refine sat_cond rfl (fun hb => ?_) (fun hb => ?_)
        · have h := ite_t hb h
          repeat refine sat_seq ?_
          refine sat_skip ?_
          repeat refine sat_seq ?_
          refine sat_block ?_
          repeat refine sat_seq ?_
          refine sat_meet (fun σ => ∃ (k : Nat), k ≤ n ∧ ∃ (x2 : Bool) (L : List (Option AObj)), AccG (lv + 1) L [] [] ∧ go_ref45_Check_J1 k a0 x1 x2 = some r ∧ σ = ⟨.sl 3 (a0.map GTally.el) false :: an 2 (.int .i64 x1 :: an 65 (.bool x2 :: [])), ⟨lv + 1, L, E⟩, [], E⟩) ?_ ?_
          · obtain ⟨x3, q4, h⟩ := bnd_hi h
            obtain ⟨q4, q5⟩ := ix_some q4
            obtain ⟨y6, q7, h⟩ := bnd_hi h
            rcases Bool.eq_false_or_eq_true (!y6) with hg8 | hg9
            · have h := ite_t hg8 h
              have hg8n := hg8
              try simp at hg8n
              refine satO_drw (by kernel_rfl) (by kernel_rfl) [.bool y6] ⟨.sl 3 (a0.map GTally.el) false :: an 2 (.int .i64 x1 :: an 3 (.int .i64 x1 :: .sl 3 (a0.map GTally.el) false :: .int .i64 (a0.length : Int) :: .bool (decide (x1 < (a0.length : Int))) :: an 2 (.sl 3 (a0.map GTally.el) false :: .int .i64 x1 :: .ref x3.cs 0 :: .ref x3.cs 0 :: .str x3.name :: .bool y6 :: .bool (!y6) :: .bool (!y6) :: .tup [] :: .tup [] :: .tup [] :: .tup [] :: .tup [] :: .tup [] :: .tup [] :: .tup [] :: .tup [] :: .tup [] :: .tup [] :: .tup [] :: .tup [] :: .tup [] :: .tup [] :: .tup [] :: .bool true :: .bool true :: .tup [] :: .tup [] :: .tup [] :: .tup [] :: .tup [] :: .tup [] :: .bool true :: .bool true :: .tup [] :: .tup [] :: .tup [] :: .tup [] :: .tup [] :: .tup [] :: .bool true :: .bool true :: .tup [] :: .tup [] :: .tup [] :: .tup [] :: .tup [] :: .tup [] :: .bool true :: .bool true :: .tup [] :: .tup [] :: .tup [] :: .tup [] :: .tup [] :: .tup [] :: .bool true :: []))), ⟨lv + 1, L, E⟩, [], E⟩ [⟨25, [.str x3.name], ⟨lv + 1, L, E⟩, .bool y6, ⟨lv + 1, L, E⟩⟩] (by first | (simp -implicitDefEqProofs [GTally.cs, q4, q5, GTally.el_cs, hg8]; done) | simp -implicitDefEqProofs [GTally.cs, q4, q5, GTally.el_cs, hg8, hg8n]) (claims_cons (go_ref45_Named_ok _ _ _ q7 _) claims_nil) ?_
              refine ⟨⟨.sl 3 (a0.map GTally.el) false :: an 2 (.int .i64 x1 :: an 65 (.bool true :: [])), ⟨lv + 1, L, E⟩, [], E⟩, weak_tmps ?_, n, by omega, true, L, hA, h, rfl⟩
              (try simp only [an, List.map_cons, List.map_nil]); repeat (first | exact VLeL.nil | refine VLeL.cons (by first | exact VLe.refl _ | exact VLe.any _ | exact VLe.nil _ _ | exact VLe.full _ _ | (refine VLe.agg' ?_; repeat (first | exact VLeL.nil | refine VLeL.cons (by first | exact VLe.refl _ | exact VLe.any _ | exact VLe.nil _ _) ?_))) ?_)
            · have h := ite_f hg9 h
              have hg9n := hg9
              try simp at hg9n
              rcases Bool.eq_false_or_eq_true (decide (0 < x1)) with hg10 | hg22
              · have h := ite_t hg10 h
                have hg10n := hg10
                try simp at hg10n
                obtain ⟨x11, q12, h⟩ := bnd_hi h
                obtain ⟨q12, q13⟩ := ix_some q12
                rcases Bool.eq_false_or_eq_true (!(Op.bytesLess x11.name x3.name)) with hg14 | hg15
                · have h := ite_t hg14 h
                  have hg14n := hg14
                  try simp at hg14n
                  refine satO_drw (by kernel_rfl) (by kernel_rfl) [.bool y6] ⟨.sl 3 (a0.map GTally.el) false :: an 2 (.int .i64 x1 :: an 3 (.int .i64 x1 :: .sl 3 (a0.map GTally.el) false :: .int .i64 (a0.length : Int) :: .bool (decide (x1 < (a0.length : Int))) :: an 2 (.sl 3 (a0.map GTally.el) false :: .int .i64 x1 :: .ref x3.cs 0 :: .ref x3.cs 0 :: .str x3.name :: .bool y6 :: .bool (!y6) :: .bool (!y6) :: .int .i64 x1 :: .bool (decide (0 < x1)) :: .bool (decide (0 < x1)) :: .sl 3 (a0.map GTally.el) false :: .int .i64 x1 :: .int .i64 (IntKind.i64.wrap (x1 - 1)) :: .ref x11.cs 0 :: .ref x11.cs 0 :: .str x11.name :: .sl 3 (a0.map GTally.el) false :: .int .i64 x1 :: .ref x3.cs 0 :: .ref x3.cs 0 :: .str x3.name :: .bool (!(Op.bytesLess x11.name x3.name)) :: .bool (!(Op.bytesLess x11.name x3.name)) :: .bool (!(Op.bytesLess x11.name x3.name)) :: .bool (!(Op.bytesLess x11.name x3.name)) :: .tup [] :: .tup [] :: .tup [] :: .tup [] :: .tup [] :: .tup [] :: .bool true :: .bool true :: .tup [] :: .tup [] :: .tup [] :: .tup [] :: .tup [] :: .tup [] :: .bool true :: .bool true :: .tup [] :: .tup [] :: .tup [] :: .tup [] :: .tup [] :: .tup [] :: .bool true :: .bool true :: .tup [] :: .tup [] :: .tup [] :: .tup [] :: .tup [] :: .tup [] :: .bool true :: []))), ⟨lv + 1, L, E⟩, [], E⟩ [⟨25, [.str x3.name], ⟨lv + 1, L, E⟩, .bool y6, ⟨lv + 1, L, E⟩⟩] (by first | (simp -implicitDefEqProofs [GTally.cs, q4, q5, GTally.el_cs, hg9, hg10, q12, q13, GTally.el_cs, q4, q5, GTally.el_cs, hg14]; done) | simp -implicitDefEqProofs [GTally.cs, q4, q5, GTally.el_cs, hg9, hg10, q12, q13, GTally.el_cs, q4, q5, GTally.el_cs, hg14, hg9n, hg10n, hg14n]) (claims_cons (go_ref45_Named_ok _ _ _ q7 _) claims_nil) ?_
                  refine ⟨⟨.sl 3 (a0.map GTally.el) false :: an 2 (.int .i64 x1 :: an 65 (.bool true :: [])), ⟨lv + 1, L, E⟩, [], E⟩, weak_tmps ?_, n, by omega, true, L, hA, h, rfl⟩
                  (try simp only [an, List.map_cons, List.map_nil]); repeat (first | exact VLeL.nil | refine VLeL.cons (by first | exact VLe.refl _ | exact VLe.any _ | exact VLe.nil _ _ | exact VLe.full _ _ | (refine VLe.agg' ?_; repeat (first | exact VLeL.nil | refine VLeL.cons (by first | exact VLe.refl _ | exact VLe.any _ | exact VLe.nil _ _) ?_))) ?_)
                · have h := ite_f hg15 h
                  have hg15n := hg15
                  try simp at hg15n
                  rcases Bool.eq_false_or_eq_true (decide (x3.count < 1)) with hg16 | hg17
                  · have h := ite_t hg16 h
                    have hg16n := hg16
                    try simp at hg16n
                    refine satO_drw (by kernel_rfl) (by kernel_rfl) [.bool y6] ⟨.sl 3 (a0.map GTally.el) false :: an 2 (.int .i64 x1 :: an 3 (.int .i64 x1 :: .sl 3 (a0.map GTally.el) false :: .int .i64 (a0.length : Int) :: .bool (decide (x1 < (a0.length : Int))) :: an 2 (.sl 3 (a0.map GTally.el) false :: .int .i64 x1 :: .ref x3.cs 0 :: .ref x3.cs 0 :: .str x3.name :: .bool y6 :: .bool (!y6) :: .bool (!y6) :: .int .i64 x1 :: .bool (decide (0 < x1)) :: .bool (decide (0 < x1)) :: .sl 3 (a0.map GTally.el) false :: .int .i64 x1 :: .int .i64 (IntKind.i64.wrap (x1 - 1)) :: .ref x11.cs 0 :: .ref x11.cs 0 :: .str x11.name :: .sl 3 (a0.map GTally.el) false :: .int .i64 x1 :: .ref x3.cs 0 :: .ref x3.cs 0 :: .str x3.name :: .bool (!(Op.bytesLess x11.name x3.name)) :: .bool (!(Op.bytesLess x11.name x3.name)) :: .bool (!(Op.bytesLess x11.name x3.name)) :: .bool (!(Op.bytesLess x11.name x3.name)) :: .sl 3 (a0.map GTally.el) false :: .int .i64 x1 :: .ref x3.cs 0 :: .ref x3.cs 1 :: .int .i64 x3.count :: .bool (decide (x3.count < 1)) :: .bool (decide (x3.count < 1)) :: .bool (decide (x3.count < 1)) :: .tup [] :: .tup [] :: .tup [] :: .tup [] :: .tup [] :: .tup [] :: .bool true :: .bool true :: .tup [] :: .tup [] :: .tup [] :: .tup [] :: .tup [] :: .tup [] :: .bool true :: .bool true :: .tup [] :: .tup [] :: .tup [] :: .tup [] :: .tup [] :: .tup [] :: .bool true :: []))), ⟨lv + 1, L, E⟩, [], E⟩ [⟨25, [.str x3.name], ⟨lv + 1, L, E⟩, .bool y6, ⟨lv + 1, L, E⟩⟩] (by first | (simp -implicitDefEqProofs [GTally.cs, q4, q5, GTally.el_cs, hg9, hg10, q12, q13, GTally.el_cs, q4, q5, GTally.el_cs, hg15, q4, q5, GTally.el_cs, hg16]; done) | simp -implicitDefEqProofs [GTally.cs, q4, q5, GTally.el_cs, hg9, hg10, q12, q13, GTally.el_cs, q4, q5, GTally.el_cs, hg15, q4, q5, GTally.el_cs, hg16, hg9n, hg10n, hg15n, hg16n]) (claims_cons (go_ref45_Named_ok _ _ _ q7 _) claims_nil) ?_
                    refine ⟨⟨.sl 3 (a0.map GTally.el) false :: an 2 (.int .i64 x1 :: an 65 (.bool true :: [])), ⟨lv + 1, L, E⟩, [], E⟩, weak_tmps ?_, n, by omega, true, L, hA, h, rfl⟩
                    (try simp only [an, List.map_cons, List.map_nil]); repeat (first | exact VLeL.nil | refine VLeL.cons (by first | exact VLe.refl _ | exact VLe.any _ | exact VLe.nil _ _ | exact VLe.full _ _ | (refine VLe.agg' ?_; repeat (first | exact VLeL.nil | refine VLeL.cons (by first | exact VLe.refl _ | exact VLe.any _ | exact VLe.nil _ _) ?_))) ?_)
                  · have h := ite_f hg17 h
                    have hg17n := hg17
                    try simp at hg17n
                    rcases Bool.eq_false_or_eq_true (decide (1000000000 < x3.count)) with hg18 | hg19
                    · have h := ite_t hg18 h
                      have hg18n := hg18
                      try simp at hg18n
                      refine satO_drw (by kernel_rfl) (by kernel_rfl) [.bool y6] ⟨.sl 3 (a0.map GTally.el) false :: an 2 (.int .i64 x1 :: an 3 (.int .i64 x1 :: .sl 3 (a0.map GTally.el) false :: .int .i64 (a0.length : Int) :: .bool (decide (x1 < (a0.length : Int))) :: an 2 (.sl 3 (a0.map GTally.el) false :: .int .i64 x1 :: .ref x3.cs 0 :: .ref x3.cs 0 :: .str x3.name :: .bool y6 :: .bool (!y6) :: .bool (!y6) :: .int .i64 x1 :: .bool (decide (0 < x1)) :: .bool (decide (0 < x1)) :: .sl 3 (a0.map GTally.el) false :: .int .i64 x1 :: .int .i64 (IntKind.i64.wrap (x1 - 1)) :: .ref x11.cs 0 :: .ref x11.cs 0 :: .str x11.name :: .sl 3 (a0.map GTally.el) false :: .int .i64 x1 :: .ref x3.cs 0 :: .ref x3.cs 0 :: .str x3.name :: .bool (!(Op.bytesLess x11.name x3.name)) :: .bool (!(Op.bytesLess x11.name x3.name)) :: .bool (!(Op.bytesLess x11.name x3.name)) :: .bool (!(Op.bytesLess x11.name x3.name)) :: .sl 3 (a0.map GTally.el) false :: .int .i64 x1 :: .ref x3.cs 0 :: .ref x3.cs 1 :: .int .i64 x3.count :: .bool (decide (x3.count < 1)) :: .bool (decide (x3.count < 1)) :: .bool (decide (x3.count < 1)) :: .sl 3 (a0.map GTally.el) false :: .int .i64 x1 :: .ref x3.cs 0 :: .ref x3.cs 1 :: .int .i64 x3.count :: .bool (decide (1000000000 < x3.count)) :: .bool (decide (1000000000 < x3.count)) :: .bool (decide (1000000000 < x3.count)) :: .tup [] :: .tup [] :: .tup [] :: .tup [] :: .tup [] :: .tup [] :: .bool true :: .bool true :: .tup [] :: .tup [] :: .tup [] :: .tup [] :: .tup [] :: .tup [] :: .bool true :: []))), ⟨lv + 1, L, E⟩, [], E⟩ [⟨25, [.str x3.name], ⟨lv + 1, L, E⟩, .bool y6, ⟨lv + 1, L, E⟩⟩] (by first | (simp -implicitDefEqProofs [GTally.cs, q4, q5, GTally.el_cs, hg9, hg10, q12, q13, GTally.el_cs, q4, q5, GTally.el_cs, hg15, q4, q5, GTally.el_cs, hg17, q4, q5, GTally.el_cs, hg18]; done) | simp -implicitDefEqProofs [GTally.cs, q4, q5, GTally.el_cs, hg9, hg10, q12, q13, GTally.el_cs, q4, q5, GTally.el_cs, hg15, q4, q5, GTally.el_cs, hg17, q4, q5, GTally.el_cs, hg18, hg9n, hg10n, hg15n, hg17n, hg18n]) (claims_cons (go_ref45_Named_ok _ _ _ q7 _) claims_nil) ?_
                      refine ⟨⟨.sl 3 (a0.map GTally.el) false :: an 2 (.int .i64 x1 :: an 65 (.bool true :: [])), ⟨lv + 1, L, E⟩, [], E⟩, weak_tmps ?_, n, by omega, true, L, hA, h, rfl⟩
                      (try simp only [an, List.map_cons, List.map_nil]); repeat (first | exact VLeL.nil | refine VLeL.cons (by first | exact VLe.refl _ | exact VLe.any _ | exact VLe.nil _ _ | exact VLe.full _ _ | (refine VLe.agg' ?_; repeat (first | exact VLeL.nil | refine VLeL.cons (by first | exact VLe.refl _ | exact VLe.any _ | exact VLe.nil _ _) ?_))) ?_)
                    · have h := ite_f hg19 h
                      have hg19n := hg19
                      try simp at hg19n
                      rcases Bool.eq_false_or_eq_true (decide (x3.volume < 0)) with hg20 | hg21
                      · have h := ite_t hg20 h
                        have hg20n := hg20
                        try simp at hg20n
                        refine satO_drw (by kernel_rfl) (by kernel_rfl) [.bool y6] ⟨.sl 3 (a0.map GTally.el) false :: an 2 (.int .i64 x1 :: an 3 (.int .i64 x1 :: .sl 3 (a0.map GTally.el) false :: .int .i64 (a0.length : Int) :: .bool (decide (x1 < (a0.length : Int))) :: an 2 (.sl 3 (a0.map GTally.el) false :: .int .i64 x1 :: .ref x3.cs 0 :: .ref x3.cs 0 :: .str x3.name :: .bool y6 :: .bool (!y6) :: .bool (!y6) :: .int .i64 x1 :: .bool (decide (0 < x1)) :: .bool (decide (0 < x1)) :: .sl 3 (a0.map GTally.el) false :: .int .i64 x1 :: .int .i64 (IntKind.i64.wrap (x1 - 1)) :: .ref x11.cs 0 :: .ref x11.cs 0 :: .str x11.name :: .sl 3 (a0.map GTally.el) false :: .int .i64 x1 :: .ref x3.cs 0 :: .ref x3.cs 0 :: .str x3.name :: .bool (!(Op.bytesLess x11.name x3.name)) :: .bool (!(Op.bytesLess x11.name x3.name)) :: .bool (!(Op.bytesLess x11.name x3.name)) :: .bool (!(Op.bytesLess x11.name x3.name)) :: .sl 3 (a0.map GTally.el) false :: .int .i64 x1 :: .ref x3.cs 0 :: .ref x3.cs 1 :: .int .i64 x3.count :: .bool (decide (x3.count < 1)) :: .bool (decide (x3.count < 1)) :: .bool (decide (x3.count < 1)) :: .sl 3 (a0.map GTally.el) false :: .int .i64 x1 :: .ref x3.cs 0 :: .ref x3.cs 1 :: .int .i64 x3.count :: .bool (decide (1000000000 < x3.count)) :: .bool (decide (1000000000 < x3.count)) :: .bool (decide (1000000000 < x3.count)) :: .sl 3 (a0.map GTally.el) false :: .int .i64 x1 :: .ref x3.cs 0 :: .ref x3.cs 2 :: .int .i64 x3.volume :: .bool (decide (x3.volume < 0)) :: .bool (decide (x3.volume < 0)) :: .bool (decide (x3.volume < 0)) :: .tup [] :: .tup [] :: .tup [] :: .tup [] :: .tup [] :: .tup [] :: .bool true :: []))), ⟨lv + 1, L, E⟩, [], E⟩ [⟨25, [.str x3.name], ⟨lv + 1, L, E⟩, .bool y6, ⟨lv + 1, L, E⟩⟩] (by first | (simp -implicitDefEqProofs [GTally.cs, q4, q5, GTally.el_cs, hg9, hg10, q12, q13, GTally.el_cs, q4, q5, GTally.el_cs, hg15, q4, q5, GTally.el_cs, hg17, q4, q5, GTally.el_cs, hg19, q4, q5, GTally.el_cs, hg20]; done) | simp -implicitDefEqProofs [GTally.cs, q4, q5, GTally.el_cs, hg9, hg10, q12, q13, GTally.el_cs, q4, q5, GTally.el_cs, hg15, q4, q5, GTally.el_cs, hg17, q4, q5, GTally.el_cs, hg19, q4, q5, GTally.el_cs, hg20, hg9n, hg10n, hg15n, hg17n, hg19n, hg20n]) (claims_cons (go_ref45_Named_ok _ _ _ q7 _) claims_nil) ?_
                        refine ⟨⟨.sl 3 (a0.map GTally.el) false :: an 2 (.int .i64 x1 :: an 65 (.bool true :: [])), ⟨lv + 1, L, E⟩, [], E⟩, weak_tmps ?_, n, by omega, true, L, hA, h, rfl⟩
                        (try simp only [an, List.map_cons, List.map_nil]); repeat (first | exact VLeL.nil | refine VLeL.cons (by first | exact VLe.refl _ | exact VLe.any _ | exact VLe.nil _ _ | exact VLe.full _ _ | (refine VLe.agg' ?_; repeat (first | exact VLeL.nil | refine VLeL.cons (by first | exact VLe.refl _ | exact VLe.any _ | exact VLe.nil _ _) ?_))) ?_)
                      · have h := ite_f hg21 h
                        have hg21n := hg21
                        try simp at hg21n
                        refine satO_drw (by kernel_rfl) (by kernel_rfl) [.bool y6] ⟨.sl 3 (a0.map GTally.el) false :: an 2 (.int .i64 x1 :: an 3 (.int .i64 x1 :: .sl 3 (a0.map GTally.el) false :: .int .i64 (a0.length : Int) :: .bool (decide (x1 < (a0.length : Int))) :: an 2 (.sl 3 (a0.map GTally.el) false :: .int .i64 x1 :: .ref x3.cs 0 :: .ref x3.cs 0 :: .str x3.name :: .bool y6 :: .bool (!y6) :: .bool (!y6) :: .int .i64 x1 :: .bool (decide (0 < x1)) :: .bool (decide (0 < x1)) :: .sl 3 (a0.map GTally.el) false :: .int .i64 x1 :: .int .i64 (IntKind.i64.wrap (x1 - 1)) :: .ref x11.cs 0 :: .ref x11.cs 0 :: .str x11.name :: .sl 3 (a0.map GTally.el) false :: .int .i64 x1 :: .ref x3.cs 0 :: .ref x3.cs 0 :: .str x3.name :: .bool (!(Op.bytesLess x11.name x3.name)) :: .bool (!(Op.bytesLess x11.name x3.name)) :: .bool (!(Op.bytesLess x11.name x3.name)) :: .bool (!(Op.bytesLess x11.name x3.name)) :: .sl 3 (a0.map GTally.el) false :: .int .i64 x1 :: .ref x3.cs 0 :: .ref x3.cs 1 :: .int .i64 x3.count :: .bool (decide (x3.count < 1)) :: .bool (decide (x3.count < 1)) :: .bool (decide (x3.count < 1)) :: .sl 3 (a0.map GTally.el) false :: .int .i64 x1 :: .ref x3.cs 0 :: .ref x3.cs 1 :: .int .i64 x3.count :: .bool (decide (1000000000 < x3.count)) :: .bool (decide (1000000000 < x3.count)) :: .bool (decide (1000000000 < x3.count)) :: .sl 3 (a0.map GTally.el) false :: .int .i64 x1 :: .ref x3.cs 0 :: .ref x3.cs 2 :: .int .i64 x3.volume :: .bool (decide (x3.volume < 0)) :: .bool (decide (x3.volume < 0)) :: .bool (decide (x3.volume < 0)) :: .sl 3 (a0.map GTally.el) false :: .int .i64 x1 :: .ref x3.cs 0 :: .ref x3.cs 2 :: .int .i64 x3.volume :: .bool (decide (1000000000000000000 < x3.volume)) :: .bool (decide (1000000000000000000 < x3.volume)) :: []))), ⟨lv + 1, L, E⟩, [], E⟩ [⟨25, [.str x3.name], ⟨lv + 1, L, E⟩, .bool y6, ⟨lv + 1, L, E⟩⟩] (by first | (simp -implicitDefEqProofs [GTally.cs, q4, q5, GTally.el_cs, hg9, hg10, q12, q13, GTally.el_cs, q4, q5, GTally.el_cs, hg15, q4, q5, GTally.el_cs, hg17, q4, q5, GTally.el_cs, hg19, q4, q5, GTally.el_cs, hg21, q4, q5, GTally.el_cs]; done) | simp -implicitDefEqProofs [GTally.cs, q4, q5, GTally.el_cs, hg9, hg10, q12, q13, GTally.el_cs, q4, q5, GTally.el_cs, hg15, q4, q5, GTally.el_cs, hg17, q4, q5, GTally.el_cs, hg19, q4, q5, GTally.el_cs, hg21, q4, q5, GTally.el_cs, hg9n, hg10n, hg15n, hg17n, hg19n, hg21n]) (claims_cons (go_ref45_Named_ok _ _ _ q7 _) claims_nil) ?_
                        refine ⟨⟨.sl 3 (a0.map GTally.el) false :: an 2 (.int .i64 x1 :: an 65 (.bool (decide (1000000000000000000 < x3.volume)) :: [])), ⟨lv + 1, L, E⟩, [], E⟩, weak_tmps ?_, n, by omega, (decide (1000000000000000000 < x3.volume)), L, hA, h, rfl⟩
                        (try simp only [an, List.map_cons, List.map_nil]); repeat (first | exact VLeL.nil | refine VLeL.cons (by first | exact VLe.refl _ | exact VLe.any _ | exact VLe.nil _ _ | exact VLe.full _ _ | (refine VLe.agg' ?_; repeat (first | exact VLeL.nil | refine VLeL.cons (by first | exact VLe.refl _ | exact VLe.any _ | exact VLe.nil _ _) ?_))) ?_)
              · have h := ite_f hg22 h
                have hg22n := hg22
                try simp at hg22n
                rcases Bool.eq_false_or_eq_true (decide (x3.count < 1)) with hg23 | hg24
                · have h := ite_t hg23 h
                  have hg23n := hg23
                  try simp at hg23n
                  refine satO_drw (by kernel_rfl) (by kernel_rfl) [.bool y6] ⟨.sl 3 (a0.map GTally.el) false :: an 2 (.int .i64 x1 :: an 3 (.int .i64 x1 :: .sl 3 (a0.map GTally.el) false :: .int .i64 (a0.length : Int) :: .bool (decide (x1 < (a0.length : Int))) :: an 2 (.sl 3 (a0.map GTally.el) false :: .int .i64 x1 :: .ref x3.cs 0 :: .ref x3.cs 0 :: .str x3.name :: .bool y6 :: .bool (!y6) :: .bool (!y6) :: .int .i64 x1 :: .bool (decide (0 < x1)) :: .bool (decide (0 < x1)) :: .tup [] :: .tup [] :: .tup [] :: .tup [] :: .tup [] :: .tup [] :: .tup [] :: .tup [] :: .tup [] :: .tup [] :: .tup [] :: .tup [] :: .bool false :: .bool false :: .bool false :: .sl 3 (a0.map GTally.el) false :: .int .i64 x1 :: .ref x3.cs 0 :: .ref x3.cs 1 :: .int .i64 x3.count :: .bool (decide (x3.count < 1)) :: .bool (decide (x3.count < 1)) :: .bool (decide (x3.count < 1)) :: .tup [] :: .tup [] :: .tup [] :: .tup [] :: .tup [] :: .tup [] :: .bool true :: .bool true :: .tup [] :: .tup [] :: .tup [] :: .tup [] :: .tup [] :: .tup [] :: .bool true :: .bool true :: .tup [] :: .tup [] :: .tup [] :: .tup [] :: .tup [] :: .tup [] :: .bool true :: []))), ⟨lv + 1, L, E⟩, [], E⟩ [⟨25, [.str x3.name], ⟨lv + 1, L, E⟩, .bool y6, ⟨lv + 1, L, E⟩⟩] (by first | (simp -implicitDefEqProofs [GTally.cs, q4, q5, GTally.el_cs, hg9, hg22, q4, q5, GTally.el_cs, hg23]; done) | simp -implicitDefEqProofs [GTally.cs, q4, q5, GTally.el_cs, hg9, hg22, q4, q5, GTally.el_cs, hg23, hg9n, hg22n, hg23n]) (claims_cons (go_ref45_Named_ok _ _ _ q7 _) claims_nil) ?_
                  refine ⟨⟨.sl 3 (a0.map GTally.el) false :: an 2 (.int .i64 x1 :: an 65 (.bool true :: [])), ⟨lv + 1, L, E⟩, [], E⟩, weak_tmps ?_, n, by omega, true, L, hA, h, rfl⟩
                  (try simp only [an, List.map_cons, List.map_nil]); repeat (first | exact VLeL.nil | refine VLeL.cons (by first | exact VLe.refl _ | exact VLe.any _ | exact VLe.nil _ _ | exact VLe.full _ _ | (refine VLe.agg' ?_; repeat (first | exact VLeL.nil | refine VLeL.cons (by first | exact VLe.refl _ | exact VLe.any _ | exact VLe.nil _ _) ?_))) ?_)
                · have h := ite_f hg24 h
                  have hg24n := hg24
                  try simp at hg24n
                  rcases Bool.eq_false_or_eq_true (decide (1000000000 < x3.count)) with hg25 | hg26
                  · have h := ite_t hg25 h
                    have hg25n := hg25
                    try simp at hg25n
                    refine satO_drw (by kernel_rfl) (by kernel_rfl) [.bool y6] ⟨.sl 3 (a0.map GTally.el) false :: an 2 (.int .i64 x1 :: an 3 (.int .i64 x1 :: .sl 3 (a0.map GTally.el) false :: .int .i64 (a0.length : Int) :: .bool (decide (x1 < (a0.length : Int))) :: an 2 (.sl 3 (a0.map GTally.el) false :: .int .i64 x1 :: .ref x3.cs 0 :: .ref x3.cs 0 :: .str x3.name :: .bool y6 :: .bool (!y6) :: .bool (!y6) :: .int .i64 x1 :: .bool (decide (0 < x1)) :: .bool (decide (0 < x1)) :: .tup [] :: .tup [] :: .tup [] :: .tup [] :: .tup [] :: .tup [] :: .tup [] :: .tup [] :: .tup [] :: .tup [] :: .tup [] :: .tup [] :: .bool false :: .bool false :: .bool false :: .sl 3 (a0.map GTally.el) false :: .int .i64 x1 :: .ref x3.cs 0 :: .ref x3.cs 1 :: .int .i64 x3.count :: .bool (decide (x3.count < 1)) :: .bool (decide (x3.count < 1)) :: .bool (decide (x3.count < 1)) :: .sl 3 (a0.map GTally.el) false :: .int .i64 x1 :: .ref x3.cs 0 :: .ref x3.cs 1 :: .int .i64 x3.count :: .bool (decide (1000000000 < x3.count)) :: .bool (decide (1000000000 < x3.count)) :: .bool (decide (1000000000 < x3.count)) :: .tup [] :: .tup [] :: .tup [] :: .tup [] :: .tup [] :: .tup [] :: .bool true :: .bool true :: .tup [] :: .tup [] :: .tup [] :: .tup [] :: .tup [] :: .tup [] :: .bool true :: []))), ⟨lv + 1, L, E⟩, [], E⟩ [⟨25, [.str x3.name], ⟨lv + 1, L, E⟩, .bool y6, ⟨lv + 1, L, E⟩⟩] (by first | (simp -implicitDefEqProofs [GTally.cs, q4, q5, GTally.el_cs, hg9, hg22, q4, q5, GTally.el_cs, hg24, q4, q5, GTally.el_cs, hg25]; done) | simp -implicitDefEqProofs [GTally.cs, q4, q5, GTally.el_cs, hg9, hg22, q4, q5, GTally.el_cs, hg24, q4, q5, GTally.el_cs, hg25, hg9n, hg22n, hg24n, hg25n]) (claims_cons (go_ref45_Named_ok _ _ _ q7 _) claims_nil) ?_
                    refine ⟨⟨.sl 3 (a0.map GTally.el) false :: an 2 (.int .i64 x1 :: an 65 (.bool true :: [])), ⟨lv + 1, L, E⟩, [], E⟩, weak_tmps ?_, n, by omega, true, L, hA, h, rfl⟩
                    (try simp only [an, List.map_cons, List.map_nil]); repeat (first | exact VLeL.nil | refine VLeL.cons (by first | exact VLe.refl _ | exact VLe.any _ | exact VLe.nil _ _ | exact VLe.full _ _ | (refine VLe.agg' ?_; repeat (first | exact VLeL.nil | refine VLeL.cons (by first | exact VLe.refl _ | exact VLe.any _ | exact VLe.nil _ _) ?_))) ?_)
                  · have h := ite_f hg26 h
                    have hg26n := hg26
                    try simp at hg26n
                    rcases Bool.eq_false_or_eq_true (decide (x3.volume < 0)) with hg27 | hg28
                    · have h := ite_t hg27 h
                      have hg27n := hg27
                      try simp at hg27n
                      refine satO_drw (by kernel_rfl) (by kernel_rfl) [.bool y6] ⟨.sl 3 (a0.map GTally.el) false :: an 2 (.int .i64 x1 :: an 3 (.int .i64 x1 :: .sl 3 (a0.map GTally.el) false :: .int .i64 (a0.length : Int) :: .bool (decide (x1 < (a0.length : Int))) :: an 2 (.sl 3 (a0.map GTally.el) false :: .int .i64 x1 :: .ref x3.cs 0 :: .ref x3.cs 0 :: .str x3.name :: .bool y6 :: .bool (!y6) :: .bool (!y6) :: .int .i64 x1 :: .bool (decide (0 < x1)) :: .bool (decide (0 < x1)) :: .tup [] :: .tup [] :: .tup [] :: .tup [] :: .tup [] :: .tup [] :: .tup [] :: .tup [] :: .tup [] :: .tup [] :: .tup [] :: .tup [] :: .bool false :: .bool false :: .bool false :: .sl 3 (a0.map GTally.el) false :: .int .i64 x1 :: .ref x3.cs 0 :: .ref x3.cs 1 :: .int .i64 x3.count :: .bool (decide (x3.count < 1)) :: .bool (decide (x3.count < 1)) :: .bool (decide (x3.count < 1)) :: .sl 3 (a0.map GTally.el) false :: .int .i64 x1 :: .ref x3.cs 0 :: .ref x3.cs 1 :: .int .i64 x3.count :: .bool (decide (1000000000 < x3.count)) :: .bool (decide (1000000000 < x3.count)) :: .bool (decide (1000000000 < x3.count)) :: .sl 3 (a0.map GTally.el) false :: .int .i64 x1 :: .ref x3.cs 0 :: .ref x3.cs 2 :: .int .i64 x3.volume :: .bool (decide (x3.volume < 0)) :: .bool (decide (x3.volume < 0)) :: .bool (decide (x3.volume < 0)) :: .tup [] :: .tup [] :: .tup [] :: .tup [] :: .tup [] :: .tup [] :: .bool true :: []))), ⟨lv + 1, L, E⟩, [], E⟩ [⟨25, [.str x3.name], ⟨lv + 1, L, E⟩, .bool y6, ⟨lv + 1, L, E⟩⟩] (by first | (simp -implicitDefEqProofs [GTally.cs, q4, q5, GTally.el_cs, hg9, hg22, q4, q5, GTally.el_cs, hg24, q4, q5, GTally.el_cs, hg26, q4, q5, GTally.el_cs, hg27]; done) | simp -implicitDefEqProofs [GTally.cs, q4, q5, GTally.el_cs, hg9, hg22, q4, q5, GTally.el_cs, hg24, q4, q5, GTally.el_cs, hg26, q4, q5, GTally.el_cs, hg27, hg9n, hg22n, hg24n, hg26n, hg27n]) (claims_cons (go_ref45_Named_ok _ _ _ q7 _) claims_nil) ?_
                      refine ⟨⟨.sl 3 (a0.map GTally.el) false :: an 2 (.int .i64 x1 :: an 65 (.bool true :: [])), ⟨lv + 1, L, E⟩, [], E⟩, weak_tmps ?_, n, by omega, true, L, hA, h, rfl⟩
                      (try simp only [an, List.map_cons, List.map_nil]); repeat (first | exact VLeL.nil | refine VLeL.cons (by first | exact VLe.refl _ | exact VLe.any _ | exact VLe.nil _ _ | exact VLe.full _ _ | (refine VLe.agg' ?_; repeat (first | exact VLeL.nil | refine VLeL.cons (by first | exact VLe.refl _ | exact VLe.any _ | exact VLe.nil _ _) ?_))) ?_)
                    · have h := ite_f hg28 h
                      have hg28n := hg28
                      try simp at hg28n
                      refine satO_drw (by kernel_rfl) (by kernel_rfl) [.bool y6] ⟨.sl 3 (a0.map GTally.el) false :: an 2 (.int .i64 x1 :: an 3 (.int .i64 x1 :: .sl 3 (a0.map GTally.el) false :: .int .i64 (a0.length : Int) :: .bool (decide (x1 < (a0.length : Int))) :: an 2 (.sl 3 (a0.map GTally.el) false :: .int .i64 x1 :: .ref x3.cs 0 :: .ref x3.cs 0 :: .str x3.name :: .bool y6 :: .bool (!y6) :: .bool (!y6) :: .int .i64 x1 :: .bool (decide (0 < x1)) :: .bool (decide (0 < x1)) :: .tup [] :: .tup [] :: .tup [] :: .tup [] :: .tup [] :: .tup [] :: .tup [] :: .tup [] :: .tup [] :: .tup [] :: .tup [] :: .tup [] :: .bool false :: .bool false :: .bool false :: .sl 3 (a0.map GTally.el) false :: .int .i64 x1 :: .ref x3.cs 0 :: .ref x3.cs 1 :: .int .i64 x3.count :: .bool (decide (x3.count < 1)) :: .bool (decide (x3.count < 1)) :: .bool (decide (x3.count < 1)) :: .sl 3 (a0.map GTally.el) false :: .int .i64 x1 :: .ref x3.cs 0 :: .ref x3.cs 1 :: .int .i64 x3.count :: .bool (decide (1000000000 < x3.count)) :: .bool (decide (1000000000 < x3.count)) :: .bool (decide (1000000000 < x3.count)) :: .sl 3 (a0.map GTally.el) false :: .int .i64 x1 :: .ref x3.cs 0 :: .ref x3.cs 2 :: .int .i64 x3.volume :: .bool (decide (x3.volume < 0)) :: .bool (decide (x3.volume < 0)) :: .bool (decide (x3.volume < 0)) :: .sl 3 (a0.map GTally.el) false :: .int .i64 x1 :: .ref x3.cs 0 :: .ref x3.cs 2 :: .int .i64 x3.volume :: .bool (decide (1000000000000000000 < x3.volume)) :: .bool (decide (1000000000000000000 < x3.volume)) :: []))), ⟨lv + 1, L, E⟩, [], E⟩ [⟨25, [.str x3.name], ⟨lv + 1, L, E⟩, .bool y6, ⟨lv + 1, L, E⟩⟩] (by first | (simp -implicitDefEqProofs [GTally.cs, q4, q5, GTally.el_cs, hg9, hg22, q4, q5, GTally.el_cs, hg24, q4, q5, GTally.el_cs, hg26, q4, q5, GTally.el_cs, hg28, q4, q5, GTally.el_cs]; done) | simp -implicitDefEqProofs [GTally.cs, q4, q5, GTally.el_cs, hg9, hg22, q4, q5, GTally.el_cs, hg24, q4, q5, GTally.el_cs, hg26, q4, q5, GTally.el_cs, hg28, q4, q5, GTally.el_cs, hg9n, hg22n, hg24n, hg26n, hg28n]) (claims_cons (go_ref45_Named_ok _ _ _ q7 _) claims_nil) ?_
                      refine ⟨⟨.sl 3 (a0.map GTally.el) false :: an 2 (.int .i64 x1 :: an 65 (.bool (decide (1000000000000000000 < x3.volume)) :: [])), ⟨lv + 1, L, E⟩, [], E⟩, weak_tmps ?_, n, by omega, (decide (1000000000000000000 < x3.volume)), L, hA, h, rfl⟩
                      (try simp only [an, List.map_cons, List.map_nil]); repeat (first | exact VLeL.nil | refine VLeL.cons (by first | exact VLe.refl _ | exact VLe.any _ | exact VLe.nil _ _ | exact VLe.full _ _ | (refine VLe.agg' ?_; repeat (first | exact VLeL.nil | refine VLeL.cons (by first | exact VLe.refl _ | exact VLe.any _ | exact VLe.nil _ _) ?_))) ?_)
          · rintro σ0 σ hw ⟨k, hk, x2, L, hA, h, rfl⟩
            rcases k with _ | n
            · simp [go_ref45_Check_J1] at h
            · rw [go_ref45_Check_J1] at h
              refine sat_weak hw ?_
              repeat refine sat_seq ?_
              refine sat_cond rfl (fun hb => ?_) (fun hb => ?_)
              · have h := ite_t hb h
                repeat refine sat_seq ?_
                refine satO_reg ?_
                refine satO_step 1 [] ⟨.sl 3 (a0.map GTally.el) false :: an 1 (.int .i64 8 :: .int .i64 x1 :: an 65 (.bool x2 :: [])), ⟨lv + 1, L, E⟩, [], E⟩ [] (by simp -implicitDefEqProofs [GTally.cs]) claims_nil ?_
                refine satO_nil (by simp) ?_
                repeat refine sat_seq ?_
                refine sat_ret ?_
                refine ends (v := .int .i64 8) (by simp [resultsV, resL, resV, tupOf, Try.f11, pLoad, GTally.cs]) rfl rfl ?_
                injection h with h
                subst h
                exact (.keep _ (by simp [V.kin, V.kinL, GTally.cs]))
              · have h := ite_f hb h
                repeat refine sat_seq ?_
                refine sat_skip ?_
                repeat refine sat_seq ?_
                refine satO_reg ?_
                refine satO_step 3 [] ⟨.sl 3 (a0.map GTally.el) false :: an 2 (.int .i64 (IntKind.i64.wrap (x1 + 1)) :: an 7 (.int .i64 x1 :: .int .i64 (IntKind.i64.wrap (x1 + 1)) :: an 56 (.bool x2 :: []))), ⟨lv + 1, L, E⟩, [], E⟩ [] (by simp -implicitDefEqProofs [GTally.cs]) claims_nil ?_
                refine satO_nil (by simp) ?_
                refine ⟨n, ⟨.sl 3 (a0.map GTally.el) false :: an 2 (.int .i64 (IntKind.i64.wrap (x1 + 1)) :: an 66 []), ⟨lv + 1, L, E⟩, [], E⟩, weak_tmps ?_, ⟨(IntKind.i64.wrap (x1 + 1)), L, by omega, hA, h, rfl⟩, by omega⟩
                (try simp only [an, List.map_cons, List.map_nil]); repeat (first | exact VLeL.nil | refine VLeL.cons (by first | exact VLe.refl _ | exact VLe.any _ | exact VLe.nil _ _ | exact VLe.full _ _ | (refine VLe.agg' ?_; repeat (first | exact VLeL.nil | refine VLeL.cons (by first | exact VLe.refl _ | exact VLe.any _ | exact VLe.nil _ _) ?_))) ?_)
        · have h := ite_f hb h
          repeat refine sat_seq ?_
          refine sat_exit ?_
          repeat refine sat_seq ?_
          refine satO_reg ?_
          refine satO_step 1 [] ⟨.sl 3 (a0.map GTally.el) false :: an 1 (.int .i64 0 :: .int .i64 x1 :: an 3 (.int .i64 x1 :: .sl 3 (a0.map GTally.el) false :: .int .i64 (a0.length : Int) :: .bool (decide (x1 < (a0.length : Int))) :: an 59 [])), ⟨lv + 1, L, E⟩, [], E⟩ [] (by simp -implicitDefEqProofs [GTally.cs]) claims_nil ?_
          refine satO_nil (by simp) ?_
          repeat refine sat_seq ?_
          refine sat_ret ?_
          refine ends (v := .int .i64 0) (by simp [resultsV, resL, resV, tupOf, Try.f11, pLoad, GTally.cs]) rfl rfl ?_
          injection h with h
          subst h
          exact (.keep _ (by simp [V.kin, V.kinL, GTally.cs]))
end Go.Proofs
