/-
  The Go functions compute what their Lean functions do, by a program of this repo.
-/
import Derived.Test.YtabknpjajioneaaFns
import Derived.Test.YtabknpjajioneaaFacts
import Derived.Test.YtabknpjajioneaaAbSimp
namespace Go.Proofs
open Go Go.Ab
set_option maxRecDepth 10000
set_option maxHeartbeats 1000000
set_option linter.unusedSimpArgs false
set_option linter.unusedVariables false
theorem go_ref03_great_ok : ∀ n : Nat, (∀ (a0 : GValue) (a1 : Int) (r : Bool), go_ref03_great n a0 a1 = some r → PCall Try.prog 58 [.agg a0.cs, .int .i64 a1] (.bool r)) := by
  intro n; induction n using Nat.strongRecOn with | ind n ih =>
  intro a0 a1 r h
  rcases n with _ | n
  · simp [go_ref03_great] at h
  rw [go_ref03_great] at h
  refine pcall_of Try.func58 rfl Try.ntmps58 (fun _ _ => Try.call58 _ _) fun lv E => ?_
  simp only [List.length_cons, List.length_nil, Nat.reduceAdd, Nat.reduceSub, List.replicate, List.cons_append, List.nil_append]
  have hA := AccG.nil (lv + 1)
  generalize ([] : List (Option AObj)) = L at hA ⊢
  repeat refine sat_seq ?_
  refine satO_reg ?_
  refine satO_step 1 [] ⟨.agg a0.cs :: .int .i64 a1 :: .ptr (lv + 1) L.length 0 :: an 32 [], ⟨lv + 1, (L ++ [some (.cells a0.cs)]), E⟩, [], E⟩ [] (by simp -implicitDefEqProofs [GValue.cs]) claims_nil ?_
  have hA : AccG (lv + 1) (L ++ [some (.cells a0.cs)]) [] [(L.length, .cells a0.cs)] := hA.obj _
  generalize L.length = i2 at hA ⊢
  generalize (L ++ [some (.cells a0.cs)]) = L at hA ⊢
  have g0 := hA.get (k := 0) rfl
  refine satO_step 1 [] ⟨.agg a0.cs :: .int .i64 a1 :: .ptr (lv + 1) i2 0 :: an 1 (.bool false :: an 30 []), ⟨lv + 1, L, E⟩, [], E⟩ [] (by simp -implicitDefEqProofs [GValue.cs, g0]) claims_nil ?_
  refine satO_nil ?_
  repeat refine sat_seq ?_
  refine sat_meet (fun σ => ∃ (k : Nat), k ≤ n ∧ ∃ (x3 : Bool) (L : List (Option AObj)), AccG (lv + 1) L [] [(i2, .cells a0.cs)] ∧ go_ref03_great_J1 k a0 a1 x3 = some r ∧ σ = ⟨an 1 (.int .i64 a1 :: .ptr (lv + 1) i2 0 :: an 16 (.bool x3 :: an 15 [])), ⟨lv + 1, L, E⟩, [], E⟩) ?_ ?_
  · refine satO_reg ?_
    rcases Bool.eq_false_or_eq_true (a1 == 0) with hg4 | hg5
    · have h := ite_t hg4 h
      have g0 := hA.get (k := 0) rfl
      refine satO_step 14 [] ⟨.agg a0.cs :: .int .i64 a1 :: .ptr (lv + 1) i2 0 :: an 1 (.bool false :: an 1 (.int .i64 a1 :: .bool (a1 == 0) :: .bool (a1 == 0) :: .tup [] :: .tup [] :: .tup [] :: .tup [] :: .bool true :: .bool true :: .tup [] :: .tup [] :: .tup [] :: .tup [] :: .bool true :: an 15 [])), ⟨lv + 1, L, E⟩, [], E⟩ [] (by simp -implicitDefEqProofs [GValue.cs, g0, hg4]) claims_nil ?_
      refine satO_nil ?_
      refine ⟨⟨an 1 (.int .i64 a1 :: .ptr (lv + 1) i2 0 :: an 16 (.bool true :: an 15 [])), ⟨lv + 1, L, E⟩, [], E⟩, weak_tmps ?_, n, by omega, true, L, hA, h, rfl⟩
      (try simp only [an]); repeat (first | exact VLeL.nil | refine VLeL.cons (by first | exact VLe.refl _ | exact VLe.any _ | exact VLe.nil _ _ | (refine VLe.agg' ?_; repeat (first | exact VLeL.nil | refine VLeL.cons (by first | exact VLe.refl _ | exact VLe.any _ | exact VLe.nil _ _) ?_))) ?_)
    · have h := ite_f hg5 h
      rcases Bool.eq_false_or_eq_true (decide (200 < (a0.str.length : Int))) with hg6 | hg7
      · have h := ite_t hg6 h
        have g0 := hA.get (k := 0) rfl
        refine satO_step 14 [] ⟨.agg a0.cs :: .int .i64 a1 :: .ptr (lv + 1) i2 0 :: an 1 (.bool false :: an 1 (.int .i64 a1 :: .bool (a1 == 0) :: .bool (a1 == 0) :: .ptr (lv + 1) i2 4 :: .str a0.str :: .int .i64 (a0.str.length : Int) :: .bool (decide (200 < (a0.str.length : Int))) :: .bool (decide (200 < (a0.str.length : Int))) :: .bool (decide (200 < (a0.str.length : Int))) :: .tup [] :: .tup [] :: .tup [] :: .tup [] :: .bool true :: an 15 [])), ⟨lv + 1, L, E⟩, [], E⟩ [] (by simp -implicitDefEqProofs [GValue.cs, g0, hg5, hg6]) claims_nil ?_
        refine satO_nil ?_
        refine ⟨⟨an 1 (.int .i64 a1 :: .ptr (lv + 1) i2 0 :: an 16 (.bool true :: an 15 [])), ⟨lv + 1, L, E⟩, [], E⟩, weak_tmps ?_, n, by omega, true, L, hA, h, rfl⟩
        (try simp only [an]); repeat (first | exact VLeL.nil | refine VLeL.cons (by first | exact VLe.refl _ | exact VLe.any _ | exact VLe.nil _ _ | (refine VLe.agg' ?_; repeat (first | exact VLeL.nil | refine VLeL.cons (by first | exact VLe.refl _ | exact VLe.any _ | exact VLe.nil _ _) ?_))) ?_)
      · have h := ite_f hg7 h
        have g0 := hA.get (k := 0) rfl
        refine satO_step 14 [] ⟨.agg a0.cs :: .int .i64 a1 :: .ptr (lv + 1) i2 0 :: an 1 (.bool false :: an 1 (.int .i64 a1 :: .bool (a1 == 0) :: .bool (a1 == 0) :: .ptr (lv + 1) i2 4 :: .str a0.str :: .int .i64 (a0.str.length : Int) :: .bool (decide (200 < (a0.str.length : Int))) :: .bool (decide (200 < (a0.str.length : Int))) :: .bool (decide (200 < (a0.str.length : Int))) :: .ptr (lv + 1) i2 5 :: .sl 6 (a0.list.map GValue.el) false :: .int .i64 (a0.list.length : Int) :: .bool (decide (150 < (a0.list.length : Int))) :: .bool (decide (150 < (a0.list.length : Int))) :: an 15 [])), ⟨lv + 1, L, E⟩, [], E⟩ [] (by simp -implicitDefEqProofs [GValue.cs, g0, hg5, hg7]) claims_nil ?_
        refine satO_nil ?_
        refine ⟨⟨an 1 (.int .i64 a1 :: .ptr (lv + 1) i2 0 :: an 16 (.bool (decide (150 < (a0.list.length : Int))) :: an 15 [])), ⟨lv + 1, L, E⟩, [], E⟩, weak_tmps ?_, n, by omega, (decide (150 < (a0.list.length : Int))), L, hA, h, rfl⟩
        (try simp only [an]); repeat (first | exact VLeL.nil | refine VLeL.cons (by first | exact VLe.refl _ | exact VLe.any _ | exact VLe.nil _ _ | (refine VLe.agg' ?_; repeat (first | exact VLeL.nil | refine VLeL.cons (by first | exact VLe.refl _ | exact VLe.any _ | exact VLe.nil _ _) ?_))) ?_)
  · rintro σ0 σ hw ⟨k, hk, x3, L, hA, h, rfl⟩
    rcases k with _ | n
    · simp [go_ref03_great_J1] at h
    · rw [go_ref03_great_J1] at h
      refine sat_weak hw ?_
      repeat refine sat_seq ?_
      refine sat_cond rfl (fun hb => ?_) (fun hb => ?_)
      · have h := ite_t hb h
        repeat refine sat_seq ?_
        refine satO_reg ?_
        have g0 := hA.get (k := 0) rfl
        refine satO_step 1 [] ⟨an 1 (.int .i64 a1 :: .ptr (lv + 1) i2 0 :: an 1 (.bool true :: an 14 (.bool x3 :: an 15 []))), ⟨lv + 1, L, E⟩, [], E⟩ [] (by simp -implicitDefEqProofs [GValue.cs, g0]) claims_nil ?_
        refine satO_nil ?_
        repeat refine sat_seq ?_
        refine sat_ret ?_
        have g0 := hA.get (k := 0) rfl
        refine ends (v := .bool true) (by simp [resultsV, resL, resV, tupOf, Try.f58, pLoad, g0, GValue.cs]) rfl rfl ?_
        injection h with h
        subst h
        exact (.keep _ (by simp [V.kin, V.kinL, GValue.cs]))
      · have h := ite_f hb h
        repeat refine sat_seq ?_
        refine sat_skip ?_
        repeat refine sat_seq ?_
        refine satO_reg ?_
        have g0 := hA.get (k := 0) rfl
        refine satO_step 1 [] ⟨an 1 (.int .i64 a1 :: .ptr (lv + 1) i2 0 :: an 2 (.int .i64 0 :: an 13 (.bool x3 :: an 15 []))), ⟨lv + 1, L, E⟩, [], E⟩ [] (by simp -implicitDefEqProofs [GValue.cs, g0]) claims_nil ?_
        refine satO_nil ?_
        repeat refine sat_seq ?_
        refine sat_block ?_
        repeat refine sat_seq ?_
        refine sat_loop (fun k σ => ∃ (x8 : Int) (L : List (Option AObj)), k ≤ n ∧ AccG (lv + 1) L [] [(i2, .cells a0.cs)] ∧ go_ref03_great_L1 k a0 a1 x8 = some r ∧ σ = ⟨an 1 (.int .i64 a1 :: .ptr (lv + 1) i2 0 :: an 2 (.int .i64 x8 :: an 29 [])), ⟨lv + 1, L, E⟩, [], E⟩) n ⟨an 1 (.int .i64 a1 :: .ptr (lv + 1) i2 0 :: an 2 (.int .i64 0 :: an 29 [])), ⟨lv + 1, L, E⟩, [], E⟩ (weak_tmps ?_) ⟨0, L, Nat.le_refl _, hA, h, rfl⟩ ?_
        · (try simp only [an]); repeat (first | exact VLeL.nil | refine VLeL.cons (by first | exact VLe.refl _ | exact VLe.any _ | exact VLe.nil _ _ | (refine VLe.agg' ?_; repeat (first | exact VLeL.nil | refine VLeL.cons (by first | exact VLe.refl _ | exact VLe.any _ | exact VLe.nil _ _) ?_))) ?_)
        · rintro k σ ⟨x8, L, hk, hA, h, rfl⟩
          rcases k with _ | n
          · simp [go_ref03_great_L1] at h
          · rw [go_ref03_great_L1] at h
            repeat refine sat_seq ?_
            refine satO_reg ?_
            have g0 := hA.get (k := 0) rfl
            refine satO_step 5 [] ⟨an 1 (.int .i64 a1 :: .ptr (lv + 1) i2 0 :: an 2 (.int .i64 x8 :: an 14 (.int .i64 x8 :: .ptr (lv + 1) i2 5 :: .sl 6 (a0.list.map GValue.el) false :: .int .i64 (a0.list.length : Int) :: .bool (decide (x8 < (a0.list.length : Int))) :: an 10 []))), ⟨lv + 1, L, E⟩, [], E⟩ [] (by simp -implicitDefEqProofs [GValue.cs, g0]) claims_nil ?_
            refine satO_nil ?_
            repeat refine sat_seq ?_
            refine sat_cond rfl (fun hb => ?_) (fun hb => ?_)
            · have h := ite_t hb h
              repeat refine sat_seq ?_
              refine sat_skip ?_
              repeat refine sat_seq ?_
              refine sat_block ?_
              repeat refine sat_seq ?_
              refine satO_reg ?_
              obtain ⟨x9, q10, h⟩ := bnd_hi h
              obtain ⟨q10, q11⟩ := ix_some q10
              obtain ⟨y12, q13, h⟩ := bnd_hi h
              have g0 := hA.get (k := 0) rfl
              refine satO_step 8 [(.bool y12, none)] ⟨an 1 (.int .i64 a1 :: .ptr (lv + 1) i2 0 :: an 2 (.int .i64 x8 :: an 14 (.int .i64 x8 :: .ptr (lv + 1) i2 5 :: .sl 6 (a0.list.map GValue.el) false :: .int .i64 (a0.list.length : Int) :: .bool (decide (x8 < (a0.list.length : Int))) :: an 2 (.ptr (lv + 1) i2 5 :: .sl 6 (a0.list.map GValue.el) false :: .int .i64 x8 :: .ref x9.cs 0 :: .agg x9.cs :: .int .i64 a1 :: .int .i64 (IntKind.i64.wrap (a1 - 1)) :: .bool y12 :: [])))), ⟨lv + 1, L, E⟩, [], E⟩ [⟨58, [.agg x9.cs, .int .i64 (IntKind.i64.wrap (a1 - 1))], ⟨lv + 1, L, E⟩, .bool y12, ⟨lv + 1, L, E⟩⟩] (by simp -implicitDefEqProofs [GValue.cs, g0, q10, q11, GValue.el_cs]) (claims_cons (ih _ (by omega) _ _ _ q13 _) claims_nil) ?_
              refine satO_nil ?_
              repeat refine sat_seq ?_
              refine sat_cond rfl (fun hb => ?_) (fun hb => ?_)
              · have h := ite_t hb h
                repeat refine sat_seq ?_
                refine satO_reg ?_
                have g0 := hA.get (k := 0) rfl
                refine satO_step 1 [] ⟨an 1 (.int .i64 a1 :: .ptr (lv + 1) i2 0 :: an 1 (.bool true :: .int .i64 x8 :: an 14 (.int .i64 x8 :: .ptr (lv + 1) i2 5 :: .sl 6 (a0.list.map GValue.el) false :: .int .i64 (a0.list.length : Int) :: .bool (decide (x8 < (a0.list.length : Int))) :: an 2 (.ptr (lv + 1) i2 5 :: .sl 6 (a0.list.map GValue.el) false :: .int .i64 x8 :: .ref x9.cs 0 :: .agg x9.cs :: .int .i64 a1 :: .int .i64 (IntKind.i64.wrap (a1 - 1)) :: .bool y12 :: [])))), ⟨lv + 1, L, E⟩, [], E⟩ [] (by simp -implicitDefEqProofs [GValue.cs, g0]) claims_nil ?_
                refine satO_nil ?_
                repeat refine sat_seq ?_
                refine sat_ret ?_
                have g0 := hA.get (k := 0) rfl
                refine ends (v := .bool true) (by simp [resultsV, resL, resV, tupOf, Try.f58, pLoad, g0, GValue.cs]) rfl rfl ?_
                injection h with h
                subst h
                exact (.keep _ (by simp [V.kin, V.kinL, GValue.cs]))
              · have h := ite_f hb h
                repeat refine sat_seq ?_
                refine sat_skip ?_
                repeat refine sat_seq ?_
                refine satO_reg ?_
                have g0 := hA.get (k := 0) rfl
                refine satO_step 3 [] ⟨an 1 (.int .i64 a1 :: .ptr (lv + 1) i2 0 :: an 2 (.int .i64 (IntKind.i64.wrap (x8 + 1)) :: an 14 (.int .i64 x8 :: .ptr (lv + 1) i2 5 :: .sl 6 (a0.list.map GValue.el) false :: .int .i64 (a0.list.length : Int) :: .bool (decide (x8 < (a0.list.length : Int))) :: .int .i64 x8 :: .int .i64 (IntKind.i64.wrap (x8 + 1)) :: .ptr (lv + 1) i2 5 :: .sl 6 (a0.list.map GValue.el) false :: .int .i64 x8 :: .ref x9.cs 0 :: .agg x9.cs :: .int .i64 a1 :: .int .i64 (IntKind.i64.wrap (a1 - 1)) :: .bool y12 :: []))), ⟨lv + 1, L, E⟩, [], E⟩ [] (by simp -implicitDefEqProofs [GValue.cs, g0]) claims_nil ?_
                refine satO_nil ?_
                refine ⟨n, ⟨an 1 (.int .i64 a1 :: .ptr (lv + 1) i2 0 :: an 2 (.int .i64 (IntKind.i64.wrap (x8 + 1)) :: an 29 [])), ⟨lv + 1, L, E⟩, [], E⟩, weak_tmps ?_, ⟨(IntKind.i64.wrap (x8 + 1)), L, by omega, hA, h, rfl⟩, by omega⟩
                (try simp only [an]); repeat (first | exact VLeL.nil | refine VLeL.cons (by first | exact VLe.refl _ | exact VLe.any _ | exact VLe.nil _ _ | (refine VLe.agg' ?_; repeat (first | exact VLeL.nil | refine VLeL.cons (by first | exact VLe.refl _ | exact VLe.any _ | exact VLe.nil _ _) ?_))) ?_)
            · have h := ite_f hb h
              repeat refine sat_seq ?_
              refine sat_exit ?_
              repeat refine sat_seq ?_
              refine satO_reg ?_
              have g0 := hA.get (k := 0) rfl
              refine satO_step 1 [] ⟨an 1 (.int .i64 a1 :: .ptr (lv + 1) i2 0 :: an 1 (.bool false :: .int .i64 x8 :: an 14 (.int .i64 x8 :: .ptr (lv + 1) i2 5 :: .sl 6 (a0.list.map GValue.el) false :: .int .i64 (a0.list.length : Int) :: .bool (decide (x8 < (a0.list.length : Int))) :: an 10 []))), ⟨lv + 1, L, E⟩, [], E⟩ [] (by simp -implicitDefEqProofs [GValue.cs, g0]) claims_nil ?_
              refine satO_nil ?_
              repeat refine sat_seq ?_
              refine sat_ret ?_
              have g0 := hA.get (k := 0) rfl
              refine ends (v := .bool false) (by simp [resultsV, resL, resV, tupOf, Try.f58, pLoad, g0, GValue.cs]) rfl rfl ?_
              injection h with h
              subst h
              exact (.keep _ (by simp [V.kin, V.kinL, GValue.cs]))
end Go.Proofs

namespace Go.Proofs
open Go Go.Ab
set_option maxRecDepth 10000
set_option maxHeartbeats 1000000
set_option linter.unusedSimpArgs false
set_option linter.unusedVariables false
theorem go_ref03_Parts_ok : ∀ n : Nat, (∀ (a0 : GValue) (r : Int), go_ref03_Parts n a0 = some r → PCall Try.prog 59 [.agg a0.cs] (.int .i64 r)) := by
  intro n; induction n using Nat.strongRecOn with | ind n ih =>
  intro a0 r h
  rcases n with _ | n
  · simp [go_ref03_Parts] at h
  rw [go_ref03_Parts] at h
  refine pcall_of Try.func59 rfl Try.ntmps59 (fun _ _ => Try.call59 _ _) fun lv E => ?_
  simp only [List.length_cons, List.length_nil, Nat.reduceAdd, Nat.reduceSub, List.replicate, List.cons_append, List.nil_append]
  have hA := AccG.nil (lv + 1)
  generalize ([] : List (Option AObj)) = L at hA ⊢
  repeat refine sat_seq ?_
  refine satO_reg ?_
  refine satO_step 1 [] ⟨.agg a0.cs :: .ptr (lv + 1) L.length 0 :: an 24 [], ⟨lv + 1, (L ++ [some (.cells a0.cs)]), E⟩, [], E⟩ [] (by simp -implicitDefEqProofs [GValue.cs]) claims_nil ?_
  have hA : AccG (lv + 1) (L ++ [some (.cells a0.cs)]) [] [(L.length, .cells a0.cs)] := hA.obj _
  generalize L.length = i2 at hA ⊢
  generalize (L ++ [some (.cells a0.cs)]) = L at hA ⊢
  have g0 := hA.get (k := 0) rfl
  refine satO_step 1 [] ⟨.agg a0.cs :: .ptr (lv + 1) i2 0 :: .int .i64 0 :: an 23 [], ⟨lv + 1, L, E⟩, [], E⟩ [] (by simp -implicitDefEqProofs [GValue.cs, g0]) claims_nil ?_
  refine satO_nil ?_
  repeat refine sat_seq ?_
  refine satO_reg ?_
  have g0 := hA.get (k := 0) rfl
  refine satO_step 1 [] ⟨.agg a0.cs :: .ptr (lv + 1) i2 0 :: .int .i64 0 :: .int .i64 1 :: an 22 [], ⟨lv + 1, L, E⟩, [], E⟩ [] (by simp -implicitDefEqProofs [GValue.cs, g0]) claims_nil ?_
  refine satO_nil ?_
  repeat refine sat_seq ?_
  refine satO_reg ?_
  have g0 := hA.get (k := 0) rfl
  refine satO_step 1 [] ⟨.agg a0.cs :: .ptr (lv + 1) i2 0 :: .int .i64 0 :: .int .i64 1 :: .int .i64 0 :: an 21 [], ⟨lv + 1, L, E⟩, [], E⟩ [] (by simp -implicitDefEqProofs [GValue.cs, g0]) claims_nil ?_
  refine satO_nil ?_
  repeat refine sat_seq ?_
  refine sat_block ?_
  repeat refine sat_seq ?_
  refine sat_loop (fun k σ => ∃ (x3 : Int) (x4 : Int) (L : List (Option AObj)), k ≤ n ∧ AccG (lv + 1) L [] [(i2, .cells a0.cs)] ∧ go_ref03_Parts_L1 k a0 x3 x4 = some r ∧ σ = ⟨an 1 (.ptr (lv + 1) i2 0 :: an 1 (.int .i64 x3 :: .int .i64 x4 :: an 21 [])), ⟨lv + 1, L, E⟩, [], E⟩) n ⟨an 1 (.ptr (lv + 1) i2 0 :: an 1 (.int .i64 1 :: .int .i64 0 :: an 21 [])), ⟨lv + 1, L, E⟩, [], E⟩ (weak_tmps ?_) ⟨1, 0, L, Nat.le_refl _, hA, h, rfl⟩ ?_
  · (try simp only [an]); repeat (first | exact VLeL.nil | refine VLeL.cons (by first | exact VLe.refl _ | exact VLe.any _ | exact VLe.nil _ _ | (refine VLe.agg' ?_; repeat (first | exact VLeL.nil | refine VLeL.cons (by first | exact VLe.refl _ | exact VLe.any _ | exact VLe.nil _ _) ?_))) ?_)
  · rintro k σ ⟨x3, x4, L, hk, hA, h, rfl⟩
    rcases k with _ | n
    · simp [go_ref03_Parts_L1] at h
    · rw [go_ref03_Parts_L1] at h
      repeat refine sat_seq ?_
      refine sat_meet (fun σ => ∃ (k : Nat), k ≤ n ∧ ∃ (x5 : Bool) (L : List (Option AObj)), AccG (lv + 1) L [] [(i2, .cells a0.cs)] ∧ go_ref03_Parts_J1 k a0 x3 x4 x5 = some r ∧ σ = ⟨an 1 (.ptr (lv + 1) i2 0 :: an 1 (.int .i64 x3 :: .int .i64 x4 :: an 9 (.bool x5 :: an 11 []))), ⟨lv + 1, L, E⟩, [], E⟩) ?_ ?_
      · refine satO_reg ?_
        rcases Bool.eq_false_or_eq_true (decide (x4 < (a0.list.length : Int))) with hg6 | hg7
        · have h := ite_t hg6 h
          have g0 := hA.get (k := 0) rfl
          refine satO_step 10 [] ⟨an 1 (.ptr (lv + 1) i2 0 :: an 1 (.int .i64 x3 :: .int .i64 x4 :: .int .i64 x4 :: .ptr (lv + 1) i2 5 :: .sl 6 (a0.list.map GValue.el) false :: .int .i64 (a0.list.length : Int) :: .bool (decide (x4 < (a0.list.length : Int))) :: .bool (decide (x4 < (a0.list.length : Int))) :: .ptr (lv + 1) i2 0 :: .int .u8 a0.kind :: .bool (a0.kind == 4) :: .bool (a0.kind == 4) :: an 11 [])), ⟨lv + 1, L, E⟩, [], E⟩ [] (by simp -implicitDefEqProofs [GValue.cs, g0, hg6]) claims_nil ?_
          refine satO_nil ?_
          refine ⟨⟨an 1 (.ptr (lv + 1) i2 0 :: an 1 (.int .i64 x3 :: .int .i64 x4 :: an 9 (.bool (a0.kind == 4) :: an 11 []))), ⟨lv + 1, L, E⟩, [], E⟩, weak_tmps ?_, n, by omega, (a0.kind == 4), L, hA, h, rfl⟩
          (try simp only [an]); repeat (first | exact VLeL.nil | refine VLeL.cons (by first | exact VLe.refl _ | exact VLe.any _ | exact VLe.nil _ _ | (refine VLe.agg' ?_; repeat (first | exact VLeL.nil | refine VLeL.cons (by first | exact VLe.refl _ | exact VLe.any _ | exact VLe.nil _ _) ?_))) ?_)
        · have h := ite_f hg7 h
          have g0 := hA.get (k := 0) rfl
          refine satO_step 10 [] ⟨an 1 (.ptr (lv + 1) i2 0 :: an 1 (.int .i64 x3 :: .int .i64 x4 :: .int .i64 x4 :: .ptr (lv + 1) i2 5 :: .sl 6 (a0.list.map GValue.el) false :: .int .i64 (a0.list.length : Int) :: .bool (decide (x4 < (a0.list.length : Int))) :: .bool (decide (x4 < (a0.list.length : Int))) :: .tup [] :: .tup [] :: .tup [] :: .bool false :: an 11 [])), ⟨lv + 1, L, E⟩, [], E⟩ [] (by simp -implicitDefEqProofs [GValue.cs, g0, hg7]) claims_nil ?_
          refine satO_nil ?_
          refine ⟨⟨an 1 (.ptr (lv + 1) i2 0 :: an 1 (.int .i64 x3 :: .int .i64 x4 :: an 9 (.bool false :: an 11 []))), ⟨lv + 1, L, E⟩, [], E⟩, weak_tmps ?_, n, by omega, false, L, hA, h, rfl⟩
          (try simp only [an]); repeat (first | exact VLeL.nil | refine VLeL.cons (by first | exact VLe.refl _ | exact VLe.any _ | exact VLe.nil _ _ | (refine VLe.agg' ?_; repeat (first | exact VLeL.nil | refine VLeL.cons (by first | exact VLe.refl _ | exact VLe.any _ | exact VLe.nil _ _) ?_))) ?_)
      · rintro σ0 σ hw ⟨k, hk, x5, L, hA, h, rfl⟩
        rcases k with _ | n
        · simp [go_ref03_Parts_J1] at h
        · rw [go_ref03_Parts_J1] at h
          refine sat_weak hw ?_
          repeat refine sat_seq ?_
          refine sat_cond rfl (fun hb => ?_) (fun hb => ?_)
          · have h := ite_t hb h
            repeat refine sat_seq ?_
            refine sat_skip ?_
            repeat refine sat_seq ?_
            refine sat_block ?_
            repeat refine sat_seq ?_
            refine satO_reg ?_
            obtain ⟨x8, q9, h⟩ := bnd_hi h
            obtain ⟨q9, q10⟩ := ix_some q9
            obtain ⟨y11, q12, h⟩ := bnd_hi h
            have g0 := hA.get (k := 0) rfl
            refine satO_step 9 [(.int .i64 y11, none)] ⟨an 1 (.ptr (lv + 1) i2 0 :: an 1 (.int .i64 (IntKind.i64.wrap (x3 + y11)) :: .int .i64 x4 :: an 9 (.bool x5 :: an 2 (.int .i64 x3 :: .ptr (lv + 1) i2 5 :: .sl 6 (a0.list.map GValue.el) false :: .int .i64 x4 :: .ref x8.cs 0 :: .agg x8.cs :: .int .i64 y11 :: .int .i64 (IntKind.i64.wrap (x3 + y11)) :: an 1 [])))), ⟨lv + 1, L, E⟩, [], E⟩ [⟨59, [.agg x8.cs], ⟨lv + 1, L, E⟩, .int .i64 y11, ⟨lv + 1, L, E⟩⟩] (by simp -implicitDefEqProofs [GValue.cs, g0, q9, q10, GValue.el_cs]) (claims_cons (ih _ (by omega) _ _ q12 _) claims_nil) ?_
            refine satO_nil ?_
            repeat refine sat_seq ?_
            refine satO_reg ?_
            have g0 := hA.get (k := 0) rfl
            refine satO_step 3 [] ⟨an 1 (.ptr (lv + 1) i2 0 :: an 1 (.int .i64 (IntKind.i64.wrap (x3 + y11)) :: .int .i64 (IntKind.i64.wrap (x4 + 1)) :: an 9 (.bool x5 :: .int .i64 x4 :: .int .i64 (IntKind.i64.wrap (x4 + 1)) :: .int .i64 x3 :: .ptr (lv + 1) i2 5 :: .sl 6 (a0.list.map GValue.el) false :: .int .i64 x4 :: .ref x8.cs 0 :: .agg x8.cs :: .int .i64 y11 :: .int .i64 (IntKind.i64.wrap (x3 + y11)) :: an 1 []))), ⟨lv + 1, L, E⟩, [], E⟩ [] (by simp -implicitDefEqProofs [GValue.cs, g0]) claims_nil ?_
            refine satO_nil ?_
            refine ⟨n, ⟨an 1 (.ptr (lv + 1) i2 0 :: an 1 (.int .i64 (IntKind.i64.wrap (x3 + y11)) :: .int .i64 (IntKind.i64.wrap (x4 + 1)) :: an 21 [])), ⟨lv + 1, L, E⟩, [], E⟩, weak_tmps ?_, ⟨(IntKind.i64.wrap (x3 + y11)), (IntKind.i64.wrap (x4 + 1)), L, by omega, hA, h, rfl⟩, by omega⟩
            (try simp only [an]); repeat (first | exact VLeL.nil | refine VLeL.cons (by first | exact VLe.refl _ | exact VLe.any _ | exact VLe.nil _ _ | (refine VLe.agg' ?_; repeat (first | exact VLeL.nil | refine VLeL.cons (by first | exact VLe.refl _ | exact VLe.any _ | exact VLe.nil _ _) ?_))) ?_)
          · have h := ite_f hb h
            repeat refine sat_seq ?_
            refine sat_exit ?_
            repeat refine sat_seq ?_
            refine satO_reg ?_
            have g0 := hA.get (k := 0) rfl
            refine satO_step 2 [] ⟨an 1 (.ptr (lv + 1) i2 0 :: .int .i64 x3 :: .int .i64 x3 :: .int .i64 x4 :: an 9 (.bool x5 :: an 10 (.int .i64 x3 :: []))), ⟨lv + 1, L, E⟩, [], E⟩ [] (by simp -implicitDefEqProofs [GValue.cs, g0]) claims_nil ?_
            refine satO_nil ?_
            repeat refine sat_seq ?_
            refine sat_ret ?_
            have g0 := hA.get (k := 0) rfl
            refine ends (v := .int .i64 x3) (by simp [resultsV, resL, resV, tupOf, Try.f59, pLoad, g0, GValue.cs]) rfl rfl ?_
            injection h with h
            subst h
            exact (.keep _ (by simp [V.kin, V.kinL, GValue.cs]))
end Go.Proofs

namespace Go.Proofs
open Go Go.Ab
set_option maxRecDepth 10000
set_option maxHeartbeats 1000000
set_option linter.unusedSimpArgs false
set_option linter.unusedVariables false
theorem go_ref03_Great_ok (n : Nat) (a0 : GValue) (r : Bool) (h : go_ref03_Great n a0 = some r) : PCall Try.prog 43 [.agg a0.cs] (.bool r) := by
  rw [go_ref03_Great] at h
  refine pcall_of Try.func43 rfl Try.ntmps43 (fun _ _ => Try.call43 _ _) fun lv E => ?_
  simp only [List.length_cons, List.length_nil, Nat.reduceAdd, Nat.reduceSub, List.replicate, List.cons_append, List.nil_append]
  have hA := AccG.nil (lv + 1)
  generalize ([] : List (Option AObj)) = L at hA ⊢
  repeat refine sat_seq ?_
  refine satO_reg ?_
  refine satO_step 1 [] ⟨.agg a0.cs :: .ptr (lv + 1) L.length 0 :: an 8 [], ⟨lv + 1, (L ++ [some (.cells a0.cs)]), E⟩, [], E⟩ [] (by simp -implicitDefEqProofs [GValue.cs]) claims_nil ?_
  have hA : AccG (lv + 1) (L ++ [some (.cells a0.cs)]) [] [(L.length, .cells a0.cs)] := hA.obj _
  generalize L.length = i2 at hA ⊢
  generalize (L ++ [some (.cells a0.cs)]) = L at hA ⊢
  have g0 := hA.get (k := 0) rfl
  refine satO_step 1 [] ⟨.agg a0.cs :: .ptr (lv + 1) i2 0 :: .bool false :: an 7 [], ⟨lv + 1, L, E⟩, [], E⟩ [] (by simp -implicitDefEqProofs [GValue.cs, g0]) claims_nil ?_
  refine satO_nil ?_
  repeat refine sat_seq ?_
  refine sat_meet (fun σ => ∃ (x3 : Bool) (L : List (Option AObj)), AccG (lv + 1) L [] [] ∧ go_ref03_Great_J1 n x3 = some r ∧ σ = ⟨an 2 (.bool x3 :: an 7 []), ⟨lv + 1, L, E⟩, [], E⟩) ?_ ?_
  · refine satO_reg ?_
    obtain ⟨y4, q5, h⟩ := bnd_hi h
    rcases Bool.eq_false_or_eq_true y4 with hg6 | hg7
    · have h := ite_t hg6 h
      have g0 := hA.get (k := 0) rfl
      refine satO_step 8 [(.bool y4, none)] ⟨.agg a0.cs :: .ptr (lv + 1) i2 0 :: .bool true :: .agg a0.cs :: .bool y4 :: .bool y4 :: .tup [] :: .tup [] :: .tup [] :: .bool true :: [], ⟨lv + 1, L, E⟩, [], E⟩ [⟨58, [.agg a0.cs, .int .i64 10], ⟨lv + 1, L, E⟩, .bool y4, ⟨lv + 1, L, E⟩⟩] (by simp -implicitDefEqProofs [GValue.cs, g0, hg6]) (claims_cons (go_ref03_great_ok _ _ _ _ q5 _) claims_nil) ?_
      refine satO_nil ?_
      have hA : AccG (lv + 1) L [] [] := hA.sel [] (by simp) rfl (.cons _ .slnil)
      refine ⟨⟨an 2 (.bool true :: an 7 []), ⟨lv + 1, L, E⟩, [], E⟩, weak_tmps ?_, true, L, hA, h, rfl⟩
      (try simp only [an]); repeat (first | exact VLeL.nil | refine VLeL.cons (by first | exact VLe.refl _ | exact VLe.any _ | exact VLe.nil _ _ | (refine VLe.agg' ?_; repeat (first | exact VLeL.nil | refine VLeL.cons (by first | exact VLe.refl _ | exact VLe.any _ | exact VLe.nil _ _) ?_))) ?_)
    · have h := ite_f hg7 h
      obtain ⟨y8, q9, h⟩ := bnd_hi h
      have g0 := hA.get (k := 0) rfl
      refine satO_step 8 [(.bool y4, none), (.int .i64 y8, none)] ⟨.agg a0.cs :: .ptr (lv + 1) i2 0 :: .bool (decide (150 < y8)) :: .agg a0.cs :: .bool y4 :: .bool y4 :: .agg a0.cs :: .int .i64 y8 :: .bool (decide (150 < y8)) :: .bool (decide (150 < y8)) :: [], ⟨lv + 1, L, E⟩, [], E⟩ [⟨58, [.agg a0.cs, .int .i64 10], ⟨lv + 1, L, E⟩, .bool y4, ⟨lv + 1, L, E⟩⟩, ⟨59, [.agg a0.cs], ⟨lv + 1, L, E⟩, .int .i64 y8, ⟨lv + 1, L, E⟩⟩] (by simp -implicitDefEqProofs [GValue.cs, g0, hg7]) (claims_cons (go_ref03_great_ok _ _ _ _ q5 _) (claims_cons (go_ref03_Parts_ok _ _ _ q9 _) claims_nil)) ?_
      refine satO_nil ?_
      have hA : AccG (lv + 1) L [] [] := hA.sel [] (by simp) rfl (.cons _ .slnil)
      refine ⟨⟨an 2 (.bool (decide (150 < y8)) :: an 7 []), ⟨lv + 1, L, E⟩, [], E⟩, weak_tmps ?_, (decide (150 < y8)), L, hA, h, rfl⟩
      (try simp only [an]); repeat (first | exact VLeL.nil | refine VLeL.cons (by first | exact VLe.refl _ | exact VLe.any _ | exact VLe.nil _ _ | (refine VLe.agg' ?_; repeat (first | exact VLeL.nil | refine VLeL.cons (by first | exact VLe.refl _ | exact VLe.any _ | exact VLe.nil _ _) ?_))) ?_)
  · rintro σ0 σ hw ⟨x3, L, hA, h, rfl⟩
    rw [go_ref03_Great_J1] at h
    refine sat_weak hw ?_
    repeat refine sat_seq ?_
    refine sat_ret ?_
    refine ends (v := .bool x3) (by simp [resultsV, resL, resV, tupOf, Try.f43, pLoad, GValue.cs]) rfl rfl ?_
    injection h with h
    subst h
    exact (.keep _ (by simp [V.kin, V.kinL, GValue.cs]))
end Go.Proofs

namespace Go.Proofs
open Go Go.Ab
set_option maxRecDepth 10000
set_option maxHeartbeats 1000000
set_option linter.unusedSimpArgs false
set_option linter.unusedVariables false
theorem go_ref27_GreatArgs_ok (n : Nat) (a0 : List GValue) (r : Bool) (h : go_ref27_GreatArgs n a0 = some r) : PCall Try.prog 25 [.sl 6 (a0.map GValue.el) false] (.bool r) := by
  rcases n with _ | n
  · simp [go_ref27_GreatArgs] at h
  rw [go_ref27_GreatArgs] at h
  refine pcall_of Try.func25 rfl Try.ntmps25 (fun _ _ => Try.call25 _ _) fun lv E => ?_
  simp only [List.length_cons, List.length_nil, Nat.reduceAdd, Nat.reduceSub, List.replicate, List.cons_append, List.nil_append]
  have hA := AccG.nil (lv + 1)
  generalize ([] : List (Option AObj)) = L at hA ⊢
  repeat refine sat_seq ?_
  refine satO_reg ?_
  refine satO_step 1 [] ⟨.sl 6 (a0.map GValue.el) false :: an 1 (.bool false :: an 15 []), ⟨lv + 1, L, E⟩, [], E⟩ [] (by simp -implicitDefEqProofs []) claims_nil ?_
  refine satO_nil ?_
  repeat refine sat_seq ?_
  refine satO_reg ?_
  refine satO_step 1 [] ⟨.sl 6 (a0.map GValue.el) false :: an 1 (.bool false :: .int .i64 0 :: an 14 []), ⟨lv + 1, L, E⟩, [], E⟩ [] (by simp -implicitDefEqProofs []) claims_nil ?_
  refine satO_nil ?_
  repeat refine sat_seq ?_
  refine sat_block ?_
  repeat refine sat_seq ?_
  refine sat_loop (fun k σ => ∃ (x1 : Int) (L : List (Option AObj)), k ≤ n ∧ AccG (lv + 1) L [] [] ∧ go_ref27_GreatArgs_L1 k a0 x1 = some r ∧ σ = ⟨.sl 6 (a0.map GValue.el) false :: an 2 (.int .i64 x1 :: an 14 []), ⟨lv + 1, L, E⟩, [], E⟩) n ⟨.sl 6 (a0.map GValue.el) false :: an 2 (.int .i64 0 :: an 14 []), ⟨lv + 1, L, E⟩, [], E⟩ (weak_tmps ?_) ⟨0, L, Nat.le_refl _, hA, h, rfl⟩ ?_
  · (try simp only [an]); repeat (first | exact VLeL.nil | refine VLeL.cons (by first | exact VLe.refl _ | exact VLe.any _ | exact VLe.nil _ _ | (refine VLe.agg' ?_; repeat (first | exact VLeL.nil | refine VLeL.cons (by first | exact VLe.refl _ | exact VLe.any _ | exact VLe.nil _ _) ?_))) ?_)
  · rintro k σ ⟨x1, L, hk, hA, h, rfl⟩
    rcases k with _ | n
    · simp [go_ref27_GreatArgs_L1] at h
    · rw [go_ref27_GreatArgs_L1] at h
      repeat refine sat_seq ?_
      refine satO_reg ?_
      refine satO_step 4 [] ⟨.sl 6 (a0.map GValue.el) false :: an 2 (.int .i64 x1 :: .int .i64 x1 :: .sl 6 (a0.map GValue.el) false :: .int .i64 (a0.length : Int) :: .bool (decide (x1 < (a0.length : Int))) :: an 10 []), ⟨lv + 1, L, E⟩, [], E⟩ [] (by simp -implicitDefEqProofs []) claims_nil ?_
      refine satO_nil ?_
      repeat refine sat_seq ?_
      refine sat_cond rfl (fun hb => ?_) (fun hb => ?_)
      · have h := ite_t hb h
        repeat refine sat_seq ?_
        refine sat_skip ?_
        repeat refine sat_seq ?_
        refine sat_block ?_
        repeat refine sat_seq ?_
        refine satO_reg ?_
        obtain ⟨x2, q3, h⟩ := bnd_hi h
        obtain ⟨q3, q4⟩ := ix_some q3
        obtain ⟨y5, q6, h⟩ := bnd_hi h
        refine satO_step 5 [(.bool y5, none)] ⟨.sl 6 (a0.map GValue.el) false :: an 2 (.int .i64 x1 :: .int .i64 x1 :: .sl 6 (a0.map GValue.el) false :: .int .i64 (a0.length : Int) :: .bool (decide (x1 < (a0.length : Int))) :: an 2 (.sl 6 (a0.map GValue.el) false :: .int .i64 x1 :: .ref x2.cs 0 :: .agg x2.cs :: .bool y5 :: an 3 [])), ⟨lv + 1, L, E⟩, [], E⟩ [⟨43, [.agg x2.cs], ⟨lv + 1, L, E⟩, .bool y5, ⟨lv + 1, L, E⟩⟩] (by simp -implicitDefEqProofs [GValue.cs, q3, q4, GValue.el_cs]) (claims_cons (go_ref03_Great_ok _ _ _ q6 _) claims_nil) ?_
        refine satO_nil ?_
        repeat refine sat_seq ?_
        refine sat_cond rfl (fun hb => ?_) (fun hb => ?_)
        · have h := ite_t hb h
          repeat refine sat_seq ?_
          refine satO_reg ?_
          refine satO_step 1 [] ⟨.sl 6 (a0.map GValue.el) false :: an 1 (.bool true :: .int .i64 x1 :: .int .i64 x1 :: .sl 6 (a0.map GValue.el) false :: .int .i64 (a0.length : Int) :: .bool (decide (x1 < (a0.length : Int))) :: an 2 (.sl 6 (a0.map GValue.el) false :: .int .i64 x1 :: .ref x2.cs 0 :: .agg x2.cs :: .bool y5 :: an 3 [])), ⟨lv + 1, L, E⟩, [], E⟩ [] (by simp -implicitDefEqProofs [GValue.cs]) claims_nil ?_
          refine satO_nil ?_
          repeat refine sat_seq ?_
          refine sat_ret ?_
          refine ends (v := .bool true) (by simp [resultsV, resL, resV, tupOf, Try.f25, pLoad, GValue.cs]) rfl rfl ?_
          injection h with h
          subst h
          exact (.keep _ (by simp [V.kin, V.kinL, GValue.cs]))
        · have h := ite_f hb h
          repeat refine sat_seq ?_
          refine sat_skip ?_
          repeat refine sat_seq ?_
          refine satO_reg ?_
          refine satO_step 3 [] ⟨.sl 6 (a0.map GValue.el) false :: an 2 (.int .i64 (IntKind.i64.wrap (x1 + 1)) :: .int .i64 x1 :: .sl 6 (a0.map GValue.el) false :: .int .i64 (a0.length : Int) :: .bool (decide (x1 < (a0.length : Int))) :: .int .i64 x1 :: .int .i64 (IntKind.i64.wrap (x1 + 1)) :: .sl 6 (a0.map GValue.el) false :: .int .i64 x1 :: .ref x2.cs 0 :: .agg x2.cs :: .bool y5 :: an 3 []), ⟨lv + 1, L, E⟩, [], E⟩ [] (by simp -implicitDefEqProofs [GValue.cs]) claims_nil ?_
          refine satO_nil ?_
          refine ⟨n, ⟨.sl 6 (a0.map GValue.el) false :: an 2 (.int .i64 (IntKind.i64.wrap (x1 + 1)) :: an 14 []), ⟨lv + 1, L, E⟩, [], E⟩, weak_tmps ?_, ⟨(IntKind.i64.wrap (x1 + 1)), L, by omega, hA, h, rfl⟩, by omega⟩
          (try simp only [an]); repeat (first | exact VLeL.nil | refine VLeL.cons (by first | exact VLe.refl _ | exact VLe.any _ | exact VLe.nil _ _ | (refine VLe.agg' ?_; repeat (first | exact VLeL.nil | refine VLeL.cons (by first | exact VLe.refl _ | exact VLe.any _ | exact VLe.nil _ _) ?_))) ?_)
      · have h := ite_f hb h
        repeat refine sat_seq ?_
        refine sat_exit ?_
        repeat refine sat_seq ?_
        refine satO_reg ?_
        refine satO_step 4 [] ⟨.sl 6 (a0.map GValue.el) false :: an 1 (.bool (decide (10 < (a0.length : Int))) :: .int .i64 x1 :: .int .i64 x1 :: .sl 6 (a0.map GValue.el) false :: .int .i64 (a0.length : Int) :: .bool (decide (x1 < (a0.length : Int))) :: an 7 (.sl 6 (a0.map GValue.el) false :: .int .i64 (a0.length : Int) :: .bool (decide (10 < (a0.length : Int))) :: [])), ⟨lv + 1, L, E⟩, [], E⟩ [] (by simp -implicitDefEqProofs [GValue.cs]) claims_nil ?_
        refine satO_nil ?_
        repeat refine sat_seq ?_
        refine sat_ret ?_
        refine ends (v := .bool (decide (10 < (a0.length : Int)))) (by simp [resultsV, resL, resV, tupOf, Try.f25, pLoad, GValue.cs]) rfl rfl ?_
        injection h with h
        subst h
        exact (.keep _ (by simp [V.kin, V.kinL, GValue.cs]))
end Go.Proofs

namespace Go.Proofs
open Go Go.Ab
set_option maxRecDepth 10000
set_option maxHeartbeats 1000000
set_option linter.unusedSimpArgs false
set_option linter.unusedVariables false
theorem go_ref27_Great_ok (n : Nat) (a0 : List GNode) (r : Bool) (h : go_ref27_Great n a0 = some r) : PCall Try.prog 6 [.sl 13 (a0.map GNode.el) false] (.bool r) := by
  rcases n with _ | n
  · simp [go_ref27_Great] at h
  rw [go_ref27_Great] at h
  refine pcall_of Try.func6 rfl Try.ntmps6 (fun _ _ => Try.call6 _ _) fun lv E => ?_
  simp only [List.length_cons, List.length_nil, Nat.reduceAdd, Nat.reduceSub, List.replicate, List.cons_append, List.nil_append]
  have hA := AccG.nil (lv + 1)
  generalize ([] : List (Option AObj)) = L at hA ⊢
  repeat refine sat_seq ?_
  refine satO_reg ?_
  refine satO_step 1 [] ⟨.sl 13 (a0.map GNode.el) false :: an 1 (.bool false :: an 43 []), ⟨lv + 1, L, E⟩, [], E⟩ [] (by simp -implicitDefEqProofs []) claims_nil ?_
  refine satO_nil ?_
  repeat refine sat_seq ?_
  refine satO_reg ?_
  refine satO_step 1 [] ⟨.sl 13 (a0.map GNode.el) false :: an 1 (.bool false :: .int .i64 0 :: an 42 []), ⟨lv + 1, L, E⟩, [], E⟩ [] (by simp -implicitDefEqProofs []) claims_nil ?_
  refine satO_nil ?_
  repeat refine sat_seq ?_
  refine sat_block ?_
  repeat refine sat_seq ?_
  refine sat_loop (fun k σ => ∃ (x1 : Int) (L : List (Option AObj)), k ≤ n ∧ AccG (lv + 1) L [] [] ∧ go_ref27_Great_L1 k a0 x1 = some r ∧ σ = ⟨.sl 13 (a0.map GNode.el) false :: an 2 (.int .i64 x1 :: an 42 []), ⟨lv + 1, L, E⟩, [], E⟩) n ⟨.sl 13 (a0.map GNode.el) false :: an 2 (.int .i64 0 :: an 42 []), ⟨lv + 1, L, E⟩, [], E⟩ (weak_tmps ?_) ⟨0, L, Nat.le_refl _, hA, h, rfl⟩ ?_
  · (try simp only [an]); repeat (first | exact VLeL.nil | refine VLeL.cons (by first | exact VLe.refl _ | exact VLe.any _ | exact VLe.nil _ _ | (refine VLe.agg' ?_; repeat (first | exact VLeL.nil | refine VLeL.cons (by first | exact VLe.refl _ | exact VLe.any _ | exact VLe.nil _ _) ?_))) ?_)
  · rintro k σ ⟨x1, L, hk, hA, h, rfl⟩
    rcases k with _ | n
    · simp [go_ref27_Great_L1] at h
    · rw [go_ref27_Great_L1] at h
      repeat refine sat_seq ?_
      refine satO_reg ?_
      refine satO_step 4 [] ⟨.sl 13 (a0.map GNode.el) false :: an 2 (.int .i64 x1 :: .int .i64 x1 :: .sl 13 (a0.map GNode.el) false :: .int .i64 (a0.length : Int) :: .bool (decide (x1 < (a0.length : Int))) :: an 38 []), ⟨lv + 1, L, E⟩, [], E⟩ [] (by simp -implicitDefEqProofs []) claims_nil ?_
      refine satO_nil ?_
      repeat refine sat_seq ?_
      refine sat_cond rfl (fun hb => ?_) (fun hb => ?_)
      · have h := ite_t hb h
        repeat refine sat_seq ?_
        refine sat_skip ?_
        repeat refine sat_seq ?_
        refine sat_block ?_
        repeat refine sat_seq ?_
        refine sat_meet (fun σ => ∃ (k : Nat), k ≤ n ∧ ∃ (x2 : Bool) (L : List (Option AObj)), AccG (lv + 1) L [] [] ∧ go_ref27_Great_J1 k a0 x1 x2 = some r ∧ σ = ⟨.sl 13 (a0.map GNode.el) false :: an 2 (.int .i64 x1 :: an 38 (.bool x2 :: an 3 [])), ⟨lv + 1, L, E⟩, [], E⟩) ?_ ?_
        · refine satO_reg ?_
          obtain ⟨x3, q4, h⟩ := bnd_hi h
          obtain ⟨q4, q5⟩ := ix_some q4
          rcases Bool.eq_false_or_eq_true (decide (5000 < (x3.path.length : Int))) with hg6 | hg7
          · have h := ite_t hg6 h
            refine satO_step 33 [] ⟨.sl 13 (a0.map GNode.el) false :: an 2 (.int .i64 x1 :: .int .i64 x1 :: .sl 13 (a0.map GNode.el) false :: .int .i64 (a0.length : Int) :: .bool (decide (x1 < (a0.length : Int))) :: an 2 (.sl 13 (a0.map GNode.el) false :: .int .i64 x1 :: .ref x3.cs 0 :: .ref x3.cs 0 :: .str x3.path :: .int .i64 (x3.path.length : Int) :: .bool (decide (5000 < (x3.path.length : Int))) :: .bool (decide (5000 < (x3.path.length : Int))) :: .tup [] :: .tup [] :: .tup [] :: .tup [] :: .tup [] :: .tup [] :: .tup [] :: .bool true :: .bool true :: .tup [] :: .tup [] :: .tup [] :: .tup [] :: .tup [] :: .tup [] :: .tup [] :: .bool true :: .bool true :: .tup [] :: .tup [] :: .tup [] :: .tup [] :: .tup [] :: .tup [] :: .bool true :: an 3 [])), ⟨lv + 1, L, E⟩, [], E⟩ [] (by simp -implicitDefEqProofs [GNode.cs, q4, q5, GNode.el_cs, hg6]) claims_nil ?_
            refine satO_nil ?_
            refine ⟨⟨.sl 13 (a0.map GNode.el) false :: an 2 (.int .i64 x1 :: an 38 (.bool true :: an 3 [])), ⟨lv + 1, L, E⟩, [], E⟩, weak_tmps ?_, n, by omega, true, L, hA, h, rfl⟩
            (try simp only [an]); repeat (first | exact VLeL.nil | refine VLeL.cons (by first | exact VLe.refl _ | exact VLe.any _ | exact VLe.nil _ _ | (refine VLe.agg' ?_; repeat (first | exact VLeL.nil | refine VLeL.cons (by first | exact VLe.refl _ | exact VLe.any _ | exact VLe.nil _ _) ?_))) ?_)
          · have h := ite_f hg7 h
            rcases Bool.eq_false_or_eq_true (decide (100 < (x3.rule_.length : Int))) with hg8 | hg9
            · have h := ite_t hg8 h
              refine satO_step 33 [] ⟨.sl 13 (a0.map GNode.el) false :: an 2 (.int .i64 x1 :: .int .i64 x1 :: .sl 13 (a0.map GNode.el) false :: .int .i64 (a0.length : Int) :: .bool (decide (x1 < (a0.length : Int))) :: an 2 (.sl 13 (a0.map GNode.el) false :: .int .i64 x1 :: .ref x3.cs 0 :: .ref x3.cs 0 :: .str x3.path :: .int .i64 (x3.path.length : Int) :: .bool (decide (5000 < (x3.path.length : Int))) :: .bool (decide (5000 < (x3.path.length : Int))) :: .sl 13 (a0.map GNode.el) false :: .int .i64 x1 :: .ref x3.cs 0 :: .ref x3.cs 1 :: .str x3.rule_ :: .int .i64 (x3.rule_.length : Int) :: .bool (decide (100 < (x3.rule_.length : Int))) :: .bool (decide (100 < (x3.rule_.length : Int))) :: .bool (decide (100 < (x3.rule_.length : Int))) :: .tup [] :: .tup [] :: .tup [] :: .tup [] :: .tup [] :: .tup [] :: .tup [] :: .bool true :: .bool true :: .tup [] :: .tup [] :: .tup [] :: .tup [] :: .tup [] :: .tup [] :: .bool true :: an 3 [])), ⟨lv + 1, L, E⟩, [], E⟩ [] (by simp -implicitDefEqProofs [GNode.cs, q4, q5, GNode.el_cs, hg7, q4, q5, GNode.el_cs, hg8]) claims_nil ?_
              refine satO_nil ?_
              refine ⟨⟨.sl 13 (a0.map GNode.el) false :: an 2 (.int .i64 x1 :: an 38 (.bool true :: an 3 [])), ⟨lv + 1, L, E⟩, [], E⟩, weak_tmps ?_, n, by omega, true, L, hA, h, rfl⟩
              (try simp only [an]); repeat (first | exact VLeL.nil | refine VLeL.cons (by first | exact VLe.refl _ | exact VLe.any _ | exact VLe.nil _ _ | (refine VLe.agg' ?_; repeat (first | exact VLeL.nil | refine VLeL.cons (by first | exact VLe.refl _ | exact VLe.any _ | exact VLe.nil _ _) ?_))) ?_)
            · have h := ite_f hg9 h
              rcases Bool.eq_false_or_eq_true (decide (200 < (x3.leaf.length : Int))) with hg10 | hg11
              · have h := ite_t hg10 h
                refine satO_step 33 [] ⟨.sl 13 (a0.map GNode.el) false :: an 2 (.int .i64 x1 :: .int .i64 x1 :: .sl 13 (a0.map GNode.el) false :: .int .i64 (a0.length : Int) :: .bool (decide (x1 < (a0.length : Int))) :: an 2 (.sl 13 (a0.map GNode.el) false :: .int .i64 x1 :: .ref x3.cs 0 :: .ref x3.cs 0 :: .str x3.path :: .int .i64 (x3.path.length : Int) :: .bool (decide (5000 < (x3.path.length : Int))) :: .bool (decide (5000 < (x3.path.length : Int))) :: .sl 13 (a0.map GNode.el) false :: .int .i64 x1 :: .ref x3.cs 0 :: .ref x3.cs 1 :: .str x3.rule_ :: .int .i64 (x3.rule_.length : Int) :: .bool (decide (100 < (x3.rule_.length : Int))) :: .bool (decide (100 < (x3.rule_.length : Int))) :: .bool (decide (100 < (x3.rule_.length : Int))) :: .sl 13 (a0.map GNode.el) false :: .int .i64 x1 :: .ref x3.cs 0 :: .ref x3.cs 10 :: .str x3.leaf :: .int .i64 (x3.leaf.length : Int) :: .bool (decide (200 < (x3.leaf.length : Int))) :: .bool (decide (200 < (x3.leaf.length : Int))) :: .bool (decide (200 < (x3.leaf.length : Int))) :: .tup [] :: .tup [] :: .tup [] :: .tup [] :: .tup [] :: .tup [] :: .bool true :: an 3 [])), ⟨lv + 1, L, E⟩, [], E⟩ [] (by simp -implicitDefEqProofs [GNode.cs, q4, q5, GNode.el_cs, hg7, q4, q5, GNode.el_cs, hg9, q4, q5, GNode.el_cs, hg10]) claims_nil ?_
                refine satO_nil ?_
                refine ⟨⟨.sl 13 (a0.map GNode.el) false :: an 2 (.int .i64 x1 :: an 38 (.bool true :: an 3 [])), ⟨lv + 1, L, E⟩, [], E⟩, weak_tmps ?_, n, by omega, true, L, hA, h, rfl⟩
                (try simp only [an]); repeat (first | exact VLeL.nil | refine VLeL.cons (by first | exact VLe.refl _ | exact VLe.any _ | exact VLe.nil _ _ | (refine VLe.agg' ?_; repeat (first | exact VLeL.nil | refine VLeL.cons (by first | exact VLe.refl _ | exact VLe.any _ | exact VLe.nil _ _) ?_))) ?_)
              · have h := ite_f hg11 h
                obtain ⟨y12, q13, h⟩ := bnd_hi h
                refine satO_step 33 [(.bool y12, none)] ⟨.sl 13 (a0.map GNode.el) false :: an 2 (.int .i64 x1 :: .int .i64 x1 :: .sl 13 (a0.map GNode.el) false :: .int .i64 (a0.length : Int) :: .bool (decide (x1 < (a0.length : Int))) :: an 2 (.sl 13 (a0.map GNode.el) false :: .int .i64 x1 :: .ref x3.cs 0 :: .ref x3.cs 0 :: .str x3.path :: .int .i64 (x3.path.length : Int) :: .bool (decide (5000 < (x3.path.length : Int))) :: .bool (decide (5000 < (x3.path.length : Int))) :: .sl 13 (a0.map GNode.el) false :: .int .i64 x1 :: .ref x3.cs 0 :: .ref x3.cs 1 :: .str x3.rule_ :: .int .i64 (x3.rule_.length : Int) :: .bool (decide (100 < (x3.rule_.length : Int))) :: .bool (decide (100 < (x3.rule_.length : Int))) :: .bool (decide (100 < (x3.rule_.length : Int))) :: .sl 13 (a0.map GNode.el) false :: .int .i64 x1 :: .ref x3.cs 0 :: .ref x3.cs 10 :: .str x3.leaf :: .int .i64 (x3.leaf.length : Int) :: .bool (decide (200 < (x3.leaf.length : Int))) :: .bool (decide (200 < (x3.leaf.length : Int))) :: .bool (decide (200 < (x3.leaf.length : Int))) :: .sl 13 (a0.map GNode.el) false :: .int .i64 x1 :: .ref x3.cs 0 :: .ref x3.cs 2 :: .sl 6 (x3.args.map GValue.el) false :: .bool y12 :: .bool y12 :: an 3 [])), ⟨lv + 1, L, E⟩, [], E⟩ [⟨25, [.sl 6 (x3.args.map GValue.el) false], ⟨lv + 1, L, E⟩, .bool y12, ⟨lv + 1, L, E⟩⟩] (by simp -implicitDefEqProofs [GNode.cs, q4, q5, GNode.el_cs, hg7, q4, q5, GNode.el_cs, hg9, q4, q5, GNode.el_cs, hg11, q4, q5, GNode.el_cs]) (claims_cons (go_ref27_GreatArgs_ok _ _ _ q13 _) claims_nil) ?_
                refine satO_nil ?_
                refine ⟨⟨.sl 13 (a0.map GNode.el) false :: an 2 (.int .i64 x1 :: an 38 (.bool y12 :: an 3 [])), ⟨lv + 1, L, E⟩, [], E⟩, weak_tmps ?_, n, by omega, y12, L, hA, h, rfl⟩
                (try simp only [an]); repeat (first | exact VLeL.nil | refine VLeL.cons (by first | exact VLe.refl _ | exact VLe.any _ | exact VLe.nil _ _ | (refine VLe.agg' ?_; repeat (first | exact VLeL.nil | refine VLeL.cons (by first | exact VLe.refl _ | exact VLe.any _ | exact VLe.nil _ _) ?_))) ?_)
        · rintro σ0 σ hw ⟨k, hk, x2, L, hA, h, rfl⟩
          rcases k with _ | n
          · simp [go_ref27_Great_J1] at h
          · rw [go_ref27_Great_J1] at h
            refine sat_weak hw ?_
            repeat refine sat_seq ?_
            refine sat_cond rfl (fun hb => ?_) (fun hb => ?_)
            · have h := ite_t hb h
              repeat refine sat_seq ?_
              refine satO_reg ?_
              refine satO_step 1 [] ⟨.sl 13 (a0.map GNode.el) false :: an 1 (.bool true :: .int .i64 x1 :: an 38 (.bool x2 :: an 3 [])), ⟨lv + 1, L, E⟩, [], E⟩ [] (by simp -implicitDefEqProofs [GNode.cs]) claims_nil ?_
              refine satO_nil ?_
              repeat refine sat_seq ?_
              refine sat_ret ?_
              refine ends (v := .bool true) (by simp [resultsV, resL, resV, tupOf, Try.f6, pLoad, GNode.cs]) rfl rfl ?_
              injection h with h
              subst h
              exact (.keep _ (by simp [V.kin, V.kinL, GNode.cs]))
            · have h := ite_f hb h
              repeat refine sat_seq ?_
              refine sat_skip ?_
              repeat refine sat_seq ?_
              refine satO_reg ?_
              refine satO_step 3 [] ⟨.sl 13 (a0.map GNode.el) false :: an 2 (.int .i64 (IntKind.i64.wrap (x1 + 1)) :: an 4 (.int .i64 x1 :: .int .i64 (IntKind.i64.wrap (x1 + 1)) :: an 32 (.bool x2 :: an 3 []))), ⟨lv + 1, L, E⟩, [], E⟩ [] (by simp -implicitDefEqProofs [GNode.cs]) claims_nil ?_
              refine satO_nil ?_
              refine ⟨n, ⟨.sl 13 (a0.map GNode.el) false :: an 2 (.int .i64 (IntKind.i64.wrap (x1 + 1)) :: an 42 []), ⟨lv + 1, L, E⟩, [], E⟩, weak_tmps ?_, ⟨(IntKind.i64.wrap (x1 + 1)), L, by omega, hA, h, rfl⟩, by omega⟩
              (try simp only [an]); repeat (first | exact VLeL.nil | refine VLeL.cons (by first | exact VLe.refl _ | exact VLe.any _ | exact VLe.nil _ _ | (refine VLe.agg' ?_; repeat (first | exact VLeL.nil | refine VLeL.cons (by first | exact VLe.refl _ | exact VLe.any _ | exact VLe.nil _ _) ?_))) ?_)
      · have h := ite_f hb h
        repeat refine sat_seq ?_
        refine sat_exit ?_
        repeat refine sat_seq ?_
        refine satO_reg ?_
        refine satO_step 4 [] ⟨.sl 13 (a0.map GNode.el) false :: an 1 (.bool (decide (2100 < (a0.length : Int))) :: .int .i64 x1 :: .int .i64 x1 :: .sl 13 (a0.map GNode.el) false :: .int .i64 (a0.length : Int) :: .bool (decide (x1 < (a0.length : Int))) :: an 35 (.sl 13 (a0.map GNode.el) false :: .int .i64 (a0.length : Int) :: .bool (decide (2100 < (a0.length : Int))) :: [])), ⟨lv + 1, L, E⟩, [], E⟩ [] (by simp -implicitDefEqProofs [GNode.cs]) claims_nil ?_
        refine satO_nil ?_
        repeat refine sat_seq ?_
        refine sat_ret ?_
        refine ends (v := .bool (decide (2100 < (a0.length : Int)))) (by simp [resultsV, resL, resV, tupOf, Try.f6, pLoad, GNode.cs]) rfl rfl ?_
        injection h with h
        subst h
        exact (.keep _ (by simp [V.kin, V.kinL, GNode.cs]))
end Go.Proofs

namespace Go.Proofs
open Go Go.Ab
set_option maxRecDepth 10000
set_option maxHeartbeats 1000000
set_option linter.unusedSimpArgs false
set_option linter.unusedVariables false
theorem go_derive_Find_1_ok (n : Nat) (a0 : GNode) (c0 : List UInt8) (r : Bool) (h : go_derive_Find_1 n a0 c0 = some r) : ∀ (H : Heap) (m0 j0 : Nat), H.get m0 j0 = some (.cells [.str c0]) → m0 ≤ H.lv → HCall Try.prog 27 [.agg a0.cs, .ptr m0 j0 0] H (.bool r) H := by
  rw [go_derive_Find_1] at h
  intro H m0 j0 e0 b0
  refine hcall_pure Try.func27 rfl Try.ntmps27 (fun _ _ => Try.call27 _ _) fun lv E hlv hE => ?_
  simp only [List.length_cons, List.length_nil, Nat.reduceAdd, Nat.reduceSub, List.replicate, List.cons_append, List.nil_append]
  have e0 := (congrFun (congrFun hE m0) j0).trans e0
  have b0 : m0 ≤ lv := by rw [hlv]; exact b0
  have d0 : (m0 = lv + 1) = False := by simp; omega
  clear hE hlv
  have hA := AccG.nil (lv + 1)
  generalize ([] : List (Option AObj)) = L at hA ⊢
  repeat refine sat_seq ?_
  refine satO_reg ?_
  refine satO_step 1 [] ⟨.agg a0.cs :: .ptr m0 j0 0 :: .ptr (lv + 1) L.length 0 :: an 5 [], ⟨lv + 1, (L ++ [some (.cells a0.cs)]), E⟩, [], E⟩ [] (by simp -implicitDefEqProofs [GNode.cs]) claims_nil ?_
  have hA : AccG (lv + 1) (L ++ [some (.cells a0.cs)]) [] [(L.length, .cells a0.cs)] := hA.obj _
  generalize L.length = i2 at hA ⊢
  generalize (L ++ [some (.cells a0.cs)]) = L at hA ⊢
  have g0 := hA.get (k := 0) rfl
  refine satO_step 1 [] ⟨.agg a0.cs :: .ptr m0 j0 0 :: .ptr (lv + 1) i2 0 :: .bool false :: an 4 [], ⟨lv + 1, L, E⟩, [], E⟩ [] (by simp -implicitDefEqProofs [GNode.cs, g0, e0, d0]) claims_nil ?_
  refine satO_nil ?_
  repeat refine sat_seq ?_
  refine satO_reg ?_
  have g0 := hA.get (k := 0) rfl
  refine satO_step 5 [] ⟨.agg a0.cs :: .ptr m0 j0 0 :: .ptr (lv + 1) i2 0 :: .bool (a0.path == c0) :: .ptr (lv + 1) i2 0 :: .str a0.path :: .str c0 :: .bool (a0.path == c0) :: [], ⟨lv + 1, L, E⟩, [], E⟩ [] (by simp -implicitDefEqProofs [GNode.cs, g0, e0, d0]) claims_nil ?_
  refine satO_nil ?_
  repeat refine sat_seq ?_
  refine sat_ret ?_
  have g0 := hA.get (k := 0) rfl
  refine ends (v := .bool (a0.path == c0)) (by simp [resultsV, resL, resV, tupOf, Try.f27, pLoad, g0, e0, d0, GNode.cs]) rfl rfl ?_
  injection h with h
  subst h
  exact (.keep _ (by simp [V.kin, V.kinL, GNode.cs]))
end Go.Proofs

namespace Go.Proofs
open Go Go.Ab
set_option maxRecDepth 10000
set_option maxHeartbeats 1000000
set_option linter.unusedSimpArgs false
set_option linter.unusedVariables false
theorem go_slices_IndexFunc_Node_Node__derive_Find_1_ok (n : Nat) (a0 : List GNode) (c0 : List UInt8) (r : Int) (h : go_slices_IndexFunc_Node_Node__derive_Find_1 n a0 c0 = some r) : ∀ (H : Heap) (m0 j0 : Nat), H.get m0 j0 = some (.cells [.str c0]) → m0 ≤ H.lv → HCall Try.prog 26 [.sl 13 (a0.map GNode.el) false, .fn 27 [] [.ptr m0 j0 0]] H (.int .i64 r) H := by
  rcases n with _ | n
  · simp [go_slices_IndexFunc_Node_Node__derive_Find_1] at h
  rw [go_slices_IndexFunc_Node_Node__derive_Find_1] at h
  intro H m0 j0 e0 b0
  refine hcall_pure Try.func26 rfl Try.ntmps26 (fun _ _ => Try.call26 _ _) fun lv E hlv hE => ?_
  simp only [List.length_cons, List.length_nil, Nat.reduceAdd, Nat.reduceSub, List.replicate, List.cons_append, List.nil_append]
  have e0 := (congrFun (congrFun hE m0) j0).trans e0
  have b0 : m0 ≤ lv := by rw [hlv]; exact b0
  have d0 : (m0 = lv + 1) = False := by simp; omega
  clear hE hlv
  have hA := AccG.nil (lv + 1)
  generalize ([] : List (Option AObj)) = L at hA ⊢
  repeat refine sat_seq ?_
  refine satO_reg ?_
  refine satO_step 1 [] ⟨.sl 13 (a0.map GNode.el) false :: .fn 27 [] [.ptr m0 j0 0] :: an 2 (.int .i64 0 :: an 14 []), ⟨lv + 1, L, E⟩, [], E⟩ [] (by simp -implicitDefEqProofs [e0, d0]) claims_nil ?_
  refine satO_nil ?_
  repeat refine sat_seq ?_
  refine satO_reg ?_
  refine satO_step 3 [] ⟨.sl 13 (a0.map GNode.el) false :: .fn 27 [] [.ptr m0 j0 0] :: an 2 (.int .i64 0 :: an 1 (.sl 13 (a0.map GNode.el) false :: .int .i64 (a0.length : Int) :: .int .i64 0 :: an 10 [])), ⟨lv + 1, L, E⟩, [], E⟩ [] (by simp -implicitDefEqProofs [e0, d0]) claims_nil ?_
  refine satO_nil ?_
  repeat refine sat_seq ?_
  refine sat_block ?_
  repeat refine sat_seq ?_
  refine sat_loop (fun k σ => ∃ (x1 : Int) (L : List (Option AObj)), k ≤ n ∧ AccG (lv + 1) L [] [] ∧ go_slices_IndexFunc_Node_Node__derive_Find_1_L1 k a0 c0 x1 = some r ∧ σ = ⟨.sl 13 (a0.map GNode.el) false :: .fn 27 [] [.ptr m0 j0 0] :: an 5 (.int .i64 (a0.length : Int) :: .int .i64 x1 :: an 10 []), ⟨lv + 1, L, E⟩, [], E⟩) n ⟨.sl 13 (a0.map GNode.el) false :: .fn 27 [] [.ptr m0 j0 0] :: an 5 (.int .i64 (a0.length : Int) :: .int .i64 0 :: an 10 []), ⟨lv + 1, L, E⟩, [], E⟩ (weak_tmps ?_) ⟨0, L, Nat.le_refl _, hA, h, rfl⟩ ?_
  · (try simp only [an]); repeat (first | exact VLeL.nil | refine VLeL.cons (by first | exact VLe.refl _ | exact VLe.any _ | exact VLe.nil _ _ | (refine VLe.agg' ?_; repeat (first | exact VLeL.nil | refine VLeL.cons (by first | exact VLe.refl _ | exact VLe.any _ | exact VLe.nil _ _) ?_))) ?_)
  · rintro k σ ⟨x1, L, hk, hA, h, rfl⟩
    rcases k with _ | n
    · simp [go_slices_IndexFunc_Node_Node__derive_Find_1_L1] at h
    · rw [go_slices_IndexFunc_Node_Node__derive_Find_1_L1] at h
      repeat refine sat_seq ?_
      refine satO_reg ?_
      refine satO_step 1 [] ⟨.sl 13 (a0.map GNode.el) false :: .fn 27 [] [.ptr m0 j0 0] :: an 5 (.int .i64 (a0.length : Int) :: .int .i64 x1 :: .bool (decide (x1 < (a0.length : Int))) :: an 9 []), ⟨lv + 1, L, E⟩, [], E⟩ [] (by simp -implicitDefEqProofs [e0, d0]) claims_nil ?_
      refine satO_nil ?_
      repeat refine sat_seq ?_
      refine sat_cond rfl (fun hb => ?_) (fun hb => ?_)
      · have h := ite_t hb h
        repeat refine sat_seq ?_
        refine sat_skip ?_
        repeat refine sat_seq ?_
        refine sat_block ?_
        repeat refine sat_seq ?_
        refine satO_reg ?_
        refine satO_step 2 [] ⟨.sl 13 (a0.map GNode.el) false :: .fn 27 [] [.ptr m0 j0 0] :: an 3 (.int .i64 x1 :: an 1 (.int .i64 (a0.length : Int) :: .int .i64 x1 :: .bool (decide (x1 < (a0.length : Int))) :: .int .i64 x1 :: an 8 [])), ⟨lv + 1, L, E⟩, [], E⟩ [] (by simp -implicitDefEqProofs [e0, d0]) claims_nil ?_
        refine satO_nil ?_
        repeat refine sat_seq ?_
        refine satO_reg ?_
        obtain ⟨x2, q3, h⟩ := bnd_hi h
        obtain ⟨q3, q4⟩ := ix_some q3
        obtain ⟨y5, q6, h⟩ := bnd_hi h
        refine satO_step 6 [(.bool y5, none)] ⟨.sl 13 (a0.map GNode.el) false :: .fn 27 [] [.ptr m0 j0 0] :: an 3 (.int .i64 x1 :: an 1 (.int .i64 (a0.length : Int) :: .int .i64 x1 :: .bool (decide (x1 < (a0.length : Int))) :: .int .i64 x1 :: .fn 27 [] [.ptr m0 j0 0] :: .sl 13 (a0.map GNode.el) false :: .int .i64 x1 :: .ref x2.cs 0 :: .agg x2.cs :: .bool y5 :: an 2 [])), ⟨lv + 1, L, E⟩, [], E⟩ [⟨27, [.agg x2.cs, .ptr m0 j0 0], ⟨lv + 1, L, E⟩, .bool y5, ⟨lv + 1, L, E⟩⟩] (by simp -implicitDefEqProofs [GNode.cs, e0, d0, q3, q4, GNode.el_cs]) (claims_cons (go_derive_Find_1_ok _ _ _ _ q6 _ m0 j0 (by simp [Heap.get, d0, e0]) (Nat.le_succ_of_le b0)) claims_nil) ?_
        refine satO_nil ?_
        repeat refine sat_seq ?_
        refine sat_cond rfl (fun hb => ?_) (fun hb => ?_)
        · have h := ite_t hb h
          repeat refine sat_seq ?_
          refine satO_reg ?_
          refine satO_step 2 [] ⟨.sl 13 (a0.map GNode.el) false :: .fn 27 [] [.ptr m0 j0 0] :: an 2 (.int .i64 x1 :: .int .i64 x1 :: an 1 (.int .i64 (a0.length : Int) :: .int .i64 x1 :: .bool (decide (x1 < (a0.length : Int))) :: .int .i64 x1 :: .fn 27 [] [.ptr m0 j0 0] :: .sl 13 (a0.map GNode.el) false :: .int .i64 x1 :: .ref x2.cs 0 :: .agg x2.cs :: .bool y5 :: .int .i64 x1 :: an 1 [])), ⟨lv + 1, L, E⟩, [], E⟩ [] (by simp -implicitDefEqProofs [GNode.cs, e0, d0]) claims_nil ?_
          refine satO_nil ?_
          repeat refine sat_seq ?_
          refine sat_ret ?_
          refine ends (v := .int .i64 x1) (by simp [resultsV, resL, resV, tupOf, Try.f26, pLoad, e0, d0, GNode.cs]) rfl rfl ?_
          injection h with h
          subst h
          exact (.keep _ (by simp [V.kin, V.kinL, GNode.cs]))
        · have h := ite_f hb h
          repeat refine sat_seq ?_
          refine sat_skip ?_
          repeat refine sat_seq ?_
          refine satO_reg ?_
          refine satO_step 2 [] ⟨.sl 13 (a0.map GNode.el) false :: .fn 27 [] [.ptr m0 j0 0] :: an 3 (.int .i64 x1 :: an 1 (.int .i64 (a0.length : Int) :: .int .i64 (IntKind.i64.wrap (x1 + 1)) :: .bool (decide (x1 < (a0.length : Int))) :: .int .i64 x1 :: .fn 27 [] [.ptr m0 j0 0] :: .sl 13 (a0.map GNode.el) false :: .int .i64 x1 :: .ref x2.cs 0 :: .agg x2.cs :: .bool y5 :: an 1 (.int .i64 (IntKind.i64.wrap (x1 + 1)) :: []))), ⟨lv + 1, L, E⟩, [], E⟩ [] (by simp -implicitDefEqProofs [GNode.cs, e0, d0]) claims_nil ?_
          refine satO_nil ?_
          refine ⟨n, ⟨.sl 13 (a0.map GNode.el) false :: .fn 27 [] [.ptr m0 j0 0] :: an 5 (.int .i64 (a0.length : Int) :: .int .i64 (IntKind.i64.wrap (x1 + 1)) :: an 10 []), ⟨lv + 1, L, E⟩, [], E⟩, weak_tmps ?_, ⟨(IntKind.i64.wrap (x1 + 1)), L, by omega, hA, h, rfl⟩, by omega⟩
          (try simp only [an]); repeat (first | exact VLeL.nil | refine VLeL.cons (by first | exact VLe.refl _ | exact VLe.any _ | exact VLe.nil _ _ | (refine VLe.agg' ?_; repeat (first | exact VLeL.nil | refine VLeL.cons (by first | exact VLe.refl _ | exact VLe.any _ | exact VLe.nil _ _) ?_))) ?_)
      · have h := ite_f hb h
        repeat refine sat_seq ?_
        refine sat_exit ?_
        repeat refine sat_seq ?_
        refine satO_reg ?_
        refine satO_step 1 [] ⟨.sl 13 (a0.map GNode.el) false :: .fn 27 [] [.ptr m0 j0 0] :: an 2 (.int .i64 (-1) :: an 2 (.int .i64 (a0.length : Int) :: .int .i64 x1 :: .bool (decide (x1 < (a0.length : Int))) :: an 9 [])), ⟨lv + 1, L, E⟩, [], E⟩ [] (by simp -implicitDefEqProofs [GNode.cs, e0, d0]) claims_nil ?_
        refine satO_nil ?_
        repeat refine sat_seq ?_
        refine sat_ret ?_
        refine ends (v := .int .i64 (-1)) (by simp [resultsV, resL, resV, tupOf, Try.f26, pLoad, e0, d0, GNode.cs]) rfl rfl ?_
        injection h with h
        subst h
        exact (.keep _ (by simp [V.kin, V.kinL, GNode.cs]))
end Go.Proofs

namespace Go.Proofs
open Go Go.Ab
set_option maxRecDepth 10000
set_option maxHeartbeats 1000000
set_option linter.unusedSimpArgs false
set_option linter.unusedVariables false
theorem go_derive_Find_ok (n : Nat) (a0 : List GNode) (a1 : List UInt8) (r : Int × Int) (h : go_derive_Find n a0 a1 = some r) : PCall Try.prog 7 [.sl 13 (a0.map GNode.el) false, .str a1] (.tup [.int .i64 r.1, .int .i64 r.2]) := by
  rw [go_derive_Find] at h
  refine pcall_of Try.func7 rfl Try.ntmps7 (fun _ _ => Try.call7 _ _) fun lv E => ?_
  simp only [List.length_cons, List.length_nil, Nat.reduceAdd, Nat.reduceSub, List.replicate, List.cons_append, List.nil_append]
  have hA := AccG.nil (lv + 1)
  generalize ([] : List (Option AObj)) = L at hA ⊢
  repeat refine sat_seq ?_
  refine satO_reg ?_
  refine satO_step 1 [] ⟨.sl 13 (a0.map GNode.el) false :: .str a1 :: an 1 (.ptr (lv + 1) L.length 0 :: an 9 []), ⟨lv + 1, (L ++ [some (.cells [.str a1])]), E⟩, [], E⟩ [] (by simp -implicitDefEqProofs []) claims_nil ?_
  have hA : AccG (lv + 1) (L ++ [some (.cells [.str a1])]) [] [(L.length, .cells [.str a1])] := hA.obj _
  generalize L.length = i2 at hA ⊢
  generalize (L ++ [some (.cells [.str a1])]) = L at hA ⊢
  have g0 := hA.get (k := 0) rfl
  refine satO_step 2 [] ⟨.sl 13 (a0.map GNode.el) false :: .str a1 :: an 1 (.ptr (lv + 1) i2 0 :: .int .i64 0 :: .int .i64 0 :: an 7 []), ⟨lv + 1, L, E⟩, [], E⟩ [] (by simp -implicitDefEqProofs [g0]) claims_nil ?_
  refine satO_nil ?_
  repeat refine sat_seq ?_
  refine satO_reg ?_
  obtain ⟨y3, q4, h⟩ := bnd_hi h
  have g0 := hA.get (k := 0) rfl
  refine satO_step 4 [(.int .i64 y3, none)] ⟨.sl 13 (a0.map GNode.el) false :: .str a1 :: an 1 (.ptr (lv + 1) i2 0 :: .int .i64 0 :: .int .i64 0 :: .int .i64 y3 :: .sl 13 (a0.map GNode.el) false :: .fn 27 [] [.ptr (lv + 1) i2 0] :: .int .i64 y3 :: an 3 []), ⟨lv + 1, L, E⟩, [], E⟩ [⟨26, [.sl 13 (a0.map GNode.el) false, .fn 27 [] [.ptr (lv + 1) i2 0]], ⟨lv + 1, L, E⟩, .int .i64 y3, ⟨lv + 1, L, E⟩⟩] (by simp -implicitDefEqProofs [g0]) (claims_cons (go_slices_IndexFunc_Node_Node__derive_Find_1_ok _ _ _ _ q4 _ (lv + 1) i2 (by simp [Heap.get, g0]) (Nat.le_refl _)) claims_nil) ?_
  refine satO_nil ?_
  repeat refine sat_seq ?_
  refine satO_reg ?_
  have g0 := hA.get (k := 0) rfl
  refine satO_step 2 [] ⟨.sl 13 (a0.map GNode.el) false :: .str a1 :: an 1 (.ptr (lv + 1) i2 0 :: .int .i64 0 :: .int .i64 0 :: .int .i64 y3 :: .sl 13 (a0.map GNode.el) false :: .fn 27 [] [.ptr (lv + 1) i2 0] :: .int .i64 y3 :: .int .i64 y3 :: .bool (decide (0 ≤ y3)) :: an 1 []), ⟨lv + 1, L, E⟩, [], E⟩ [] (by simp -implicitDefEqProofs [g0]) claims_nil ?_
  refine satO_nil ?_
  repeat refine sat_seq ?_
  refine sat_cond rfl (fun hb => ?_) (fun hb => ?_)
  · have h := ite_t hb h
    repeat refine sat_seq ?_
    refine satO_reg ?_
    have g0 := hA.get (k := 0) rfl
    refine satO_step 3 [] ⟨.sl 13 (a0.map GNode.el) false :: .str a1 :: an 1 (.ptr (lv + 1) i2 0 :: .int .i64 y3 :: .int .i64 0 :: .int .i64 y3 :: .sl 13 (a0.map GNode.el) false :: .fn 27 [] [.ptr (lv + 1) i2 0] :: .int .i64 y3 :: .int .i64 y3 :: .bool (decide (0 ≤ y3)) :: .int .i64 y3 :: []), ⟨lv + 1, L, E⟩, [], E⟩ [] (by simp -implicitDefEqProofs [g0]) claims_nil ?_
    refine satO_nil ?_
    repeat refine sat_seq ?_
    refine sat_ret ?_
    have g0 := hA.get (k := 0) rfl
    refine ends (v := .tup [.int .i64 y3, .int .i64 0]) (by simp [resultsV, resL, resV, tupOf, Try.f7, pLoad, g0]) rfl rfl ?_
    injection h with h
    subst h
    exact .keep _ (by simp [V.kin, V.kinL])
  · have h := ite_f hb h
    repeat refine sat_seq ?_
    refine sat_skip ?_
    repeat refine sat_seq ?_
    refine satO_reg ?_
    have g0 := hA.get (k := 0) rfl
    refine satO_step 2 [] ⟨.sl 13 (a0.map GNode.el) false :: .str a1 :: an 1 (.ptr (lv + 1) i2 0 :: .int .i64 0 :: .int .i64 6 :: .int .i64 y3 :: .sl 13 (a0.map GNode.el) false :: .fn 27 [] [.ptr (lv + 1) i2 0] :: .int .i64 y3 :: .int .i64 y3 :: .bool (decide (0 ≤ y3)) :: an 1 []), ⟨lv + 1, L, E⟩, [], E⟩ [] (by simp -implicitDefEqProofs [g0]) claims_nil ?_
    refine satO_nil ?_
    repeat refine sat_seq ?_
    refine sat_ret ?_
    have g0 := hA.get (k := 0) rfl
    refine ends (v := .tup [.int .i64 0, .int .i64 6]) (by simp [resultsV, resL, resV, tupOf, Try.f7, pLoad, g0]) rfl rfl ?_
    injection h with h
    subst h
    exact .keep _ (by simp [V.kin, V.kinL])
end Go.Proofs

namespace Go.Proofs
open Go Go.Ab
set_option maxRecDepth 10000
set_option maxHeartbeats 1000000
set_option linter.unusedSimpArgs false
set_option linter.unusedVariables false
theorem go_ref27_Find_ok (n : Nat) (a0 : List GNode) (a1 : List UInt8) (r : Int × Int) (h : go_ref27_Find n a0 a1 = some r) : PCall Try.prog 8 [.sl 13 (a0.map GNode.el) false, .str a1] (.tup [.int .i64 r.1, .int .i64 r.2]) := by
  rcases n with _ | n
  · simp [go_ref27_Find] at h
  rw [go_ref27_Find] at h
  refine pcall_of Try.func8 rfl Try.ntmps8 (fun _ _ => Try.call8 _ _) fun lv E => ?_
  simp only [List.length_cons, List.length_nil, Nat.reduceAdd, Nat.reduceSub, List.replicate, List.cons_append, List.nil_append]
  have hA := AccG.nil (lv + 1)
  generalize ([] : List (Option AObj)) = L at hA ⊢
  repeat refine sat_seq ?_
  refine satO_reg ?_
  refine satO_step 2 [] ⟨.sl 13 (a0.map GNode.el) false :: .str a1 :: an 2 (.int .i64 0 :: .int .i64 0 :: an 15 []), ⟨lv + 1, L, E⟩, [], E⟩ [] (by simp -implicitDefEqProofs []) claims_nil ?_
  refine satO_nil ?_
  repeat refine sat_seq ?_
  refine satO_reg ?_
  refine satO_step 1 [] ⟨.sl 13 (a0.map GNode.el) false :: .str a1 :: an 2 (.int .i64 0 :: .int .i64 0 :: .int .i64 0 :: an 14 []), ⟨lv + 1, L, E⟩, [], E⟩ [] (by simp -implicitDefEqProofs []) claims_nil ?_
  refine satO_nil ?_
  repeat refine sat_seq ?_
  refine sat_block ?_
  repeat refine sat_seq ?_
  refine sat_loop (fun k σ => ∃ (x1 : Int) (L : List (Option AObj)), k ≤ n ∧ AccG (lv + 1) L [] [] ∧ go_ref27_Find_L1 k a0 a1 x1 = some r ∧ σ = ⟨.sl 13 (a0.map GNode.el) false :: .str a1 :: an 4 (.int .i64 x1 :: an 14 []), ⟨lv + 1, L, E⟩, [], E⟩) n ⟨.sl 13 (a0.map GNode.el) false :: .str a1 :: an 4 (.int .i64 0 :: an 14 []), ⟨lv + 1, L, E⟩, [], E⟩ (weak_tmps ?_) ⟨0, L, Nat.le_refl _, hA, h, rfl⟩ ?_
  · (try simp only [an]); repeat (first | exact VLeL.nil | refine VLeL.cons (by first | exact VLe.refl _ | exact VLe.any _ | exact VLe.nil _ _ | (refine VLe.agg' ?_; repeat (first | exact VLeL.nil | refine VLeL.cons (by first | exact VLe.refl _ | exact VLe.any _ | exact VLe.nil _ _) ?_))) ?_)
  · rintro k σ ⟨x1, L, hk, hA, h, rfl⟩
    rcases k with _ | n
    · simp [go_ref27_Find_L1] at h
    · rw [go_ref27_Find_L1] at h
      repeat refine sat_seq ?_
      refine satO_reg ?_
      refine satO_step 4 [] ⟨.sl 13 (a0.map GNode.el) false :: .str a1 :: an 4 (.int .i64 x1 :: .int .i64 x1 :: .sl 13 (a0.map GNode.el) false :: .int .i64 (a0.length : Int) :: .bool (decide (x1 < (a0.length : Int))) :: an 10 []), ⟨lv + 1, L, E⟩, [], E⟩ [] (by simp -implicitDefEqProofs []) claims_nil ?_
      refine satO_nil ?_
      repeat refine sat_seq ?_
      refine sat_cond rfl (fun hb => ?_) (fun hb => ?_)
      · have h := ite_t hb h
        repeat refine sat_seq ?_
        refine sat_skip ?_
        repeat refine sat_seq ?_
        refine sat_block ?_
        repeat refine sat_seq ?_
        refine satO_reg ?_
        obtain ⟨x2, q3, h⟩ := bnd_hi h
        obtain ⟨q3, q4⟩ := ix_some q3
        refine satO_step 7 [] ⟨.sl 13 (a0.map GNode.el) false :: .str a1 :: an 4 (.int .i64 x1 :: .int .i64 x1 :: .sl 13 (a0.map GNode.el) false :: .int .i64 (a0.length : Int) :: .bool (decide (x1 < (a0.length : Int))) :: an 2 (.sl 13 (a0.map GNode.el) false :: .int .i64 x1 :: .ref x2.cs 0 :: .ref x2.cs 0 :: .str x2.path :: .str a1 :: .bool (x2.path == a1) :: an 1 [])), ⟨lv + 1, L, E⟩, [], E⟩ [] (by simp -implicitDefEqProofs [GNode.cs, q3, q4, GNode.el_cs]) claims_nil ?_
        refine satO_nil ?_
        repeat refine sat_seq ?_
        refine sat_cond rfl (fun hb => ?_) (fun hb => ?_)
        · have h := ite_t hb h
          repeat refine sat_seq ?_
          refine satO_reg ?_
          refine satO_step 3 [] ⟨.sl 13 (a0.map GNode.el) false :: .str a1 :: an 2 (.int .i64 x1 :: .int .i64 0 :: .int .i64 x1 :: .int .i64 x1 :: .sl 13 (a0.map GNode.el) false :: .int .i64 (a0.length : Int) :: .bool (decide (x1 < (a0.length : Int))) :: an 2 (.sl 13 (a0.map GNode.el) false :: .int .i64 x1 :: .ref x2.cs 0 :: .ref x2.cs 0 :: .str x2.path :: .str a1 :: .bool (x2.path == a1) :: .int .i64 x1 :: [])), ⟨lv + 1, L, E⟩, [], E⟩ [] (by simp -implicitDefEqProofs [GNode.cs]) claims_nil ?_
          refine satO_nil ?_
          repeat refine sat_seq ?_
          refine sat_ret ?_
          refine ends (v := .tup [.int .i64 x1, .int .i64 0]) (by simp [resultsV, resL, resV, tupOf, Try.f8, pLoad, GNode.cs]) rfl rfl ?_
          injection h with h
          subst h
          exact .keep _ (by simp [V.kin, V.kinL, GNode.cs])
        · have h := ite_f hb h
          repeat refine sat_seq ?_
          refine sat_skip ?_
          repeat refine sat_seq ?_
          refine satO_reg ?_
          refine satO_step 3 [] ⟨.sl 13 (a0.map GNode.el) false :: .str a1 :: an 4 (.int .i64 (IntKind.i64.wrap (x1 + 1)) :: .int .i64 x1 :: .sl 13 (a0.map GNode.el) false :: .int .i64 (a0.length : Int) :: .bool (decide (x1 < (a0.length : Int))) :: .int .i64 x1 :: .int .i64 (IntKind.i64.wrap (x1 + 1)) :: .sl 13 (a0.map GNode.el) false :: .int .i64 x1 :: .ref x2.cs 0 :: .ref x2.cs 0 :: .str x2.path :: .str a1 :: .bool (x2.path == a1) :: an 1 []), ⟨lv + 1, L, E⟩, [], E⟩ [] (by simp -implicitDefEqProofs [GNode.cs]) claims_nil ?_
          refine satO_nil ?_
          refine ⟨n, ⟨.sl 13 (a0.map GNode.el) false :: .str a1 :: an 4 (.int .i64 (IntKind.i64.wrap (x1 + 1)) :: an 14 []), ⟨lv + 1, L, E⟩, [], E⟩, weak_tmps ?_, ⟨(IntKind.i64.wrap (x1 + 1)), L, by omega, hA, h, rfl⟩, by omega⟩
          (try simp only [an]); repeat (first | exact VLeL.nil | refine VLeL.cons (by first | exact VLe.refl _ | exact VLe.any _ | exact VLe.nil _ _ | (refine VLe.agg' ?_; repeat (first | exact VLeL.nil | refine VLeL.cons (by first | exact VLe.refl _ | exact VLe.any _ | exact VLe.nil _ _) ?_))) ?_)
      · have h := ite_f hb h
        repeat refine sat_seq ?_
        refine sat_exit ?_
        repeat refine sat_seq ?_
        refine satO_reg ?_
        refine satO_step 2 [] ⟨.sl 13 (a0.map GNode.el) false :: .str a1 :: an 2 (.int .i64 0 :: .int .i64 6 :: .int .i64 x1 :: .int .i64 x1 :: .sl 13 (a0.map GNode.el) false :: .int .i64 (a0.length : Int) :: .bool (decide (x1 < (a0.length : Int))) :: an 10 []), ⟨lv + 1, L, E⟩, [], E⟩ [] (by simp -implicitDefEqProofs [GNode.cs]) claims_nil ?_
        refine satO_nil ?_
        repeat refine sat_seq ?_
        refine sat_ret ?_
        refine ends (v := .tup [.int .i64 0, .int .i64 6]) (by simp [resultsV, resL, resV, tupOf, Try.f8, pLoad, GNode.cs]) rfl rfl ?_
        injection h with h
        subst h
        exact .keep _ (by simp [V.kin, V.kinL, GNode.cs])
end Go.Proofs

namespace Go.Proofs
open Go Go.Ab
set_option maxRecDepth 10000
set_option maxHeartbeats 1000000
set_option linter.unusedSimpArgs false
set_option linter.unusedVariables false
theorem go_value_Twin_1__value_Twin_1_ok : ∀ n : Nat, (∀ (a0 : GValue) (r : GValue), go_value_Twin_1__value_Twin_1 n a0 = some r → ∀ (H : Heap) (m0 j0 : Nat), H.get m0 j0 = some (.cells [.fn 60 [] [.ptr m0 j0 0]]) → m0 ≤ H.lv → HCall Try.prog 60 [.agg a0.cs, .ptr m0 j0 0] H (.agg r.cs) H) := by
  intro n; induction n using Nat.strongRecOn with | ind n ih =>
  intro a0 r h
  rcases n with _ | n
  · simp [go_value_Twin_1__value_Twin_1] at h
  rw [go_value_Twin_1__value_Twin_1] at h
  intro H m0 j0 e0 b0
  refine hcall_pure Try.func60 rfl Try.ntmps60 (fun _ _ => Try.call60 _ _) fun lv E hlv hE => ?_
  simp only [List.length_cons, List.length_nil, Nat.reduceAdd, Nat.reduceSub, List.replicate, List.cons_append, List.nil_append]
  have e0 := (congrFun (congrFun hE m0) j0).trans e0
  have b0 : m0 ≤ lv := by rw [hlv]; exact b0
  have d0 : (m0 = lv + 1) = False := by simp; omega
  clear hE hlv
  have hA := AccG.nil (lv + 1)
  generalize ([] : List (Option AObj)) = L at hA ⊢
  repeat refine sat_seq ?_
  refine satO_reg ?_
  refine satO_step 1 [] ⟨.agg a0.cs :: .ptr m0 j0 0 :: .ptr (lv + 1) L.length 0 :: an 21 [], ⟨lv + 1, (L ++ [some (.cells a0.cs)]), E⟩, [], E⟩ [] (by simp -implicitDefEqProofs [GValue.cs]) claims_nil ?_
  have hA : AccG (lv + 1) (L ++ [some (.cells a0.cs)]) [] [(L.length, .cells a0.cs)] := hA.obj _
  generalize L.length = i2 at hA ⊢
  generalize (L ++ [some (.cells a0.cs)]) = L at hA ⊢
  refine satO_step 1 [] ⟨.agg a0.cs :: .ptr m0 j0 0 :: .ptr (lv + 1) i2 0 :: .ptr (lv + 1) L.length 0 :: an 20 [], ⟨lv + 1, (L ++ [some (.cells [.int .u8 0, .int .i64 0, .int .i64 0, .bool false, .str ([]), .nils])]), E⟩, [], E⟩ [] (by simp -implicitDefEqProofs [GValue.cs]) claims_nil ?_
  have hA : AccG (lv + 1) (L ++ [some (.cells [.int .u8 0, .int .i64 0, .int .i64 0, .bool false, .str ([]), .nils])]) [] [(i2, .cells a0.cs), (L.length, .cells [.int .u8 0, .int .i64 0, .int .i64 0, .bool false, .str ([]), .nils])] := hA.obj _
  generalize L.length = i4 at hA ⊢
  generalize (L ++ [some (.cells [.int .u8 0, .int .i64 0, .int .i64 0, .bool false, .str ([]), .nils])]) = L at hA ⊢
  refine satO_nil ?_
  repeat refine sat_seq ?_
  refine satO_reg ?_
  have g0 := hA.get (k := 0) rfl
  have g1 := hA.get (k := 1) rfl
  refine satO_step 1 [] ⟨.agg a0.cs :: .ptr m0 j0 0 :: .ptr (lv + 1) i2 0 :: .ptr (lv + 1) i4 0 :: .nils :: an 19 [], ⟨lv + 1, L, E⟩, [], E⟩ [] (by simp -implicitDefEqProofs [GValue.cs, g0, g1, e0, d0]) claims_nil ?_
  refine satO_nil ?_
  repeat refine sat_seq ?_
  refine satO_reg ?_
  have g0 := hA.get (k := 0) rfl
  have g1 := hA.get (k := 1) rfl
  refine satO_step 4 [] ⟨.agg a0.cs :: .ptr m0 j0 0 :: .ptr (lv + 1) i2 0 :: .ptr (lv + 1) i4 0 :: .nils :: an 2 (.ptr (lv + 1) i2 5 :: .sl 6 (a0.list.map GValue.el) false :: .int .i64 (a0.list.length : Int) :: .int .i64 0 :: an 13 []), ⟨lv + 1, L, E⟩, [], E⟩ [] (by simp -implicitDefEqProofs [GValue.cs, g0, g1, e0, d0]) claims_nil ?_
  refine satO_nil ?_
  repeat refine sat_seq ?_
  refine sat_block ?_
  repeat refine sat_seq ?_
  have hA := hA.cons 73 6
  refine sat_loop (fun k σ => ∃ (x8 : Int) (v6 : V) (l7 : List GValue) (L : List (Option AObj)), k ≤ n ∧ AccG (lv + 1) L [⟨73, 6, v6, l7.map GValue.el⟩] [(i2, .cells a0.cs), (i4, .cells [.int .u8 0, .int .i64 0, .int .i64 0, .bool false, .str ([]), .nils])] ∧ go_value_Twin_1__value_Twin_1_L1 k a0 l7 x8 = some r ∧ σ = ⟨an 1 (.ptr m0 j0 0 :: .ptr (lv + 1) i2 0 :: .ptr (lv + 1) i4 0 :: v6 :: an 3 (.sl 6 (a0.list.map GValue.el) false :: .int .i64 (a0.list.length : Int) :: .int .i64 x8 :: an 13 [])), ⟨lv + 1, L, E⟩, [], E⟩) n ⟨an 1 (.ptr m0 j0 0 :: .ptr (lv + 1) i2 0 :: .ptr (lv + 1) i4 0 :: .nils :: an 3 (.sl 6 (a0.list.map GValue.el) false :: .int .i64 (a0.list.length : Int) :: .int .i64 0 :: an 13 [])), ⟨lv + 1, L, E⟩, [], E⟩ (weak_tmps ?_) ⟨0, .nils, ([]), L, Nat.le_refl _, hA, h, rfl⟩ ?_
  · (try simp only [an]); repeat (first | exact VLeL.nil | refine VLeL.cons (by first | exact VLe.refl _ | exact VLe.any _ | exact VLe.nil _ _ | (refine VLe.agg' ?_; repeat (first | exact VLeL.nil | refine VLeL.cons (by first | exact VLe.refl _ | exact VLe.any _ | exact VLe.nil _ _) ?_))) ?_)
  · rintro k σ ⟨x8, v6, l7, L, hk, hA, h, rfl⟩
    rcases k with _ | n
    · simp [go_value_Twin_1__value_Twin_1_L1] at h
    · rw [go_value_Twin_1__value_Twin_1_L1] at h
      repeat refine sat_seq ?_
      refine satO_reg ?_
      have g0 := hA.get (k := 0) rfl
      have g1 := hA.get (k := 1) rfl
      obtain ⟨w0a, w0b, w0c⟩ := hA.whole (j := 0) rfl
      refine satO_step 1 [] ⟨an 1 (.ptr m0 j0 0 :: .ptr (lv + 1) i2 0 :: .ptr (lv + 1) i4 0 :: v6 :: an 3 (.sl 6 (a0.list.map GValue.el) false :: .int .i64 (a0.list.length : Int) :: .int .i64 x8 :: .bool (decide (x8 < (a0.list.length : Int))) :: an 12 [])), ⟨lv + 1, L, E⟩, [], E⟩ [] (by simp -implicitDefEqProofs [GValue.cs, g0, g1, w0a, w0b, w0c, e0, d0]) claims_nil ?_
      refine satO_nil ?_
      repeat refine sat_seq ?_
      refine sat_cond rfl (fun hb => ?_) (fun hb => ?_)
      · have h := ite_t hb h
        repeat refine sat_seq ?_
        refine sat_skip ?_
        repeat refine sat_seq ?_
        refine sat_block ?_
        repeat refine sat_seq ?_
        refine satO_reg ?_
        obtain ⟨x9, q10, h⟩ := bnd_hi h
        obtain ⟨q10, q11⟩ := ix_some q10
        have g0 := hA.get (k := 0) rfl
        have g1 := hA.get (k := 1) rfl
        obtain ⟨w0a, w0b, w0c⟩ := hA.whole (j := 0) rfl
        refine satO_step 2 [] ⟨an 1 (.ptr m0 j0 0 :: .ptr (lv + 1) i2 0 :: .ptr (lv + 1) i4 0 :: v6 :: an 3 (.sl 6 (a0.list.map GValue.el) false :: .int .i64 (a0.list.length : Int) :: .int .i64 x8 :: .bool (decide (x8 < (a0.list.length : Int))) :: .ref x9.cs 0 :: .agg x9.cs :: an 10 [])), ⟨lv + 1, L, E⟩, [], E⟩ [] (by simp -implicitDefEqProofs [GValue.cs, g0, g1, w0a, w0b, w0c, e0, d0, q10, q11, GValue.el_cs]) claims_nil ?_
        refine satO_step 1 [] ⟨an 1 (.ptr m0 j0 0 :: .ptr (lv + 1) i2 0 :: .ptr (lv + 1) i4 0 :: v6 :: an 1 (.ptr (lv + 1) L.length 0 :: an 1 (.sl 6 (a0.list.map GValue.el) false :: .int .i64 (a0.list.length : Int) :: .int .i64 x8 :: .bool (decide (x8 < (a0.list.length : Int))) :: .ref x9.cs 0 :: .agg x9.cs :: an 10 []))), ⟨lv + 1, (L ++ [some (.cells [.int .u8 0, .int .i64 0, .int .i64 0, .bool false, .str ([]), .nils])]), E⟩, [], E⟩ [] (by simp -implicitDefEqProofs [GValue.cs]) claims_nil ?_
        have hA : AccG (lv + 1) (L ++ [some (.cells [.int .u8 0, .int .i64 0, .int .i64 0, .bool false, .str ([]), .nils])]) [⟨73, 6, v6, l7.map GValue.el⟩] [(i2, .cells a0.cs), (i4, .cells [.int .u8 0, .int .i64 0, .int .i64 0, .bool false, .str ([]), .nils]), (L.length, .cells [.int .u8 0, .int .i64 0, .int .i64 0, .bool false, .str ([]), .nils])] := hA.obj _
        generalize L.length = i13 at hA ⊢
        generalize (L ++ [some (.cells [.int .u8 0, .int .i64 0, .int .i64 0, .bool false, .str ([]), .nils])]) = L at hA ⊢
        have g0 := hA.get (k := 0) rfl
        have g1 := hA.get (k := 1) rfl
        have g2 := hA.get (k := 2) rfl
        obtain ⟨w0a, w0b, w0c⟩ := hA.whole (j := 0) rfl
        refine satO_step 1 [] ⟨an 1 (.ptr m0 j0 0 :: .ptr (lv + 1) i2 0 :: .ptr (lv + 1) i4 0 :: v6 :: an 1 (.ptr (lv + 1) i13 0 :: an 1 (.sl 6 (a0.list.map GValue.el) false :: .int .i64 (a0.list.length : Int) :: .int .i64 x8 :: .bool (decide (x8 < (a0.list.length : Int))) :: .ref x9.cs 0 :: .agg x9.cs :: an 10 []))), ⟨lv + 1, (L.set i13 (some (.cells x9.cs))), E⟩, [], E⟩ [] (by simp -implicitDefEqProofs [GValue.cs, g0, g1, g2, w0a, w0b, w0c, e0, d0]) claims_nil ?_
        have hA : AccG (lv + 1) (L.set i13 (some (.cells x9.cs))) [⟨73, 6, v6, l7.map GValue.el⟩] [(i2, .cells a0.cs), (i4, .cells [.int .u8 0, .int .i64 0, .int .i64 0, .bool false, .str ([]), .nils]), (i13, .cells x9.cs)] := hA.upd (k := 2) rfl _
        generalize (L.set i13 (some (.cells x9.cs))) = L at hA ⊢
        refine satO_nil ?_
        repeat refine sat_seq ?_
        refine satO_reg ?_
        obtain ⟨y14, q15, h⟩ := bnd_hi h
        have g0 := hA.get (k := 0) rfl
        have g1 := hA.get (k := 1) rfl
        have g2 := hA.get (k := 2) rfl
        obtain ⟨w0a, w0b, w0c⟩ := hA.whole (j := 0) rfl
        refine satO_step 5 [(.agg y14.cs, none)] ⟨an 1 (.ptr m0 j0 0 :: .ptr (lv + 1) i2 0 :: .ptr (lv + 1) i4 0 :: v6 :: an 1 (.ptr (lv + 1) i13 0 :: an 1 (.sl 6 (a0.list.map GValue.el) false :: .int .i64 (a0.list.length : Int) :: .int .i64 x8 :: .bool (decide (x8 < (a0.list.length : Int))) :: .ref x9.cs 0 :: .agg x9.cs :: v6 :: .fn 60 [] [.ptr m0 j0 0] :: .agg x9.cs :: .agg y14.cs :: .sl 6 [.agg y14.cs] true :: an 5 []))), ⟨lv + 1, L, E⟩, [], E⟩ [⟨60, [.agg x9.cs, .ptr m0 j0 0], ⟨lv + 1, L, E⟩, .agg y14.cs, ⟨lv + 1, L, E⟩⟩] (by simp -implicitDefEqProofs [GValue.cs, g0, g1, g2, w0a, w0b, w0c, e0, d0]) (claims_cons (ih _ (by omega) _ _ q15 _ m0 j0 (by simp [Heap.get, d0, e0]) (Nat.le_succ_of_le b0)) claims_nil) ?_
        obtain ⟨l16, q17, h⟩ := bnd_hi h
        obtain ⟨q17, q18⟩ := ext_some q17
        obtain ⟨v19, L, q20, hA⟩ := hA.push (j := 0) rfl [.agg y14.cs] (by simpa using q17) E
        refine satO_step 1 [] ⟨an 1 (.ptr m0 j0 0 :: .ptr (lv + 1) i2 0 :: .ptr (lv + 1) i4 0 :: v6 :: an 1 (.ptr (lv + 1) i13 0 :: an 1 (.sl 6 (a0.list.map GValue.el) false :: .int .i64 (a0.list.length : Int) :: .int .i64 x8 :: .bool (decide (x8 < (a0.list.length : Int))) :: .ref x9.cs 0 :: .agg x9.cs :: v6 :: .fn 60 [] [.ptr m0 j0 0] :: .agg x9.cs :: .agg y14.cs :: .sl 6 [.agg y14.cs] true :: v19 :: an 4 []))), ⟨lv + 1, L, E⟩, [], E⟩ [] (by simp -implicitDefEqProofs [q20]) claims_nil ?_
        have hA : AccG (lv + 1) L [⟨73, 6, v19, l16.map GValue.el⟩] [(i2, .cells a0.cs), (i4, .cells [.int .u8 0, .int .i64 0, .int .i64 0, .bool false, .str ([]), .nils]), (i13, .cells x9.cs)] := by rw [q18]; simpa [GValue.el_cs] using hA
        have g0 := hA.get (k := 0) rfl
        have g1 := hA.get (k := 1) rfl
        have g2 := hA.get (k := 2) rfl
        obtain ⟨w0a, w0b, w0c⟩ := hA.whole (j := 0) rfl
        refine satO_step 1 [] ⟨an 1 (.ptr m0 j0 0 :: .ptr (lv + 1) i2 0 :: .ptr (lv + 1) i4 0 :: v19 :: an 1 (.ptr (lv + 1) i13 0 :: an 1 (.sl 6 (a0.list.map GValue.el) false :: .int .i64 (a0.list.length : Int) :: .int .i64 x8 :: .bool (decide (x8 < (a0.list.length : Int))) :: .ref x9.cs 0 :: .agg x9.cs :: v6 :: .fn 60 [] [.ptr m0 j0 0] :: .agg x9.cs :: .agg y14.cs :: .sl 6 [.agg y14.cs] true :: v19 :: an 4 []))), ⟨lv + 1, L, E⟩, [], E⟩ [] (by simp -implicitDefEqProofs [GValue.cs, g0, g1, g2, w0a, w0b, w0c, e0, d0]) claims_nil ?_
        refine satO_nil ?_
        repeat refine sat_seq ?_
        refine satO_reg ?_
        have g0 := hA.get (k := 0) rfl
        have g1 := hA.get (k := 1) rfl
        have g2 := hA.get (k := 2) rfl
        obtain ⟨w0a, w0b, w0c⟩ := hA.whole (j := 0) rfl
        refine satO_step 2 [] ⟨an 1 (.ptr m0 j0 0 :: .ptr (lv + 1) i2 0 :: .ptr (lv + 1) i4 0 :: v19 :: an 1 (.ptr (lv + 1) i13 0 :: an 1 (.sl 6 (a0.list.map GValue.el) false :: .int .i64 (a0.list.length : Int) :: .int .i64 (IntKind.i64.wrap (x8 + 1)) :: .bool (decide (x8 < (a0.list.length : Int))) :: .ref x9.cs 0 :: .agg x9.cs :: v6 :: .fn 60 [] [.ptr m0 j0 0] :: .agg x9.cs :: .agg y14.cs :: .sl 6 [.agg y14.cs] true :: v19 :: .int .i64 (IntKind.i64.wrap (x8 + 1)) :: an 3 []))), ⟨lv + 1, L, E⟩, [], E⟩ [] (by simp -implicitDefEqProofs [GValue.cs, g0, g1, g2, w0a, w0b, w0c, e0, d0]) claims_nil ?_
        refine satO_nil ?_
        have hA : AccG (lv + 1) L [⟨73, 6, v19, l16.map GValue.el⟩] [(i2, .cells a0.cs), (i4, .cells [.int .u8 0, .int .i64 0, .int .i64 0, .bool false, .str ([]), .nils])] := hA.sel [0] (by simp) rfl (.cons_cons _ (.cons_cons _ (.cons _ .slnil)))
        refine ⟨n, ⟨an 1 (.ptr m0 j0 0 :: .ptr (lv + 1) i2 0 :: .ptr (lv + 1) i4 0 :: v19 :: an 3 (.sl 6 (a0.list.map GValue.el) false :: .int .i64 (a0.list.length : Int) :: .int .i64 (IntKind.i64.wrap (x8 + 1)) :: an 13 [])), ⟨lv + 1, L, E⟩, [], E⟩, weak_tmps ?_, ⟨(IntKind.i64.wrap (x8 + 1)), v19, l16, L, by omega, hA, h, rfl⟩, by omega⟩
        (try simp only [an]); repeat (first | exact VLeL.nil | refine VLeL.cons (by first | exact VLe.refl _ | exact VLe.any _ | exact VLe.nil _ _ | (refine VLe.agg' ?_; repeat (first | exact VLeL.nil | refine VLeL.cons (by first | exact VLe.refl _ | exact VLe.any _ | exact VLe.nil _ _) ?_))) ?_)
      · have h := ite_f hb h
        repeat refine sat_seq ?_
        refine sat_exit ?_
        repeat refine sat_seq ?_
        refine satO_reg ?_
        have g0 := hA.get (k := 0) rfl
        have g1 := hA.get (k := 1) rfl
        obtain ⟨w0a, w0b, w0c⟩ := hA.whole (j := 0) rfl
        refine satO_step 2 [] ⟨an 1 (.ptr m0 j0 0 :: .ptr (lv + 1) i2 0 :: .ptr (lv + 1) i4 0 :: v6 :: an 3 (.sl 6 (a0.list.map GValue.el) false :: .int .i64 (a0.list.length : Int) :: .int .i64 x8 :: .bool (decide (x8 < (a0.list.length : Int))) :: an 9 (v6 :: .ptr (lv + 1) i2 5 :: an 1 []))), ⟨lv + 1, L, E⟩, [], E⟩ [] (by simp -implicitDefEqProofs [GValue.cs, g0, g1, w0a, w0b, w0c, e0, d0]) claims_nil ?_
        have g0 := hA.get (k := 0) rfl
        have g1 := hA.get (k := 1) rfl
        obtain ⟨w0a, w0b, w0c⟩ := hA.whole (j := 0) rfl
        refine satO_step 1 [] ⟨an 1 (.ptr m0 j0 0 :: .ptr (lv + 1) i2 0 :: .ptr (lv + 1) i4 0 :: v6 :: an 3 (.sl 6 (a0.list.map GValue.el) false :: .int .i64 (a0.list.length : Int) :: .int .i64 x8 :: .bool (decide (x8 < (a0.list.length : Int))) :: an 9 (v6 :: .ptr (lv + 1) i2 5 :: an 1 []))), ⟨lv + 1, (L.set i2 (some (.cells [.int .u8 a0.kind, .int .i64 a0.num.num, .int .i64 a0.num.den, .bool a0.truth, .str a0.str, v6]))), E⟩, [], E⟩ [] (by simp -implicitDefEqProofs [GValue.cs, g0, g1, w0a, w0b, w0c, e0, d0]) claims_nil ?_
        have hA : AccG (lv + 1) (L.set i2 (some (.cells [.int .u8 a0.kind, .int .i64 a0.num.num, .int .i64 a0.num.den, .bool a0.truth, .str a0.str, v6]))) [⟨73, 6, v6, l7.map GValue.el⟩] [(i2, .cells [.int .u8 a0.kind, .int .i64 a0.num.num, .int .i64 a0.num.den, .bool a0.truth, .str a0.str, v6]), (i4, .cells [.int .u8 0, .int .i64 0, .int .i64 0, .bool false, .str ([]), .nils])] := hA.upd (k := 0) rfl _
        generalize (L.set i2 (some (.cells [.int .u8 a0.kind, .int .i64 a0.num.num, .int .i64 a0.num.den, .bool a0.truth, .str a0.str, v6]))) = L at hA ⊢
        refine satO_nil ?_
        repeat refine sat_seq ?_
        refine satO_reg ?_
        have g0 := hA.get (k := 0) rfl
        have g1 := hA.get (k := 1) rfl
        obtain ⟨w0a, w0b, w0c⟩ := hA.whole (j := 0) rfl
        refine satO_step 1 [] ⟨an 1 (.ptr m0 j0 0 :: .ptr (lv + 1) i2 0 :: .ptr (lv + 1) i4 0 :: v6 :: an 3 (.sl 6 (a0.list.map GValue.el) false :: .int .i64 (a0.list.length : Int) :: .int .i64 x8 :: .bool (decide (x8 < (a0.list.length : Int))) :: an 9 (v6 :: .ptr (lv + 1) i2 5 :: .agg [.int .u8 a0.kind, .int .i64 a0.num.num, .int .i64 a0.num.den, .bool a0.truth, .str a0.str, v6] :: []))), ⟨lv + 1, L, E⟩, [], E⟩ [] (by simp -implicitDefEqProofs [GValue.cs, g0, g1, w0a, w0b, w0c, e0, d0]) claims_nil ?_
        have g0 := hA.get (k := 0) rfl
        have g1 := hA.get (k := 1) rfl
        obtain ⟨w0a, w0b, w0c⟩ := hA.whole (j := 0) rfl
        refine satO_step 1 [] ⟨an 1 (.ptr m0 j0 0 :: .ptr (lv + 1) i2 0 :: .ptr (lv + 1) i4 0 :: v6 :: an 3 (.sl 6 (a0.list.map GValue.el) false :: .int .i64 (a0.list.length : Int) :: .int .i64 x8 :: .bool (decide (x8 < (a0.list.length : Int))) :: an 9 (v6 :: .ptr (lv + 1) i2 5 :: .agg [.int .u8 a0.kind, .int .i64 a0.num.num, .int .i64 a0.num.den, .bool a0.truth, .str a0.str, v6] :: []))), ⟨lv + 1, (L.set i4 (some (.cells [.int .u8 a0.kind, .int .i64 a0.num.num, .int .i64 a0.num.den, .bool a0.truth, .str a0.str, v6]))), E⟩, [], E⟩ [] (by simp -implicitDefEqProofs [GValue.cs, g0, g1, w0a, w0b, w0c, e0, d0]) claims_nil ?_
        have hA : AccG (lv + 1) (L.set i4 (some (.cells [.int .u8 a0.kind, .int .i64 a0.num.num, .int .i64 a0.num.den, .bool a0.truth, .str a0.str, v6]))) [⟨73, 6, v6, l7.map GValue.el⟩] [(i2, .cells [.int .u8 a0.kind, .int .i64 a0.num.num, .int .i64 a0.num.den, .bool a0.truth, .str a0.str, v6]), (i4, .cells [.int .u8 a0.kind, .int .i64 a0.num.num, .int .i64 a0.num.den, .bool a0.truth, .str a0.str, v6])] := hA.upd (k := 1) rfl _
        generalize (L.set i4 (some (.cells [.int .u8 a0.kind, .int .i64 a0.num.num, .int .i64 a0.num.den, .bool a0.truth, .str a0.str, v6]))) = L at hA ⊢
        refine satO_nil ?_
        repeat refine sat_seq ?_
        refine sat_ret ?_
        have g0 := hA.get (k := 0) rfl
        have g1 := hA.get (k := 1) rfl
        obtain ⟨w0a, w0b, w0c⟩ := hA.whole (j := 0) rfl
        refine ends (v := .agg [.int .u8 a0.kind, .int .i64 a0.num.num, .int .i64 a0.num.den, .bool a0.truth, .str a0.str, v6]) (by simp [resultsV, resL, resV, tupOf, Try.f60, pLoad, g0, g1, w0a, w0b, w0c, e0, d0, GValue.cs]) rfl rfl ?_
        injection h with h
        subst h
        exact (VS.agg' (.cons (.keep _ (by simp [V.kin, V.kinL, GValue.cs])) (.cons (.keep _ (by simp [V.kin, V.kinL, GValue.cs])) (.cons (.keep _ (by simp [V.kin, V.kinL, GValue.cs])) (.cons (.keep _ (by simp [V.kin, V.kinL, GValue.cs])) (.cons (.keep _ (by simp [V.kin, V.kinL, GValue.cs])) (.cons (hA.shut (j := 0) rfl (by simp [V.kin, V.kinL, GValue.cs])) .nil)))))))
end Go.Proofs

namespace Go.Proofs
open Go Go.Ab
set_option maxRecDepth 10000
set_option maxHeartbeats 1000000
set_option linter.unusedSimpArgs false
set_option linter.unusedVariables false
theorem go_value_Twin_ok (n : Nat) (a0 : GValue) (r : GValue) (h : go_value_Twin n a0 = some r) : PCall Try.prog 44 [.agg a0.cs] (.agg r.cs) := by
  rw [go_value_Twin] at h
  refine pcall_of Try.func44 rfl Try.ntmps44 (fun _ _ => Try.call44 _ _) fun lv E => ?_
  simp only [List.length_cons, List.length_nil, Nat.reduceAdd, Nat.reduceSub, List.replicate, List.cons_append, List.nil_append]
  have hA := AccG.nil (lv + 1)
  generalize ([] : List (Option AObj)) = L at hA ⊢
  repeat refine sat_seq ?_
  refine satO_reg ?_
  refine satO_step 1 [] ⟨.agg a0.cs :: .ptr (lv + 1) L.length 0 :: an 6 [], ⟨lv + 1, (L ++ [some (.cells a0.cs)]), E⟩, [], E⟩ [] (by simp -implicitDefEqProofs [GValue.cs]) claims_nil ?_
  have hA : AccG (lv + 1) (L ++ [some (.cells a0.cs)]) [] [(L.length, .cells a0.cs)] := hA.obj _
  generalize L.length = i2 at hA ⊢
  generalize (L ++ [some (.cells a0.cs)]) = L at hA ⊢
  refine satO_step 1 [] ⟨.agg a0.cs :: .ptr (lv + 1) i2 0 :: .ptr (lv + 1) L.length 0 :: an 5 [], ⟨lv + 1, (L ++ [some (.cells [.int .u8 0, .int .i64 0, .int .i64 0, .bool false, .str ([]), .nils])]), E⟩, [], E⟩ [] (by simp -implicitDefEqProofs [GValue.cs]) claims_nil ?_
  have hA : AccG (lv + 1) (L ++ [some (.cells [.int .u8 0, .int .i64 0, .int .i64 0, .bool false, .str ([]), .nils])]) [] [(i2, .cells a0.cs), (L.length, .cells [.int .u8 0, .int .i64 0, .int .i64 0, .bool false, .str ([]), .nils])] := hA.obj _
  generalize L.length = i4 at hA ⊢
  generalize (L ++ [some (.cells [.int .u8 0, .int .i64 0, .int .i64 0, .bool false, .str ([]), .nils])]) = L at hA ⊢
  refine satO_nil ?_
  repeat refine sat_seq ?_
  refine satO_reg ?_
  refine satO_step 1 [] ⟨.agg a0.cs :: .ptr (lv + 1) i2 0 :: .ptr (lv + 1) i4 0 :: .ptr (lv + 1) L.length 0 :: an 4 [], ⟨lv + 1, (L ++ [some (.cells [.nilf])]), E⟩, [], E⟩ [] (by simp -implicitDefEqProofs [GValue.cs]) claims_nil ?_
  have hA : AccG (lv + 1) (L ++ [some (.cells [.nilf])]) [] [(i2, .cells a0.cs), (i4, .cells [.int .u8 0, .int .i64 0, .int .i64 0, .bool false, .str ([]), .nils]), (L.length, .cells [.nilf])] := hA.obj _
  generalize L.length = i6 at hA ⊢
  generalize (L ++ [some (.cells [.nilf])]) = L at hA ⊢
  refine satO_nil ?_
  repeat refine sat_seq ?_
  refine satO_reg ?_
  have g0 := hA.get (k := 0) rfl
  have g1 := hA.get (k := 1) rfl
  have g2 := hA.get (k := 2) rfl
  refine satO_step 1 [] ⟨.agg a0.cs :: .ptr (lv + 1) i2 0 :: .ptr (lv + 1) i4 0 :: .ptr (lv + 1) i6 0 :: .fn 60 [] [.ptr (lv + 1) i6 0] :: an 3 [], ⟨lv + 1, L, E⟩, [], E⟩ [] (by simp -implicitDefEqProofs [GValue.cs, g0, g1, g2]) claims_nil ?_
  have g0 := hA.get (k := 0) rfl
  have g1 := hA.get (k := 1) rfl
  have g2 := hA.get (k := 2) rfl
  refine satO_step 1 [] ⟨.agg a0.cs :: .ptr (lv + 1) i2 0 :: .ptr (lv + 1) i4 0 :: .ptr (lv + 1) i6 0 :: .fn 60 [] [.ptr (lv + 1) i6 0] :: an 3 [], ⟨lv + 1, (L.set i6 (some (.cells [.fn 60 [] [.ptr (lv + 1) i6 0]]))), E⟩, [], E⟩ [] (by simp -implicitDefEqProofs [GValue.cs, g0, g1, g2]) claims_nil ?_
  have hA : AccG (lv + 1) (L.set i6 (some (.cells [.fn 60 [] [.ptr (lv + 1) i6 0]]))) [] [(i2, .cells a0.cs), (i4, .cells [.int .u8 0, .int .i64 0, .int .i64 0, .bool false, .str ([]), .nils]), (i6, .cells [.fn 60 [] [.ptr (lv + 1) i6 0]])] := hA.upd (k := 2) rfl _
  generalize (L.set i6 (some (.cells [.fn 60 [] [.ptr (lv + 1) i6 0]]))) = L at hA ⊢
  refine satO_nil ?_
  repeat refine sat_seq ?_
  refine satO_reg ?_
  obtain ⟨y7, q8, h⟩ := bnd_hi h
  have g0 := hA.get (k := 0) rfl
  have g1 := hA.get (k := 1) rfl
  have g2 := hA.get (k := 2) rfl
  refine satO_step 3 [(.agg y7.cs, none)] ⟨.agg a0.cs :: .ptr (lv + 1) i2 0 :: .ptr (lv + 1) i4 0 :: .ptr (lv + 1) i6 0 :: .fn 60 [] [.ptr (lv + 1) i6 0] :: .fn 60 [] [.ptr (lv + 1) i6 0] :: .agg a0.cs :: .agg y7.cs :: [], ⟨lv + 1, L, E⟩, [], E⟩ [⟨60, [.agg a0.cs, .ptr (lv + 1) i6 0], ⟨lv + 1, L, E⟩, .agg y7.cs, ⟨lv + 1, L, E⟩⟩] (by simp -implicitDefEqProofs [GValue.cs, g0, g1, g2]) (claims_cons (go_value_Twin_1__value_Twin_1_ok _ _ _ q8 _ (lv + 1) i6 (by simp [Heap.get, g0, g1, g2]) (Nat.le_refl _)) claims_nil) ?_
  have g0 := hA.get (k := 0) rfl
  have g1 := hA.get (k := 1) rfl
  have g2 := hA.get (k := 2) rfl
  refine satO_step 1 [] ⟨.agg a0.cs :: .ptr (lv + 1) i2 0 :: .ptr (lv + 1) i4 0 :: .ptr (lv + 1) i6 0 :: .fn 60 [] [.ptr (lv + 1) i6 0] :: .fn 60 [] [.ptr (lv + 1) i6 0] :: .agg a0.cs :: .agg y7.cs :: [], ⟨lv + 1, (L.set i4 (some (.cells y7.cs))), E⟩, [], E⟩ [] (by simp -implicitDefEqProofs [GValue.cs, g0, g1, g2]) claims_nil ?_
  have hA : AccG (lv + 1) (L.set i4 (some (.cells y7.cs))) [] [(i2, .cells a0.cs), (i4, .cells y7.cs), (i6, .cells [.fn 60 [] [.ptr (lv + 1) i6 0]])] := hA.upd (k := 1) rfl _
  generalize (L.set i4 (some (.cells y7.cs))) = L at hA ⊢
  refine satO_nil ?_
  repeat refine sat_seq ?_
  refine sat_ret ?_
  have g0 := hA.get (k := 0) rfl
  have g1 := hA.get (k := 1) rfl
  have g2 := hA.get (k := 2) rfl
  refine ends (v := .agg y7.cs) (by simp [resultsV, resL, resV, tupOf, Try.f44, pLoad, g0, g1, g2, GValue.cs]) rfl rfl ?_
  injection h with h
  subst h
  exact (.keep _ (by simp [V.kin, V.kinL, GValue.cs]))
end Go.Proofs

namespace Go.Proofs
open Go Go.Ab
set_option maxRecDepth 10000
set_option maxHeartbeats 1000000
set_option linter.unusedSimpArgs false
set_option linter.unusedVariables false
theorem go_derive_twin_ok (n : Nat) (a0 : GNode) (r : GNode) (h : go_derive_twin n a0 = some r) : PCall Try.prog 28 [.agg a0.cs] (.agg r.cs) := by
  rcases n with _ | n
  · simp [go_derive_twin] at h
  rw [go_derive_twin] at h
  refine pcall_of Try.func28 rfl Try.ntmps28 (fun _ _ => Try.call28 _ _) fun lv E => ?_
  simp only [List.length_cons, List.length_nil, Nat.reduceAdd, Nat.reduceSub, List.replicate, List.cons_append, List.nil_append]
  have hA := AccG.nil (lv + 1)
  generalize ([] : List (Option AObj)) = L at hA ⊢
  repeat refine sat_seq ?_
  refine satO_reg ?_
  refine satO_step 1 [] ⟨.agg a0.cs :: .ptr (lv + 1) L.length 0 :: an 20 [], ⟨lv + 1, (L ++ [some (.cells a0.cs)]), E⟩, [], E⟩ [] (by simp -implicitDefEqProofs [GNode.cs]) claims_nil ?_
  have hA : AccG (lv + 1) (L ++ [some (.cells a0.cs)]) [] [(L.length, .cells a0.cs)] := hA.obj _
  generalize L.length = i2 at hA ⊢
  generalize (L ++ [some (.cells a0.cs)]) = L at hA ⊢
  refine satO_step 1 [] ⟨.agg a0.cs :: .ptr (lv + 1) i2 0 :: .ptr (lv + 1) L.length 0 :: an 19 [], ⟨lv + 1, (L ++ [some (.cells [.str ([]), .str ([]), .nils, .int .u8 0, .int .i64 0, .int .i64 0, .int .i64 0, .int .i64 0, .int .i64 0, .int .i64 0, .str ([]), .int .i64 0, .bool false])]), E⟩, [], E⟩ [] (by simp -implicitDefEqProofs [GNode.cs]) claims_nil ?_
  have hA : AccG (lv + 1) (L ++ [some (.cells [.str ([]), .str ([]), .nils, .int .u8 0, .int .i64 0, .int .i64 0, .int .i64 0, .int .i64 0, .int .i64 0, .int .i64 0, .str ([]), .int .i64 0, .bool false])]) [] [(i2, .cells a0.cs), (L.length, .cells [.str ([]), .str ([]), .nils, .int .u8 0, .int .i64 0, .int .i64 0, .int .i64 0, .int .i64 0, .int .i64 0, .int .i64 0, .str ([]), .int .i64 0, .bool false])] := hA.obj _
  generalize L.length = i4 at hA ⊢
  generalize (L ++ [some (.cells [.str ([]), .str ([]), .nils, .int .u8 0, .int .i64 0, .int .i64 0, .int .i64 0, .int .i64 0, .int .i64 0, .int .i64 0, .str ([]), .int .i64 0, .bool false])]) = L at hA ⊢
  refine satO_nil ?_
  repeat refine sat_seq ?_
  refine satO_reg ?_
  have g0 := hA.get (k := 0) rfl
  have g1 := hA.get (k := 1) rfl
  refine satO_step 1 [] ⟨.agg a0.cs :: .ptr (lv + 1) i2 0 :: .ptr (lv + 1) i4 0 :: .nils :: an 18 [], ⟨lv + 1, L, E⟩, [], E⟩ [] (by simp -implicitDefEqProofs [GNode.cs, g0, g1]) claims_nil ?_
  refine satO_nil ?_
  repeat refine sat_seq ?_
  refine satO_reg ?_
  have g0 := hA.get (k := 0) rfl
  have g1 := hA.get (k := 1) rfl
  refine satO_step 4 [] ⟨.agg a0.cs :: .ptr (lv + 1) i2 0 :: .ptr (lv + 1) i4 0 :: .nils :: an 2 (.ptr (lv + 1) i2 2 :: .sl 6 (a0.args.map GValue.el) false :: .int .i64 (a0.args.length : Int) :: .int .i64 0 :: an 12 []), ⟨lv + 1, L, E⟩, [], E⟩ [] (by simp -implicitDefEqProofs [GNode.cs, g0, g1]) claims_nil ?_
  refine satO_nil ?_
  repeat refine sat_seq ?_
  refine sat_block ?_
  repeat refine sat_seq ?_
  have hA := hA.cons 73 6
  refine sat_loop (fun k σ => ∃ (x8 : Int) (v6 : V) (l7 : List GValue) (L : List (Option AObj)), k ≤ n ∧ AccG (lv + 1) L [⟨73, 6, v6, l7.map GValue.el⟩] [(i2, .cells a0.cs), (i4, .cells [.str ([]), .str ([]), .nils, .int .u8 0, .int .i64 0, .int .i64 0, .int .i64 0, .int .i64 0, .int .i64 0, .int .i64 0, .str ([]), .int .i64 0, .bool false])] ∧ go_derive_twin_L1 k a0 l7 x8 = some r ∧ σ = ⟨an 1 (.ptr (lv + 1) i2 0 :: .ptr (lv + 1) i4 0 :: v6 :: an 3 (.sl 6 (a0.args.map GValue.el) false :: .int .i64 (a0.args.length : Int) :: .int .i64 x8 :: an 12 [])), ⟨lv + 1, L, E⟩, [], E⟩) n ⟨an 1 (.ptr (lv + 1) i2 0 :: .ptr (lv + 1) i4 0 :: .nils :: an 3 (.sl 6 (a0.args.map GValue.el) false :: .int .i64 (a0.args.length : Int) :: .int .i64 0 :: an 12 [])), ⟨lv + 1, L, E⟩, [], E⟩ (weak_tmps ?_) ⟨0, .nils, ([]), L, Nat.le_refl _, hA, h, rfl⟩ ?_
  · (try simp only [an]); repeat (first | exact VLeL.nil | refine VLeL.cons (by first | exact VLe.refl _ | exact VLe.any _ | exact VLe.nil _ _ | (refine VLe.agg' ?_; repeat (first | exact VLeL.nil | refine VLeL.cons (by first | exact VLe.refl _ | exact VLe.any _ | exact VLe.nil _ _) ?_))) ?_)
  · rintro k σ ⟨x8, v6, l7, L, hk, hA, h, rfl⟩
    rcases k with _ | n
    · simp [go_derive_twin_L1] at h
    · rw [go_derive_twin_L1] at h
      repeat refine sat_seq ?_
      refine satO_reg ?_
      have g0 := hA.get (k := 0) rfl
      have g1 := hA.get (k := 1) rfl
      obtain ⟨w0a, w0b, w0c⟩ := hA.whole (j := 0) rfl
      refine satO_step 1 [] ⟨an 1 (.ptr (lv + 1) i2 0 :: .ptr (lv + 1) i4 0 :: v6 :: an 3 (.sl 6 (a0.args.map GValue.el) false :: .int .i64 (a0.args.length : Int) :: .int .i64 x8 :: .bool (decide (x8 < (a0.args.length : Int))) :: an 11 [])), ⟨lv + 1, L, E⟩, [], E⟩ [] (by simp -implicitDefEqProofs [GNode.cs, g0, g1, w0a, w0b, w0c]) claims_nil ?_
      refine satO_nil ?_
      repeat refine sat_seq ?_
      refine sat_cond rfl (fun hb => ?_) (fun hb => ?_)
      · have h := ite_t hb h
        repeat refine sat_seq ?_
        refine sat_skip ?_
        repeat refine sat_seq ?_
        refine sat_block ?_
        repeat refine sat_seq ?_
        refine satO_reg ?_
        obtain ⟨x9, q10, h⟩ := bnd_hi h
        obtain ⟨q10, q11⟩ := ix_some q10
        have g0 := hA.get (k := 0) rfl
        have g1 := hA.get (k := 1) rfl
        obtain ⟨w0a, w0b, w0c⟩ := hA.whole (j := 0) rfl
        refine satO_step 2 [] ⟨an 1 (.ptr (lv + 1) i2 0 :: .ptr (lv + 1) i4 0 :: v6 :: an 3 (.sl 6 (a0.args.map GValue.el) false :: .int .i64 (a0.args.length : Int) :: .int .i64 x8 :: .bool (decide (x8 < (a0.args.length : Int))) :: .ref x9.cs 0 :: .agg x9.cs :: an 9 [])), ⟨lv + 1, L, E⟩, [], E⟩ [] (by simp -implicitDefEqProofs [GNode.cs, GValue.cs, g0, g1, w0a, w0b, w0c, q10, q11, GValue.el_cs]) claims_nil ?_
        refine satO_step 1 [] ⟨an 1 (.ptr (lv + 1) i2 0 :: .ptr (lv + 1) i4 0 :: v6 :: an 1 (.ptr (lv + 1) L.length 0 :: an 1 (.sl 6 (a0.args.map GValue.el) false :: .int .i64 (a0.args.length : Int) :: .int .i64 x8 :: .bool (decide (x8 < (a0.args.length : Int))) :: .ref x9.cs 0 :: .agg x9.cs :: an 9 []))), ⟨lv + 1, (L ++ [some (.cells [.int .u8 0, .int .i64 0, .int .i64 0, .bool false, .str ([]), .nils])]), E⟩, [], E⟩ [] (by simp -implicitDefEqProofs [GNode.cs, GValue.cs]) claims_nil ?_
        have hA : AccG (lv + 1) (L ++ [some (.cells [.int .u8 0, .int .i64 0, .int .i64 0, .bool false, .str ([]), .nils])]) [⟨73, 6, v6, l7.map GValue.el⟩] [(i2, .cells a0.cs), (i4, .cells [.str ([]), .str ([]), .nils, .int .u8 0, .int .i64 0, .int .i64 0, .int .i64 0, .int .i64 0, .int .i64 0, .int .i64 0, .str ([]), .int .i64 0, .bool false]), (L.length, .cells [.int .u8 0, .int .i64 0, .int .i64 0, .bool false, .str ([]), .nils])] := hA.obj _
        generalize L.length = i13 at hA ⊢
        generalize (L ++ [some (.cells [.int .u8 0, .int .i64 0, .int .i64 0, .bool false, .str ([]), .nils])]) = L at hA ⊢
        have g0 := hA.get (k := 0) rfl
        have g1 := hA.get (k := 1) rfl
        have g2 := hA.get (k := 2) rfl
        obtain ⟨w0a, w0b, w0c⟩ := hA.whole (j := 0) rfl
        refine satO_step 1 [] ⟨an 1 (.ptr (lv + 1) i2 0 :: .ptr (lv + 1) i4 0 :: v6 :: an 1 (.ptr (lv + 1) i13 0 :: an 1 (.sl 6 (a0.args.map GValue.el) false :: .int .i64 (a0.args.length : Int) :: .int .i64 x8 :: .bool (decide (x8 < (a0.args.length : Int))) :: .ref x9.cs 0 :: .agg x9.cs :: an 9 []))), ⟨lv + 1, (L.set i13 (some (.cells x9.cs))), E⟩, [], E⟩ [] (by simp -implicitDefEqProofs [GNode.cs, GValue.cs, g0, g1, g2, w0a, w0b, w0c]) claims_nil ?_
        have hA : AccG (lv + 1) (L.set i13 (some (.cells x9.cs))) [⟨73, 6, v6, l7.map GValue.el⟩] [(i2, .cells a0.cs), (i4, .cells [.str ([]), .str ([]), .nils, .int .u8 0, .int .i64 0, .int .i64 0, .int .i64 0, .int .i64 0, .int .i64 0, .int .i64 0, .str ([]), .int .i64 0, .bool false]), (i13, .cells x9.cs)] := hA.upd (k := 2) rfl _
        generalize (L.set i13 (some (.cells x9.cs))) = L at hA ⊢
        refine satO_nil ?_
        repeat refine sat_seq ?_
        refine satO_reg ?_
        obtain ⟨y14, q15, h⟩ := bnd_hi h
        have g0 := hA.get (k := 0) rfl
        have g1 := hA.get (k := 1) rfl
        have g2 := hA.get (k := 2) rfl
        obtain ⟨w0a, w0b, w0c⟩ := hA.whole (j := 0) rfl
        refine satO_step 4 [(.agg y14.cs, none)] ⟨an 1 (.ptr (lv + 1) i2 0 :: .ptr (lv + 1) i4 0 :: v6 :: an 1 (.ptr (lv + 1) i13 0 :: an 1 (.sl 6 (a0.args.map GValue.el) false :: .int .i64 (a0.args.length : Int) :: .int .i64 x8 :: .bool (decide (x8 < (a0.args.length : Int))) :: .ref x9.cs 0 :: .agg x9.cs :: v6 :: .agg x9.cs :: .agg y14.cs :: .sl 6 [.agg y14.cs] true :: an 5 []))), ⟨lv + 1, L, E⟩, [], E⟩ [⟨44, [.agg x9.cs], ⟨lv + 1, L, E⟩, .agg y14.cs, ⟨lv + 1, L, E⟩⟩] (by simp -implicitDefEqProofs [GNode.cs, GValue.cs, g0, g1, g2, w0a, w0b, w0c]) (claims_cons (go_value_Twin_ok _ _ _ q15 _) claims_nil) ?_
        obtain ⟨l16, q17, h⟩ := bnd_hi h
        obtain ⟨q17, q18⟩ := ext_some q17
        obtain ⟨v19, L, q20, hA⟩ := hA.push (j := 0) rfl [.agg y14.cs] (by simpa using q17) E
        refine satO_step 1 [] ⟨an 1 (.ptr (lv + 1) i2 0 :: .ptr (lv + 1) i4 0 :: v6 :: an 1 (.ptr (lv + 1) i13 0 :: an 1 (.sl 6 (a0.args.map GValue.el) false :: .int .i64 (a0.args.length : Int) :: .int .i64 x8 :: .bool (decide (x8 < (a0.args.length : Int))) :: .ref x9.cs 0 :: .agg x9.cs :: v6 :: .agg x9.cs :: .agg y14.cs :: .sl 6 [.agg y14.cs] true :: v19 :: an 4 []))), ⟨lv + 1, L, E⟩, [], E⟩ [] (by simp -implicitDefEqProofs [q20]) claims_nil ?_
        have hA : AccG (lv + 1) L [⟨73, 6, v19, l16.map GValue.el⟩] [(i2, .cells a0.cs), (i4, .cells [.str ([]), .str ([]), .nils, .int .u8 0, .int .i64 0, .int .i64 0, .int .i64 0, .int .i64 0, .int .i64 0, .int .i64 0, .str ([]), .int .i64 0, .bool false]), (i13, .cells x9.cs)] := by rw [q18]; simpa [GValue.el_cs] using hA
        have g0 := hA.get (k := 0) rfl
        have g1 := hA.get (k := 1) rfl
        have g2 := hA.get (k := 2) rfl
        obtain ⟨w0a, w0b, w0c⟩ := hA.whole (j := 0) rfl
        refine satO_step 1 [] ⟨an 1 (.ptr (lv + 1) i2 0 :: .ptr (lv + 1) i4 0 :: v19 :: an 1 (.ptr (lv + 1) i13 0 :: an 1 (.sl 6 (a0.args.map GValue.el) false :: .int .i64 (a0.args.length : Int) :: .int .i64 x8 :: .bool (decide (x8 < (a0.args.length : Int))) :: .ref x9.cs 0 :: .agg x9.cs :: v6 :: .agg x9.cs :: .agg y14.cs :: .sl 6 [.agg y14.cs] true :: v19 :: an 4 []))), ⟨lv + 1, L, E⟩, [], E⟩ [] (by simp -implicitDefEqProofs [GNode.cs, GValue.cs, g0, g1, g2, w0a, w0b, w0c]) claims_nil ?_
        refine satO_nil ?_
        repeat refine sat_seq ?_
        refine satO_reg ?_
        have g0 := hA.get (k := 0) rfl
        have g1 := hA.get (k := 1) rfl
        have g2 := hA.get (k := 2) rfl
        obtain ⟨w0a, w0b, w0c⟩ := hA.whole (j := 0) rfl
        refine satO_step 2 [] ⟨an 1 (.ptr (lv + 1) i2 0 :: .ptr (lv + 1) i4 0 :: v19 :: an 1 (.ptr (lv + 1) i13 0 :: an 1 (.sl 6 (a0.args.map GValue.el) false :: .int .i64 (a0.args.length : Int) :: .int .i64 (IntKind.i64.wrap (x8 + 1)) :: .bool (decide (x8 < (a0.args.length : Int))) :: .ref x9.cs 0 :: .agg x9.cs :: v6 :: .agg x9.cs :: .agg y14.cs :: .sl 6 [.agg y14.cs] true :: v19 :: .int .i64 (IntKind.i64.wrap (x8 + 1)) :: an 3 []))), ⟨lv + 1, L, E⟩, [], E⟩ [] (by simp -implicitDefEqProofs [GNode.cs, GValue.cs, g0, g1, g2, w0a, w0b, w0c]) claims_nil ?_
        refine satO_nil ?_
        have hA : AccG (lv + 1) L [⟨73, 6, v19, l16.map GValue.el⟩] [(i2, .cells a0.cs), (i4, .cells [.str ([]), .str ([]), .nils, .int .u8 0, .int .i64 0, .int .i64 0, .int .i64 0, .int .i64 0, .int .i64 0, .int .i64 0, .str ([]), .int .i64 0, .bool false])] := hA.sel [0] (by simp) rfl (.cons_cons _ (.cons_cons _ (.cons _ .slnil)))
        refine ⟨n, ⟨an 1 (.ptr (lv + 1) i2 0 :: .ptr (lv + 1) i4 0 :: v19 :: an 3 (.sl 6 (a0.args.map GValue.el) false :: .int .i64 (a0.args.length : Int) :: .int .i64 (IntKind.i64.wrap (x8 + 1)) :: an 12 [])), ⟨lv + 1, L, E⟩, [], E⟩, weak_tmps ?_, ⟨(IntKind.i64.wrap (x8 + 1)), v19, l16, L, by omega, hA, h, rfl⟩, by omega⟩
        (try simp only [an]); repeat (first | exact VLeL.nil | refine VLeL.cons (by first | exact VLe.refl _ | exact VLe.any _ | exact VLe.nil _ _ | (refine VLe.agg' ?_; repeat (first | exact VLeL.nil | refine VLeL.cons (by first | exact VLe.refl _ | exact VLe.any _ | exact VLe.nil _ _) ?_))) ?_)
      · have h := ite_f hb h
        repeat refine sat_seq ?_
        refine sat_exit ?_
        repeat refine sat_seq ?_
        refine satO_reg ?_
        have g0 := hA.get (k := 0) rfl
        have g1 := hA.get (k := 1) rfl
        obtain ⟨w0a, w0b, w0c⟩ := hA.whole (j := 0) rfl
        refine satO_step 2 [] ⟨an 1 (.ptr (lv + 1) i2 0 :: .ptr (lv + 1) i4 0 :: v6 :: an 3 (.sl 6 (a0.args.map GValue.el) false :: .int .i64 (a0.args.length : Int) :: .int .i64 x8 :: .bool (decide (x8 < (a0.args.length : Int))) :: an 8 (v6 :: .ptr (lv + 1) i2 2 :: an 1 []))), ⟨lv + 1, L, E⟩, [], E⟩ [] (by simp -implicitDefEqProofs [GNode.cs, GValue.cs, g0, g1, w0a, w0b, w0c]) claims_nil ?_
        have g0 := hA.get (k := 0) rfl
        have g1 := hA.get (k := 1) rfl
        obtain ⟨w0a, w0b, w0c⟩ := hA.whole (j := 0) rfl
        refine satO_step 1 [] ⟨an 1 (.ptr (lv + 1) i2 0 :: .ptr (lv + 1) i4 0 :: v6 :: an 3 (.sl 6 (a0.args.map GValue.el) false :: .int .i64 (a0.args.length : Int) :: .int .i64 x8 :: .bool (decide (x8 < (a0.args.length : Int))) :: an 8 (v6 :: .ptr (lv + 1) i2 2 :: an 1 []))), ⟨lv + 1, (L.set i2 (some (.cells [.str a0.path, .str a0.rule_, v6, .int .u8 a0.scope.frame.turn, .int .i64 a0.scope.frame.at_.x, .int .i64 a0.scope.frame.at_.y, .int .i64 a0.scope.frame.at_.z, .int .i64 a0.scope.size_.x, .int .i64 a0.scope.size_.y, .int .i64 a0.scope.size_.z, .str a0.leaf, .int .i64 a0.fault, .bool a0.open_]))), E⟩, [], E⟩ [] (by simp -implicitDefEqProofs [GNode.cs, GValue.cs, g0, g1, w0a, w0b, w0c]) claims_nil ?_
        have hA : AccG (lv + 1) (L.set i2 (some (.cells [.str a0.path, .str a0.rule_, v6, .int .u8 a0.scope.frame.turn, .int .i64 a0.scope.frame.at_.x, .int .i64 a0.scope.frame.at_.y, .int .i64 a0.scope.frame.at_.z, .int .i64 a0.scope.size_.x, .int .i64 a0.scope.size_.y, .int .i64 a0.scope.size_.z, .str a0.leaf, .int .i64 a0.fault, .bool a0.open_]))) [⟨73, 6, v6, l7.map GValue.el⟩] [(i2, .cells [.str a0.path, .str a0.rule_, v6, .int .u8 a0.scope.frame.turn, .int .i64 a0.scope.frame.at_.x, .int .i64 a0.scope.frame.at_.y, .int .i64 a0.scope.frame.at_.z, .int .i64 a0.scope.size_.x, .int .i64 a0.scope.size_.y, .int .i64 a0.scope.size_.z, .str a0.leaf, .int .i64 a0.fault, .bool a0.open_]), (i4, .cells [.str ([]), .str ([]), .nils, .int .u8 0, .int .i64 0, .int .i64 0, .int .i64 0, .int .i64 0, .int .i64 0, .int .i64 0, .str ([]), .int .i64 0, .bool false])] := hA.upd (k := 0) rfl _
        generalize (L.set i2 (some (.cells [.str a0.path, .str a0.rule_, v6, .int .u8 a0.scope.frame.turn, .int .i64 a0.scope.frame.at_.x, .int .i64 a0.scope.frame.at_.y, .int .i64 a0.scope.frame.at_.z, .int .i64 a0.scope.size_.x, .int .i64 a0.scope.size_.y, .int .i64 a0.scope.size_.z, .str a0.leaf, .int .i64 a0.fault, .bool a0.open_]))) = L at hA ⊢
        refine satO_nil ?_
        repeat refine sat_seq ?_
        refine satO_reg ?_
        have g0 := hA.get (k := 0) rfl
        have g1 := hA.get (k := 1) rfl
        obtain ⟨w0a, w0b, w0c⟩ := hA.whole (j := 0) rfl
        refine satO_step 1 [] ⟨an 1 (.ptr (lv + 1) i2 0 :: .ptr (lv + 1) i4 0 :: v6 :: an 3 (.sl 6 (a0.args.map GValue.el) false :: .int .i64 (a0.args.length : Int) :: .int .i64 x8 :: .bool (decide (x8 < (a0.args.length : Int))) :: an 8 (v6 :: .ptr (lv + 1) i2 2 :: .agg [.str a0.path, .str a0.rule_, v6, .int .u8 a0.scope.frame.turn, .int .i64 a0.scope.frame.at_.x, .int .i64 a0.scope.frame.at_.y, .int .i64 a0.scope.frame.at_.z, .int .i64 a0.scope.size_.x, .int .i64 a0.scope.size_.y, .int .i64 a0.scope.size_.z, .str a0.leaf, .int .i64 a0.fault, .bool a0.open_] :: []))), ⟨lv + 1, L, E⟩, [], E⟩ [] (by simp -implicitDefEqProofs [GNode.cs, GValue.cs, g0, g1, w0a, w0b, w0c]) claims_nil ?_
        have g0 := hA.get (k := 0) rfl
        have g1 := hA.get (k := 1) rfl
        obtain ⟨w0a, w0b, w0c⟩ := hA.whole (j := 0) rfl
        refine satO_step 1 [] ⟨an 1 (.ptr (lv + 1) i2 0 :: .ptr (lv + 1) i4 0 :: v6 :: an 3 (.sl 6 (a0.args.map GValue.el) false :: .int .i64 (a0.args.length : Int) :: .int .i64 x8 :: .bool (decide (x8 < (a0.args.length : Int))) :: an 8 (v6 :: .ptr (lv + 1) i2 2 :: .agg [.str a0.path, .str a0.rule_, v6, .int .u8 a0.scope.frame.turn, .int .i64 a0.scope.frame.at_.x, .int .i64 a0.scope.frame.at_.y, .int .i64 a0.scope.frame.at_.z, .int .i64 a0.scope.size_.x, .int .i64 a0.scope.size_.y, .int .i64 a0.scope.size_.z, .str a0.leaf, .int .i64 a0.fault, .bool a0.open_] :: []))), ⟨lv + 1, (L.set i4 (some (.cells [.str a0.path, .str a0.rule_, v6, .int .u8 a0.scope.frame.turn, .int .i64 a0.scope.frame.at_.x, .int .i64 a0.scope.frame.at_.y, .int .i64 a0.scope.frame.at_.z, .int .i64 a0.scope.size_.x, .int .i64 a0.scope.size_.y, .int .i64 a0.scope.size_.z, .str a0.leaf, .int .i64 a0.fault, .bool a0.open_]))), E⟩, [], E⟩ [] (by simp -implicitDefEqProofs [GNode.cs, GValue.cs, g0, g1, w0a, w0b, w0c]) claims_nil ?_
        have hA : AccG (lv + 1) (L.set i4 (some (.cells [.str a0.path, .str a0.rule_, v6, .int .u8 a0.scope.frame.turn, .int .i64 a0.scope.frame.at_.x, .int .i64 a0.scope.frame.at_.y, .int .i64 a0.scope.frame.at_.z, .int .i64 a0.scope.size_.x, .int .i64 a0.scope.size_.y, .int .i64 a0.scope.size_.z, .str a0.leaf, .int .i64 a0.fault, .bool a0.open_]))) [⟨73, 6, v6, l7.map GValue.el⟩] [(i2, .cells [.str a0.path, .str a0.rule_, v6, .int .u8 a0.scope.frame.turn, .int .i64 a0.scope.frame.at_.x, .int .i64 a0.scope.frame.at_.y, .int .i64 a0.scope.frame.at_.z, .int .i64 a0.scope.size_.x, .int .i64 a0.scope.size_.y, .int .i64 a0.scope.size_.z, .str a0.leaf, .int .i64 a0.fault, .bool a0.open_]), (i4, .cells [.str a0.path, .str a0.rule_, v6, .int .u8 a0.scope.frame.turn, .int .i64 a0.scope.frame.at_.x, .int .i64 a0.scope.frame.at_.y, .int .i64 a0.scope.frame.at_.z, .int .i64 a0.scope.size_.x, .int .i64 a0.scope.size_.y, .int .i64 a0.scope.size_.z, .str a0.leaf, .int .i64 a0.fault, .bool a0.open_])] := hA.upd (k := 1) rfl _
        generalize (L.set i4 (some (.cells [.str a0.path, .str a0.rule_, v6, .int .u8 a0.scope.frame.turn, .int .i64 a0.scope.frame.at_.x, .int .i64 a0.scope.frame.at_.y, .int .i64 a0.scope.frame.at_.z, .int .i64 a0.scope.size_.x, .int .i64 a0.scope.size_.y, .int .i64 a0.scope.size_.z, .str a0.leaf, .int .i64 a0.fault, .bool a0.open_]))) = L at hA ⊢
        refine satO_nil ?_
        repeat refine sat_seq ?_
        refine sat_ret ?_
        have g0 := hA.get (k := 0) rfl
        have g1 := hA.get (k := 1) rfl
        obtain ⟨w0a, w0b, w0c⟩ := hA.whole (j := 0) rfl
        refine ends (v := .agg [.str a0.path, .str a0.rule_, v6, .int .u8 a0.scope.frame.turn, .int .i64 a0.scope.frame.at_.x, .int .i64 a0.scope.frame.at_.y, .int .i64 a0.scope.frame.at_.z, .int .i64 a0.scope.size_.x, .int .i64 a0.scope.size_.y, .int .i64 a0.scope.size_.z, .str a0.leaf, .int .i64 a0.fault, .bool a0.open_]) (by simp [resultsV, resL, resV, tupOf, Try.f28, pLoad, g0, g1, w0a, w0b, w0c, GNode.cs, GValue.cs]) rfl rfl ?_
        injection h with h
        subst h
        exact (VS.agg' (.cons (.keep _ (by simp [V.kin, V.kinL, GNode.cs, GValue.cs])) (.cons (.keep _ (by simp [V.kin, V.kinL, GNode.cs, GValue.cs])) (.cons (hA.shut (j := 0) rfl (by simp [V.kin, V.kinL, GNode.cs, GValue.cs])) (.cons (.keep _ (by simp [V.kin, V.kinL, GNode.cs, GValue.cs])) (.cons (.keep _ (by simp [V.kin, V.kinL, GNode.cs, GValue.cs])) (.cons (.keep _ (by simp [V.kin, V.kinL, GNode.cs, GValue.cs])) (.cons (.keep _ (by simp [V.kin, V.kinL, GNode.cs, GValue.cs])) (.cons (.keep _ (by simp [V.kin, V.kinL, GNode.cs, GValue.cs])) (.cons (.keep _ (by simp [V.kin, V.kinL, GNode.cs, GValue.cs])) (.cons (.keep _ (by simp [V.kin, V.kinL, GNode.cs, GValue.cs])) (.cons (.keep _ (by simp [V.kin, V.kinL, GNode.cs, GValue.cs])) (.cons (.keep _ (by simp [V.kin, V.kinL, GNode.cs, GValue.cs])) (.cons (.keep _ (by simp [V.kin, V.kinL, GNode.cs, GValue.cs])) .nil))))))))))))))
end Go.Proofs

namespace Go.Proofs
open Go Go.Ab
set_option maxRecDepth 10000
set_option maxHeartbeats 1000000
set_option linter.unusedSimpArgs false
set_option linter.unusedVariables false
theorem go_derive_Leaves_ok (n : Nat) (a0 : List GNode) (r : (List GNode)) (h : go_derive_Leaves n a0 = some r) : PCall Try.prog 10 [.sl 13 (a0.map GNode.el) false] (.sl 13 (r.map GNode.el) false) := by
  rcases n with _ | n
  · simp [go_derive_Leaves] at h
  rw [go_derive_Leaves] at h
  refine pcall_of Try.func10 rfl Try.ntmps10 (fun _ _ => Try.call10 _ _) fun lv E => ?_
  simp only [List.length_cons, List.length_nil, Nat.reduceAdd, Nat.reduceSub, List.replicate, List.cons_append, List.nil_append]
  have hA := AccG.nil (lv + 1)
  generalize ([] : List (Option AObj)) = L at hA ⊢
  repeat refine sat_seq ?_
  refine satO_reg ?_
  refine satO_step 1 [] ⟨.sl 13 (a0.map GNode.el) false :: an 1 (.nils :: an 19 []), ⟨lv + 1, L, E⟩, [], E⟩ [] (by simp -implicitDefEqProofs []) claims_nil ?_
  refine satO_nil ?_
  repeat refine sat_seq ?_
  refine satO_reg ?_
  refine satO_step 1 [] ⟨.sl 13 (a0.map GNode.el) false :: an 1 (.nils :: .nils :: an 18 []), ⟨lv + 1, L, E⟩, [], E⟩ [] (by simp -implicitDefEqProofs []) claims_nil ?_
  refine satO_nil ?_
  repeat refine sat_seq ?_
  refine satO_reg ?_
  refine satO_step 3 [] ⟨.sl 13 (a0.map GNode.el) false :: an 1 (.nils :: .nils :: an 2 (.sl 13 (a0.map GNode.el) false :: .int .i64 (a0.length : Int) :: .int .i64 0 :: an 13 [])), ⟨lv + 1, L, E⟩, [], E⟩ [] (by simp -implicitDefEqProofs []) claims_nil ?_
  refine satO_nil ?_
  repeat refine sat_seq ?_
  refine sat_block ?_
  repeat refine sat_seq ?_
  have hA := hA.cons 40 13
  refine sat_loop (fun k σ => ∃ (x4 : Int) (v2 : V) (l3 : List GNode) (L : List (Option AObj)), k ≤ n ∧ AccG (lv + 1) L [⟨40, 13, v2, l3.map GNode.el⟩] [] ∧ go_derive_Leaves_L1 k a0 l3 x4 = some r ∧ σ = ⟨an 3 (v2 :: an 2 (.sl 13 (a0.map GNode.el) false :: .int .i64 (a0.length : Int) :: .int .i64 x4 :: an 13 [])), ⟨lv + 1, L, E⟩, [], E⟩) n ⟨an 3 (.nils :: an 2 (.sl 13 (a0.map GNode.el) false :: .int .i64 (a0.length : Int) :: .int .i64 0 :: an 13 [])), ⟨lv + 1, L, E⟩, [], E⟩ (weak_tmps ?_) ⟨0, .nils, ([]), L, Nat.le_refl _, hA, h, rfl⟩ ?_
  · (try simp only [an]); repeat (first | exact VLeL.nil | refine VLeL.cons (by first | exact VLe.refl _ | exact VLe.any _ | exact VLe.nil _ _ | (refine VLe.agg' ?_; repeat (first | exact VLeL.nil | refine VLeL.cons (by first | exact VLe.refl _ | exact VLe.any _ | exact VLe.nil _ _) ?_))) ?_)
  · rintro k σ ⟨x4, v2, l3, L, hk, hA, h, rfl⟩
    rcases k with _ | n
    · simp [go_derive_Leaves_L1] at h
    · rw [go_derive_Leaves_L1] at h
      repeat refine sat_seq ?_
      refine satO_reg ?_
      obtain ⟨w0a, w0b, w0c⟩ := hA.whole (j := 0) rfl
      refine satO_step 1 [] ⟨an 3 (v2 :: an 2 (.sl 13 (a0.map GNode.el) false :: .int .i64 (a0.length : Int) :: .int .i64 x4 :: .bool (decide (x4 < (a0.length : Int))) :: an 12 [])), ⟨lv + 1, L, E⟩, [], E⟩ [] (by simp -implicitDefEqProofs [w0a, w0b, w0c]) claims_nil ?_
      refine satO_nil ?_
      repeat refine sat_seq ?_
      refine sat_cond rfl (fun hb => ?_) (fun hb => ?_)
      · have h := ite_t hb h
        repeat refine sat_seq ?_
        refine sat_skip ?_
        repeat refine sat_seq ?_
        refine sat_block ?_
        repeat refine sat_seq ?_
        refine satO_reg ?_
        obtain ⟨x5, q6, h⟩ := bnd_hi h
        obtain ⟨q6, q7⟩ := ix_some q6
        obtain ⟨w0a, w0b, w0c⟩ := hA.whole (j := 0) rfl
        refine satO_step 2 [] ⟨an 3 (v2 :: an 2 (.sl 13 (a0.map GNode.el) false :: .int .i64 (a0.length : Int) :: .int .i64 x4 :: .bool (decide (x4 < (a0.length : Int))) :: .ref x5.cs 0 :: .agg x5.cs :: an 10 [])), ⟨lv + 1, L, E⟩, [], E⟩ [] (by simp -implicitDefEqProofs [GNode.cs, w0a, w0b, w0c, q6, q7, GNode.el_cs]) claims_nil ?_
        refine satO_step 1 [] ⟨an 3 (v2 :: an 1 (.ptr (lv + 1) L.length 0 :: .sl 13 (a0.map GNode.el) false :: .int .i64 (a0.length : Int) :: .int .i64 x4 :: .bool (decide (x4 < (a0.length : Int))) :: .ref x5.cs 0 :: .agg x5.cs :: an 10 [])), ⟨lv + 1, (L ++ [some (.cells [.str ([]), .str ([]), .nils, .int .u8 0, .int .i64 0, .int .i64 0, .int .i64 0, .int .i64 0, .int .i64 0, .int .i64 0, .str ([]), .int .i64 0, .bool false])]), E⟩, [], E⟩ [] (by simp -implicitDefEqProofs [GNode.cs]) claims_nil ?_
        have hA : AccG (lv + 1) (L ++ [some (.cells [.str ([]), .str ([]), .nils, .int .u8 0, .int .i64 0, .int .i64 0, .int .i64 0, .int .i64 0, .int .i64 0, .int .i64 0, .str ([]), .int .i64 0, .bool false])]) [⟨40, 13, v2, l3.map GNode.el⟩] [(L.length, .cells [.str ([]), .str ([]), .nils, .int .u8 0, .int .i64 0, .int .i64 0, .int .i64 0, .int .i64 0, .int .i64 0, .int .i64 0, .str ([]), .int .i64 0, .bool false])] := hA.obj _
        generalize L.length = i9 at hA ⊢
        generalize (L ++ [some (.cells [.str ([]), .str ([]), .nils, .int .u8 0, .int .i64 0, .int .i64 0, .int .i64 0, .int .i64 0, .int .i64 0, .int .i64 0, .str ([]), .int .i64 0, .bool false])]) = L at hA ⊢
        have g0 := hA.get (k := 0) rfl
        obtain ⟨w0a, w0b, w0c⟩ := hA.whole (j := 0) rfl
        refine satO_step 1 [] ⟨an 3 (v2 :: an 1 (.ptr (lv + 1) i9 0 :: .sl 13 (a0.map GNode.el) false :: .int .i64 (a0.length : Int) :: .int .i64 x4 :: .bool (decide (x4 < (a0.length : Int))) :: .ref x5.cs 0 :: .agg x5.cs :: an 10 [])), ⟨lv + 1, (L.set i9 (some (.cells x5.cs))), E⟩, [], E⟩ [] (by simp -implicitDefEqProofs [GNode.cs, g0, w0a, w0b, w0c]) claims_nil ?_
        have hA : AccG (lv + 1) (L.set i9 (some (.cells x5.cs))) [⟨40, 13, v2, l3.map GNode.el⟩] [(i9, .cells x5.cs)] := hA.upd (k := 0) rfl _
        generalize (L.set i9 (some (.cells x5.cs))) = L at hA ⊢
        refine satO_nil ?_
        repeat refine sat_seq ?_
        refine satO_reg ?_
        have g0 := hA.get (k := 0) rfl
        obtain ⟨w0a, w0b, w0c⟩ := hA.whole (j := 0) rfl
        refine satO_step 3 [] ⟨an 3 (v2 :: an 1 (.ptr (lv + 1) i9 0 :: .sl 13 (a0.map GNode.el) false :: .int .i64 (a0.length : Int) :: .int .i64 x4 :: .bool (decide (x4 < (a0.length : Int))) :: .ref x5.cs 0 :: .agg x5.cs :: .ptr (lv + 1) i9 1 :: .str x5.rule_ :: .bool (x5.rule_ == ([])) :: an 7 [])), ⟨lv + 1, L, E⟩, [], E⟩ [] (by simp -implicitDefEqProofs [GNode.cs, g0, w0a, w0b, w0c]) claims_nil ?_
        refine satO_nil ?_
        repeat refine sat_seq ?_
        refine sat_meet (fun σ => ∃ (k : Nat), k ≤ n ∧ ∃ (v10 : V) (l11 : List GNode) (L : List (Option AObj)), AccG (lv + 1) L [⟨40, 13, v10, l11.map GNode.el⟩] [] ∧ go_derive_Leaves_J1 k a0 x4 l11 = some r ∧ σ = ⟨an 3 (v10 :: an 2 (.sl 13 (a0.map GNode.el) false :: .int .i64 (a0.length : Int) :: .int .i64 x4 :: an 13 [])), ⟨lv + 1, L, E⟩, [], E⟩) ?_ ?_
        · refine sat_cond rfl (fun hb => ?_) (fun hb => ?_)
          · have h := ite_t hb h
            repeat refine sat_seq ?_
            refine satO_reg ?_
            obtain ⟨y12, q13, h⟩ := bnd_hi h
            have g0 := hA.get (k := 0) rfl
            obtain ⟨w0a, w0b, w0c⟩ := hA.whole (j := 0) rfl
            refine satO_step 4 [(.agg y12.cs, none)] ⟨an 3 (v2 :: an 1 (.ptr (lv + 1) i9 0 :: .sl 13 (a0.map GNode.el) false :: .int .i64 (a0.length : Int) :: .int .i64 x4 :: .bool (decide (x4 < (a0.length : Int))) :: .ref x5.cs 0 :: .agg x5.cs :: .ptr (lv + 1) i9 1 :: .str x5.rule_ :: .bool (x5.rule_ == ([])) :: v2 :: .agg x5.cs :: .agg y12.cs :: .sl 13 [.agg y12.cs] true :: an 3 [])), ⟨lv + 1, L, E⟩, [], E⟩ [⟨28, [.agg x5.cs], ⟨lv + 1, L, E⟩, .agg y12.cs, ⟨lv + 1, L, E⟩⟩] (by simp -implicitDefEqProofs [GNode.cs, g0, w0a, w0b, w0c]) (claims_cons (go_derive_twin_ok _ _ _ q13 _) claims_nil) ?_
            obtain ⟨l14, q15, h⟩ := bnd_hi h
            obtain ⟨q15, q16⟩ := ext_some q15
            obtain ⟨v17, L, q18, hA⟩ := hA.push (j := 0) rfl [.agg y12.cs] (by simpa using q15) E
            refine satO_step 1 [] ⟨an 3 (v2 :: an 1 (.ptr (lv + 1) i9 0 :: .sl 13 (a0.map GNode.el) false :: .int .i64 (a0.length : Int) :: .int .i64 x4 :: .bool (decide (x4 < (a0.length : Int))) :: .ref x5.cs 0 :: .agg x5.cs :: .ptr (lv + 1) i9 1 :: .str x5.rule_ :: .bool (x5.rule_ == ([])) :: v2 :: .agg x5.cs :: .agg y12.cs :: .sl 13 [.agg y12.cs] true :: v17 :: an 2 [])), ⟨lv + 1, L, E⟩, [], E⟩ [] (by simp -implicitDefEqProofs [q18]) claims_nil ?_
            have hA : AccG (lv + 1) L [⟨40, 13, v17, l14.map GNode.el⟩] [(i9, .cells x5.cs)] := by rw [q16]; simpa [GNode.el_cs] using hA
            have g0 := hA.get (k := 0) rfl
            obtain ⟨w0a, w0b, w0c⟩ := hA.whole (j := 0) rfl
            refine satO_step 1 [] ⟨an 3 (v17 :: an 1 (.ptr (lv + 1) i9 0 :: .sl 13 (a0.map GNode.el) false :: .int .i64 (a0.length : Int) :: .int .i64 x4 :: .bool (decide (x4 < (a0.length : Int))) :: .ref x5.cs 0 :: .agg x5.cs :: .ptr (lv + 1) i9 1 :: .str x5.rule_ :: .bool (x5.rule_ == ([])) :: v2 :: .agg x5.cs :: .agg y12.cs :: .sl 13 [.agg y12.cs] true :: v17 :: an 2 [])), ⟨lv + 1, L, E⟩, [], E⟩ [] (by simp -implicitDefEqProofs [GNode.cs, g0, w0a, w0b, w0c]) claims_nil ?_
            refine satO_nil ?_
            have hA : AccG (lv + 1) L [⟨40, 13, v17, l14.map GNode.el⟩] [] := hA.sel [0] (by simp) rfl (.cons _ .slnil)
            refine ⟨⟨an 3 (v17 :: an 2 (.sl 13 (a0.map GNode.el) false :: .int .i64 (a0.length : Int) :: .int .i64 x4 :: an 13 [])), ⟨lv + 1, L, E⟩, [], E⟩, weak_tmps ?_, n, by omega, v17, l14, L, hA, h, rfl⟩
            (try simp only [an]); repeat (first | exact VLeL.nil | refine VLeL.cons (by first | exact VLe.refl _ | exact VLe.any _ | exact VLe.nil _ _ | (refine VLe.agg' ?_; repeat (first | exact VLeL.nil | refine VLeL.cons (by first | exact VLe.refl _ | exact VLe.any _ | exact VLe.nil _ _) ?_))) ?_)
          · have h := ite_f hb h
            repeat refine sat_seq ?_
            refine sat_skip ?_
            have hA : AccG (lv + 1) L [⟨40, 13, v2, l3.map GNode.el⟩] [] := hA.sel [0] (by simp) rfl (.cons _ .slnil)
            refine ⟨⟨an 3 (v2 :: an 2 (.sl 13 (a0.map GNode.el) false :: .int .i64 (a0.length : Int) :: .int .i64 x4 :: an 13 [])), ⟨lv + 1, L, E⟩, [], E⟩, weak_tmps ?_, n, by omega, v2, l3, L, hA, h, rfl⟩
            (try simp only [an]); repeat (first | exact VLeL.nil | refine VLeL.cons (by first | exact VLe.refl _ | exact VLe.any _ | exact VLe.nil _ _ | (refine VLe.agg' ?_; repeat (first | exact VLeL.nil | refine VLeL.cons (by first | exact VLe.refl _ | exact VLe.any _ | exact VLe.nil _ _) ?_))) ?_)
        · rintro σ0 σ hw ⟨k, hk, v10, l11, L, hA, h, rfl⟩
          rcases k with _ | n
          · simp [go_derive_Leaves_J1] at h
          · rw [go_derive_Leaves_J1] at h
            refine sat_weak hw ?_
            repeat refine sat_seq ?_
            refine satO_reg ?_
            obtain ⟨w0a, w0b, w0c⟩ := hA.whole (j := 0) rfl
            refine satO_step 2 [] ⟨an 3 (v10 :: an 2 (.sl 13 (a0.map GNode.el) false :: .int .i64 (a0.length : Int) :: .int .i64 (IntKind.i64.wrap (x4 + 1)) :: an 11 (.int .i64 (IntKind.i64.wrap (x4 + 1)) :: an 1 []))), ⟨lv + 1, L, E⟩, [], E⟩ [] (by simp -implicitDefEqProofs [GNode.cs, w0a, w0b, w0c]) claims_nil ?_
            refine satO_nil ?_
            refine ⟨n, ⟨an 3 (v10 :: an 2 (.sl 13 (a0.map GNode.el) false :: .int .i64 (a0.length : Int) :: .int .i64 (IntKind.i64.wrap (x4 + 1)) :: an 13 [])), ⟨lv + 1, L, E⟩, [], E⟩, weak_tmps ?_, ⟨(IntKind.i64.wrap (x4 + 1)), v10, l11, L, by omega, hA, h, rfl⟩, by omega⟩
            (try simp only [an]); repeat (first | exact VLeL.nil | refine VLeL.cons (by first | exact VLe.refl _ | exact VLe.any _ | exact VLe.nil _ _ | (refine VLe.agg' ?_; repeat (first | exact VLeL.nil | refine VLeL.cons (by first | exact VLe.refl _ | exact VLe.any _ | exact VLe.nil _ _) ?_))) ?_)
      · have h := ite_f hb h
        repeat refine sat_seq ?_
        refine sat_exit ?_
        repeat refine sat_seq ?_
        refine satO_reg ?_
        obtain ⟨w0a, w0b, w0c⟩ := hA.whole (j := 0) rfl
        refine satO_step 2 [] ⟨an 2 (v2 :: v2 :: an 2 (.sl 13 (a0.map GNode.el) false :: .int .i64 (a0.length : Int) :: .int .i64 x4 :: .bool (decide (x4 < (a0.length : Int))) :: an 11 (v2 :: []))), ⟨lv + 1, L, E⟩, [], E⟩ [] (by simp -implicitDefEqProofs [GNode.cs, w0a, w0b, w0c]) claims_nil ?_
        refine satO_nil ?_
        repeat refine sat_seq ?_
        refine sat_ret ?_
        obtain ⟨w0a, w0b, w0c⟩ := hA.whole (j := 0) rfl
        refine ends (v := v2) (by simp [resultsV, resL, resV, tupOf, Try.f10, pLoad, w0a, w0b, w0c, GNode.cs]) rfl rfl ?_
        injection h with h
        subst h
        exact (hA.shut (j := 0) rfl (by simp [V.kin, V.kinL, GNode.cs]))
end Go.Proofs

namespace Go.Proofs
open Go Go.Ab
set_option maxRecDepth 10000
set_option maxHeartbeats 1000000
set_option linter.unusedSimpArgs false
set_option linter.unusedVariables false
theorem go_ref03_Twin_ok : ∀ n : Nat, (∀ (a0 : GValue) (r : GValue), go_ref03_Twin n a0 = some r → PCall Try.prog 45 [.agg a0.cs] (.agg r.cs)) := by
  intro n; induction n using Nat.strongRecOn with | ind n ih =>
  intro a0 r h
  rcases n with _ | n
  · simp [go_ref03_Twin] at h
  rw [go_ref03_Twin] at h
  refine pcall_of Try.func45 rfl Try.ntmps45 (fun _ _ => Try.call45 _ _) fun lv E => ?_
  simp only [List.length_cons, List.length_nil, Nat.reduceAdd, Nat.reduceSub, List.replicate, List.cons_append, List.nil_append]
  have hA := AccG.nil (lv + 1)
  generalize ([] : List (Option AObj)) = L at hA ⊢
  repeat refine sat_seq ?_
  refine satO_reg ?_
  refine satO_step 1 [] ⟨.agg a0.cs :: .ptr (lv + 1) L.length 0 :: an 24 [], ⟨lv + 1, (L ++ [some (.cells a0.cs)]), E⟩, [], E⟩ [] (by simp -implicitDefEqProofs [GValue.cs]) claims_nil ?_
  have hA : AccG (lv + 1) (L ++ [some (.cells a0.cs)]) [] [(L.length, .cells a0.cs)] := hA.obj _
  generalize L.length = i2 at hA ⊢
  generalize (L ++ [some (.cells a0.cs)]) = L at hA ⊢
  refine satO_step 1 [] ⟨.agg a0.cs :: .ptr (lv + 1) i2 0 :: .ptr (lv + 1) L.length 0 :: an 23 [], ⟨lv + 1, (L ++ [some (.cells [.int .u8 0, .int .i64 0, .int .i64 0, .bool false, .str ([]), .nils])]), E⟩, [], E⟩ [] (by simp -implicitDefEqProofs [GValue.cs]) claims_nil ?_
  have hA : AccG (lv + 1) (L ++ [some (.cells [.int .u8 0, .int .i64 0, .int .i64 0, .bool false, .str ([]), .nils])]) [] [(i2, .cells a0.cs), (L.length, .cells [.int .u8 0, .int .i64 0, .int .i64 0, .bool false, .str ([]), .nils])] := hA.obj _
  generalize L.length = i4 at hA ⊢
  generalize (L ++ [some (.cells [.int .u8 0, .int .i64 0, .int .i64 0, .bool false, .str ([]), .nils])]) = L at hA ⊢
  refine satO_nil ?_
  repeat refine sat_seq ?_
  refine satO_reg ?_
  have g0 := hA.get (k := 0) rfl
  have g1 := hA.get (k := 1) rfl
  refine satO_step 1 [] ⟨.agg a0.cs :: .ptr (lv + 1) i2 0 :: .ptr (lv + 1) i4 0 :: an 2 (.agg a0.cs :: an 20 []), ⟨lv + 1, L, E⟩, [], E⟩ [] (by simp -implicitDefEqProofs [GValue.cs, g0, g1]) claims_nil ?_
  refine satO_step 1 [] ⟨.agg a0.cs :: .ptr (lv + 1) i2 0 :: .ptr (lv + 1) i4 0 :: .ptr (lv + 1) L.length 0 :: an 1 (.agg a0.cs :: an 20 []), ⟨lv + 1, (L ++ [some (.cells [.int .u8 0, .int .i64 0, .int .i64 0, .bool false, .str ([]), .nils])]), E⟩, [], E⟩ [] (by simp -implicitDefEqProofs [GValue.cs]) claims_nil ?_
  have hA : AccG (lv + 1) (L ++ [some (.cells [.int .u8 0, .int .i64 0, .int .i64 0, .bool false, .str ([]), .nils])]) [] [(i2, .cells a0.cs), (i4, .cells [.int .u8 0, .int .i64 0, .int .i64 0, .bool false, .str ([]), .nils]), (L.length, .cells [.int .u8 0, .int .i64 0, .int .i64 0, .bool false, .str ([]), .nils])] := hA.obj _
  generalize L.length = i6 at hA ⊢
  generalize (L ++ [some (.cells [.int .u8 0, .int .i64 0, .int .i64 0, .bool false, .str ([]), .nils])]) = L at hA ⊢
  have g0 := hA.get (k := 0) rfl
  have g1 := hA.get (k := 1) rfl
  have g2 := hA.get (k := 2) rfl
  refine satO_step 1 [] ⟨.agg a0.cs :: .ptr (lv + 1) i2 0 :: .ptr (lv + 1) i4 0 :: .ptr (lv + 1) i6 0 :: an 1 (.agg a0.cs :: an 20 []), ⟨lv + 1, (L.set i6 (some (.cells a0.cs))), E⟩, [], E⟩ [] (by simp -implicitDefEqProofs [GValue.cs, g0, g1, g2]) claims_nil ?_
  have hA : AccG (lv + 1) (L.set i6 (some (.cells a0.cs))) [] [(i2, .cells a0.cs), (i4, .cells [.int .u8 0, .int .i64 0, .int .i64 0, .bool false, .str ([]), .nils]), (i6, .cells a0.cs)] := hA.upd (k := 2) rfl _
  generalize (L.set i6 (some (.cells a0.cs))) = L at hA ⊢
  refine satO_nil ?_
  repeat refine sat_seq ?_
  refine satO_reg ?_
  have g0 := hA.get (k := 0) rfl
  have g1 := hA.get (k := 1) rfl
  have g2 := hA.get (k := 2) rfl
  refine satO_step 1 [] ⟨.agg a0.cs :: .ptr (lv + 1) i2 0 :: .ptr (lv + 1) i4 0 :: .ptr (lv + 1) i6 0 :: an 1 (.agg a0.cs :: .ptr (lv + 1) i6 5 :: an 19 []), ⟨lv + 1, L, E⟩, [], E⟩ [] (by simp -implicitDefEqProofs [GValue.cs, g0, g1, g2]) claims_nil ?_
  have g0 := hA.get (k := 0) rfl
  have g1 := hA.get (k := 1) rfl
  have g2 := hA.get (k := 2) rfl
  refine satO_step 1 [] ⟨.agg a0.cs :: .ptr (lv + 1) i2 0 :: .ptr (lv + 1) i4 0 :: .ptr (lv + 1) i6 0 :: an 1 (.agg a0.cs :: .ptr (lv + 1) i6 5 :: an 19 []), ⟨lv + 1, (L.set i6 (some (.cells [.int .u8 a0.kind, .int .i64 a0.num.num, .int .i64 a0.num.den, .bool a0.truth, .str a0.str, .nils]))), E⟩, [], E⟩ [] (by simp -implicitDefEqProofs [GValue.cs, g0, g1, g2]) claims_nil ?_
  have hA : AccG (lv + 1) (L.set i6 (some (.cells [.int .u8 a0.kind, .int .i64 a0.num.num, .int .i64 a0.num.den, .bool a0.truth, .str a0.str, .nils]))) [] [(i2, .cells a0.cs), (i4, .cells [.int .u8 0, .int .i64 0, .int .i64 0, .bool false, .str ([]), .nils]), (i6, .cells [.int .u8 a0.kind, .int .i64 a0.num.num, .int .i64 a0.num.den, .bool a0.truth, .str a0.str, .nils])] := hA.upd (k := 2) rfl _
  generalize (L.set i6 (some (.cells [.int .u8 a0.kind, .int .i64 a0.num.num, .int .i64 a0.num.den, .bool a0.truth, .str a0.str, .nils]))) = L at hA ⊢
  refine satO_nil ?_
  repeat refine sat_seq ?_
  refine satO_reg ?_
  have g0 := hA.get (k := 0) rfl
  have g1 := hA.get (k := 1) rfl
  have g2 := hA.get (k := 2) rfl
  refine satO_step 1 [] ⟨.agg a0.cs :: .ptr (lv + 1) i2 0 :: .ptr (lv + 1) i4 0 :: .ptr (lv + 1) i6 0 :: .int .i64 0 :: .agg a0.cs :: .ptr (lv + 1) i6 5 :: an 19 [], ⟨lv + 1, L, E⟩, [], E⟩ [] (by simp -implicitDefEqProofs [GValue.cs, g0, g1, g2]) claims_nil ?_
  refine satO_nil ?_
  repeat refine sat_seq ?_
  refine sat_block ?_
  repeat refine sat_seq ?_
  have hA := hA.cons 73 6
  refine sat_loop (fun k σ => ∃ (x10 : Int) (v8 : V) (l9 : List GValue) (L : List (Option AObj)), k ≤ n ∧ AccG (lv + 1) L [⟨73, 6, v8, l9.map GValue.el⟩] [(i2, .cells a0.cs), (i4, .cells [.int .u8 0, .int .i64 0, .int .i64 0, .bool false, .str ([]), .nils]), (i6, .cells [.int .u8 a0.kind, .int .i64 a0.num.num, .int .i64 a0.num.den, .bool a0.truth, .str a0.str, v8])] ∧ go_ref03_Twin_L1 k a0 l9 x10 = some r ∧ σ = ⟨an 1 (.ptr (lv + 1) i2 0 :: .ptr (lv + 1) i4 0 :: .ptr (lv + 1) i6 0 :: .int .i64 x10 :: an 21 []), ⟨lv + 1, L, E⟩, [], E⟩) n ⟨an 1 (.ptr (lv + 1) i2 0 :: .ptr (lv + 1) i4 0 :: .ptr (lv + 1) i6 0 :: .int .i64 0 :: an 21 []), ⟨lv + 1, L, E⟩, [], E⟩ (weak_tmps ?_) ⟨0, .nils, ([]), L, Nat.le_refl _, hA, h, rfl⟩ ?_
  · (try simp only [an]); repeat (first | exact VLeL.nil | refine VLeL.cons (by first | exact VLe.refl _ | exact VLe.any _ | exact VLe.nil _ _ | (refine VLe.agg' ?_; repeat (first | exact VLeL.nil | refine VLeL.cons (by first | exact VLe.refl _ | exact VLe.any _ | exact VLe.nil _ _) ?_))) ?_)
  · rintro k σ ⟨x10, v8, l9, L, hk, hA, h, rfl⟩
    rcases k with _ | n
    · simp [go_ref03_Twin_L1] at h
    · rw [go_ref03_Twin_L1] at h
      repeat refine sat_seq ?_
      refine satO_reg ?_
      have g0 := hA.get (k := 0) rfl
      have g1 := hA.get (k := 1) rfl
      have g2 := hA.get (k := 2) rfl
      obtain ⟨w0a, w0b, w0c⟩ := hA.whole (j := 0) rfl
      refine satO_step 5 [] ⟨an 1 (.ptr (lv + 1) i2 0 :: .ptr (lv + 1) i4 0 :: .ptr (lv + 1) i6 0 :: .int .i64 x10 :: an 2 (.int .i64 x10 :: .ptr (lv + 1) i2 5 :: .sl 6 (a0.list.map GValue.el) false :: .int .i64 (a0.list.length : Int) :: .bool (decide (x10 < (a0.list.length : Int))) :: an 14 [])), ⟨lv + 1, L, E⟩, [], E⟩ [] (by simp -implicitDefEqProofs [GValue.cs, g0, g1, g2, w0a, w0b, w0c]) claims_nil ?_
      refine satO_nil ?_
      repeat refine sat_seq ?_
      refine sat_cond rfl (fun hb => ?_) (fun hb => ?_)
      · have h := ite_t hb h
        repeat refine sat_seq ?_
        refine sat_skip ?_
        repeat refine sat_seq ?_
        refine sat_block ?_
        repeat refine sat_seq ?_
        obtain ⟨x11, q12, h⟩ := bnd_hi h
        obtain ⟨q12, q13⟩ := ix_some q12
        obtain ⟨y14, q15, h⟩ := bnd_hi h
        have g0 := hA.get (k := 0) rfl
        have g1 := hA.get (k := 1) rfl
        have g2 := hA.get (k := 2) rfl
        obtain ⟨w0a, w0b, w0c⟩ := hA.whole (j := 0) rfl
        refine satO_drt 9 (by kernel_rfl) (by kernel_rfl) [.agg y14.cs] ⟨an 1 (.ptr (lv + 1) i2 0 :: .ptr (lv + 1) i4 0 :: .ptr (lv + 1) i6 0 :: .int .i64 x10 :: an 2 (.int .i64 x10 :: .ptr (lv + 1) i2 5 :: .sl 6 (a0.list.map GValue.el) false :: .int .i64 (a0.list.length : Int) :: .bool (decide (x10 < (a0.list.length : Int))) :: an 2 (.ptr (lv + 1) i6 5 :: v8 :: .ptr (lv + 1) i2 5 :: .sl 6 (a0.list.map GValue.el) false :: .int .i64 x10 :: .ref x11.cs 0 :: .agg x11.cs :: .agg y14.cs :: .sl 6 [.agg y14.cs] true :: an 3 []))), ⟨lv + 1, L, E⟩, [], E⟩ [⟨45, [.agg x11.cs], ⟨lv + 1, L, E⟩, .agg y14.cs, ⟨lv + 1, L, E⟩⟩] (by simp -implicitDefEqProofs [GValue.cs, g0, g1, g2, w0a, w0b, w0c, q12, q13, GValue.el_cs]) (claims_cons (ih _ (by omega) _ _ q15 _) claims_nil) ?_
        obtain ⟨l16, q17, h⟩ := bnd_hi h
        obtain ⟨q17, q18⟩ := ext_some q17
        obtain ⟨v19, L, q20, hA⟩ := hA.push (j := 0) rfl [.agg y14.cs] (by simpa using q17) E
        refine satO_step 1 [] ⟨an 1 (.ptr (lv + 1) i2 0 :: .ptr (lv + 1) i4 0 :: .ptr (lv + 1) i6 0 :: .int .i64 x10 :: an 2 (.int .i64 x10 :: .ptr (lv + 1) i2 5 :: .sl 6 (a0.list.map GValue.el) false :: .int .i64 (a0.list.length : Int) :: .bool (decide (x10 < (a0.list.length : Int))) :: an 2 (.ptr (lv + 1) i6 5 :: v8 :: .ptr (lv + 1) i2 5 :: .sl 6 (a0.list.map GValue.el) false :: .int .i64 x10 :: .ref x11.cs 0 :: .agg x11.cs :: .agg y14.cs :: .sl 6 [.agg y14.cs] true :: v19 :: an 2 []))), ⟨lv + 1, L, E⟩, [], E⟩ [] (by simp -implicitDefEqProofs [q20]) claims_nil ?_
        have hA : AccG (lv + 1) L [⟨73, 6, v19, l16.map GValue.el⟩] [(i2, .cells a0.cs), (i4, .cells [.int .u8 0, .int .i64 0, .int .i64 0, .bool false, .str ([]), .nils]), (i6, .cells [.int .u8 a0.kind, .int .i64 a0.num.num, .int .i64 a0.num.den, .bool a0.truth, .str a0.str, v8])] := by rw [q18]; simpa [GValue.el_cs] using hA
        have g0 := hA.get (k := 0) rfl
        have g1 := hA.get (k := 1) rfl
        have g2 := hA.get (k := 2) rfl
        obtain ⟨w0a, w0b, w0c⟩ := hA.whole (j := 0) rfl
        refine satO_step 1 [] ⟨an 1 (.ptr (lv + 1) i2 0 :: .ptr (lv + 1) i4 0 :: .ptr (lv + 1) i6 0 :: .int .i64 x10 :: an 2 (.int .i64 x10 :: .ptr (lv + 1) i2 5 :: .sl 6 (a0.list.map GValue.el) false :: .int .i64 (a0.list.length : Int) :: .bool (decide (x10 < (a0.list.length : Int))) :: an 2 (.ptr (lv + 1) i6 5 :: v8 :: .ptr (lv + 1) i2 5 :: .sl 6 (a0.list.map GValue.el) false :: .int .i64 x10 :: .ref x11.cs 0 :: .agg x11.cs :: .agg y14.cs :: .sl 6 [.agg y14.cs] true :: v19 :: .ptr (lv + 1) i6 5 :: an 1 []))), ⟨lv + 1, L, E⟩, [], E⟩ [] (by simp -implicitDefEqProofs [GValue.cs, g0, g1, g2, w0a, w0b, w0c]) claims_nil ?_
        have g0 := hA.get (k := 0) rfl
        have g1 := hA.get (k := 1) rfl
        have g2 := hA.get (k := 2) rfl
        obtain ⟨w0a, w0b, w0c⟩ := hA.whole (j := 0) rfl
        refine satO_step 1 [] ⟨an 1 (.ptr (lv + 1) i2 0 :: .ptr (lv + 1) i4 0 :: .ptr (lv + 1) i6 0 :: .int .i64 x10 :: an 2 (.int .i64 x10 :: .ptr (lv + 1) i2 5 :: .sl 6 (a0.list.map GValue.el) false :: .int .i64 (a0.list.length : Int) :: .bool (decide (x10 < (a0.list.length : Int))) :: an 2 (.ptr (lv + 1) i6 5 :: v8 :: .ptr (lv + 1) i2 5 :: .sl 6 (a0.list.map GValue.el) false :: .int .i64 x10 :: .ref x11.cs 0 :: .agg x11.cs :: .agg y14.cs :: .sl 6 [.agg y14.cs] true :: v19 :: .ptr (lv + 1) i6 5 :: an 1 []))), ⟨lv + 1, (L.set i6 (some (.cells [.int .u8 a0.kind, .int .i64 a0.num.num, .int .i64 a0.num.den, .bool a0.truth, .str a0.str, v19]))), E⟩, [], E⟩ [] (by simp -implicitDefEqProofs [GValue.cs, g0, g1, g2, w0a, w0b, w0c]) claims_nil ?_
        have hA : AccG (lv + 1) (L.set i6 (some (.cells [.int .u8 a0.kind, .int .i64 a0.num.num, .int .i64 a0.num.den, .bool a0.truth, .str a0.str, v19]))) [⟨73, 6, v19, l16.map GValue.el⟩] [(i2, .cells a0.cs), (i4, .cells [.int .u8 0, .int .i64 0, .int .i64 0, .bool false, .str ([]), .nils]), (i6, .cells [.int .u8 a0.kind, .int .i64 a0.num.num, .int .i64 a0.num.den, .bool a0.truth, .str a0.str, v19])] := hA.upd (k := 2) rfl _
        generalize (L.set i6 (some (.cells [.int .u8 a0.kind, .int .i64 a0.num.num, .int .i64 a0.num.den, .bool a0.truth, .str a0.str, v19]))) = L at hA ⊢
        refine satO_nil ?_
        repeat refine sat_seq ?_
        refine satO_reg ?_
        have g0 := hA.get (k := 0) rfl
        have g1 := hA.get (k := 1) rfl
        have g2 := hA.get (k := 2) rfl
        obtain ⟨w0a, w0b, w0c⟩ := hA.whole (j := 0) rfl
        refine satO_step 3 [] ⟨an 1 (.ptr (lv + 1) i2 0 :: .ptr (lv + 1) i4 0 :: .ptr (lv + 1) i6 0 :: .int .i64 (IntKind.i64.wrap (x10 + 1)) :: an 2 (.int .i64 x10 :: .ptr (lv + 1) i2 5 :: .sl 6 (a0.list.map GValue.el) false :: .int .i64 (a0.list.length : Int) :: .bool (decide (x10 < (a0.list.length : Int))) :: .int .i64 x10 :: .int .i64 (IntKind.i64.wrap (x10 + 1)) :: .ptr (lv + 1) i6 5 :: v8 :: .ptr (lv + 1) i2 5 :: .sl 6 (a0.list.map GValue.el) false :: .int .i64 x10 :: .ref x11.cs 0 :: .agg x11.cs :: .agg y14.cs :: .sl 6 [.agg y14.cs] true :: v19 :: .ptr (lv + 1) i6 5 :: an 1 [])), ⟨lv + 1, L, E⟩, [], E⟩ [] (by simp -implicitDefEqProofs [GValue.cs, g0, g1, g2, w0a, w0b, w0c]) claims_nil ?_
        refine satO_nil ?_
        refine ⟨n, ⟨an 1 (.ptr (lv + 1) i2 0 :: .ptr (lv + 1) i4 0 :: .ptr (lv + 1) i6 0 :: .int .i64 (IntKind.i64.wrap (x10 + 1)) :: an 21 []), ⟨lv + 1, L, E⟩, [], E⟩, weak_tmps ?_, ⟨(IntKind.i64.wrap (x10 + 1)), v19, l16, L, by omega, hA, h, rfl⟩, by omega⟩
        (try simp only [an]); repeat (first | exact VLeL.nil | refine VLeL.cons (by first | exact VLe.refl _ | exact VLe.any _ | exact VLe.nil _ _ | (refine VLe.agg' ?_; repeat (first | exact VLeL.nil | refine VLeL.cons (by first | exact VLe.refl _ | exact VLe.any _ | exact VLe.nil _ _) ?_))) ?_)
      · have h := ite_f hb h
        repeat refine sat_seq ?_
        refine sat_exit ?_
        repeat refine sat_seq ?_
        refine satO_reg ?_
        have g0 := hA.get (k := 0) rfl
        have g1 := hA.get (k := 1) rfl
        have g2 := hA.get (k := 2) rfl
        obtain ⟨w0a, w0b, w0c⟩ := hA.whole (j := 0) rfl
        refine satO_step 1 [] ⟨an 1 (.ptr (lv + 1) i2 0 :: .ptr (lv + 1) i4 0 :: .ptr (lv + 1) i6 0 :: .int .i64 x10 :: an 2 (.int .i64 x10 :: .ptr (lv + 1) i2 5 :: .sl 6 (a0.list.map GValue.el) false :: .int .i64 (a0.list.length : Int) :: .bool (decide (x10 < (a0.list.length : Int))) :: an 13 (.agg [.int .u8 a0.kind, .int .i64 a0.num.num, .int .i64 a0.num.den, .bool a0.truth, .str a0.str, v8] :: []))), ⟨lv + 1, L, E⟩, [], E⟩ [] (by simp -implicitDefEqProofs [GValue.cs, g0, g1, g2, w0a, w0b, w0c]) claims_nil ?_
        have g0 := hA.get (k := 0) rfl
        have g1 := hA.get (k := 1) rfl
        have g2 := hA.get (k := 2) rfl
        obtain ⟨w0a, w0b, w0c⟩ := hA.whole (j := 0) rfl
        refine satO_step 1 [] ⟨an 1 (.ptr (lv + 1) i2 0 :: .ptr (lv + 1) i4 0 :: .ptr (lv + 1) i6 0 :: .int .i64 x10 :: an 2 (.int .i64 x10 :: .ptr (lv + 1) i2 5 :: .sl 6 (a0.list.map GValue.el) false :: .int .i64 (a0.list.length : Int) :: .bool (decide (x10 < (a0.list.length : Int))) :: an 13 (.agg [.int .u8 a0.kind, .int .i64 a0.num.num, .int .i64 a0.num.den, .bool a0.truth, .str a0.str, v8] :: []))), ⟨lv + 1, (L.set i4 (some (.cells [.int .u8 a0.kind, .int .i64 a0.num.num, .int .i64 a0.num.den, .bool a0.truth, .str a0.str, v8]))), E⟩, [], E⟩ [] (by simp -implicitDefEqProofs [GValue.cs, g0, g1, g2, w0a, w0b, w0c]) claims_nil ?_
        have hA : AccG (lv + 1) (L.set i4 (some (.cells [.int .u8 a0.kind, .int .i64 a0.num.num, .int .i64 a0.num.den, .bool a0.truth, .str a0.str, v8]))) [⟨73, 6, v8, l9.map GValue.el⟩] [(i2, .cells a0.cs), (i4, .cells [.int .u8 a0.kind, .int .i64 a0.num.num, .int .i64 a0.num.den, .bool a0.truth, .str a0.str, v8]), (i6, .cells [.int .u8 a0.kind, .int .i64 a0.num.num, .int .i64 a0.num.den, .bool a0.truth, .str a0.str, v8])] := hA.upd (k := 1) rfl _
        generalize (L.set i4 (some (.cells [.int .u8 a0.kind, .int .i64 a0.num.num, .int .i64 a0.num.den, .bool a0.truth, .str a0.str, v8]))) = L at hA ⊢
        refine satO_nil ?_
        repeat refine sat_seq ?_
        refine sat_ret ?_
        have g0 := hA.get (k := 0) rfl
        have g1 := hA.get (k := 1) rfl
        have g2 := hA.get (k := 2) rfl
        obtain ⟨w0a, w0b, w0c⟩ := hA.whole (j := 0) rfl
        refine ends (v := .agg [.int .u8 a0.kind, .int .i64 a0.num.num, .int .i64 a0.num.den, .bool a0.truth, .str a0.str, v8]) (by simp [resultsV, resL, resV, tupOf, Try.f45, pLoad, g0, g1, g2, w0a, w0b, w0c, GValue.cs]) rfl rfl ?_
        injection h with h
        subst h
        exact (VS.agg' (.cons (.keep _ (by simp [V.kin, V.kinL, GValue.cs])) (.cons (.keep _ (by simp [V.kin, V.kinL, GValue.cs])) (.cons (.keep _ (by simp [V.kin, V.kinL, GValue.cs])) (.cons (.keep _ (by simp [V.kin, V.kinL, GValue.cs])) (.cons (.keep _ (by simp [V.kin, V.kinL, GValue.cs])) (.cons (hA.shut (j := 0) rfl (by simp [V.kin, V.kinL, GValue.cs])) .nil)))))))
end Go.Proofs
