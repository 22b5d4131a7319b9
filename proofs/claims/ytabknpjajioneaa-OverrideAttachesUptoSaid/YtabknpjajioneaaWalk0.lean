/-
  The Go functions compute what their Lean functions do, by a program of this repo.
-/
import Derived.Test.YtabknpjajioneaaFns
import Derived.Test.YtabknpjajioneaaFacts
import Derived.Test.YtabknpjajioneaaAbSimp
import Derived.Lib.Bytealg
import Derived.Laws.Externs
import Derived.KernelRfl
namespace Go.Proofs
open Go Go.Ab
set_option maxRecDepth 10000
set_option maxHeartbeats 1000000
set_option linter.unusedSimpArgs false
set_option linter.unusedVariables false
theorem go_ref03_great_ok : ∀ n : Nat, (∀ (a0 : GValue) (a1 : Int) (r : Bool), go_ref03_great n a0 a1 = some r → PCall Try.prog 58 [.agg a0.cs, .int .i64 a1] (.bool r)) := by
  intro n; induction n using Nat.strongRecOn with | ind n ih =>
  intro a0 a1 r h
  rcases n with _ | n
  · simp [go_ref03_great] at h
  rw [go_ref03_great] at h
  refine pcall_of Try.func58 rfl Try.ntmps58 (fun _ _ => Try.call58 _ _) fun lv E => ?_
  simp only [List.length_cons, List.length_nil, Nat.reduceAdd, Nat.reduceSub, List.replicate, List.cons_append, List.nil_append]
  have hA := AccG.nil (lv + 1)
  generalize ([] : List (Option AObj)) = L at hA ⊢
  repeat refine sat_seq ?_
  refine satO_reg ?_
  refine satO_step 1 [] ⟨.agg a0.cs :: .int .i64 a1 :: .ptr (lv + 1) L.length 0 :: an 32 [], ⟨lv + 1, (L ++ [some (.cells a0.cs)]), E⟩, [], E⟩ [] (by simp -implicitDefEqProofs [GValue.cs]) claims_nil ?_
  have hA : AccG (lv + 1) (L ++ [some (.cells a0.cs)]) [] [(L.length, .cells a0.cs)] := hA.obj _
  generalize L.length = i2 at hA ⊢
  generalize (L ++ [some (.cells a0.cs)]) = L at hA ⊢
  have g0 := hA.get (k := 0) rfl
  refine satO_step 1 [] ⟨.agg a0.cs :: .int .i64 a1 :: .ptr (lv + 1) i2 0 :: an 1 (.bool false :: an 30 []), ⟨lv + 1, L, E⟩, [], E⟩ [] (by simp -implicitDefEqProofs [GValue.cs, g0]) claims_nil ?_
  refine satO_nil (by simp) ?_
  repeat refine sat_seq ?_
  refine sat_meet (fun σ => ∃ (k : Nat), k ≤ n ∧ ∃ (x3 : Bool) (L : List (Option AObj)), AccG (lv + 1) L [] [(i2, .cells a0.cs)] ∧ go_ref03_great_J1 k a0 a1 x3 = some r ∧ σ = ⟨an 1 (.int .i64 a1 :: .ptr (lv + 1) i2 0 :: an 16 (.bool x3 :: an 15 [])), ⟨lv + 1, L, E⟩, [], E⟩) ?_ ?_
  · refine satO_reg ?_
    rcases Bool.eq_false_or_eq_true (a1 == 0) with hg4 | hg5
    · have h := ite_t hg4 h
      have hg4n := hg4
      try simp at hg4n
      have g0 := hA.get (k := 0) rfl
      refine satO_step 14 [] ⟨.agg a0.cs :: .int .i64 a1 :: .ptr (lv + 1) i2 0 :: an 1 (.bool false :: an 1 (.int .i64 a1 :: .bool (a1 == 0) :: .bool (a1 == 0) :: .tup [] :: .tup [] :: .tup [] :: .tup [] :: .bool true :: .bool true :: .tup [] :: .tup [] :: .tup [] :: .tup [] :: .bool true :: an 15 [])), ⟨lv + 1, L, E⟩, [], E⟩ [] (by first | (simp -implicitDefEqProofs [GValue.cs, g0, hg4]; done) | simp -implicitDefEqProofs [GValue.cs, g0, hg4, hg4n]) claims_nil ?_
      refine satO_nil (by simp) ?_
      refine ⟨⟨an 1 (.int .i64 a1 :: .ptr (lv + 1) i2 0 :: an 16 (.bool true :: an 15 [])), ⟨lv + 1, L, E⟩, [], E⟩, weak_tmps ?_, n, by omega, true, L, hA, h, rfl⟩
      (try simp only [an, List.map_cons, List.map_nil]); repeat (first | exact VLeL.nil | refine VLeL.cons (by first | exact VLe.refl _ | exact VLe.any _ | exact VLe.nil _ _ | exact VLe.full _ _ | (refine VLe.agg' ?_; repeat (first | exact VLeL.nil | refine VLeL.cons (by first | exact VLe.refl _ | exact VLe.any _ | exact VLe.nil _ _) ?_))) ?_)
    · have h := ite_f hg5 h
      have hg5n := hg5
      try simp at hg5n
      rcases Bool.eq_false_or_eq_true (decide (200 < (a0.str.length : Int))) with hg6 | hg7
      · have h := ite_t hg6 h
        have hg6n := hg6
        try simp at hg6n
        have g0 := hA.get (k := 0) rfl
        refine satO_step 14 [] ⟨.agg a0.cs :: .int .i64 a1 :: .ptr (lv + 1) i2 0 :: an 1 (.bool false :: an 1 (.int .i64 a1 :: .bool (a1 == 0) :: .bool (a1 == 0) :: .ptr (lv + 1) i2 4 :: .str a0.str :: .int .i64 (a0.str.length : Int) :: .bool (decide (200 < (a0.str.length : Int))) :: .bool (decide (200 < (a0.str.length : Int))) :: .bool (decide (200 < (a0.str.length : Int))) :: .tup [] :: .tup [] :: .tup [] :: .tup [] :: .bool true :: an 15 [])), ⟨lv + 1, L, E⟩, [], E⟩ [] (by first | (simp -implicitDefEqProofs [GValue.cs, g0, hg5, hg6]; done) | simp -implicitDefEqProofs [GValue.cs, g0, hg5, hg6, hg5n, hg6n]) claims_nil ?_
        refine satO_nil (by simp) ?_
        refine ⟨⟨an 1 (.int .i64 a1 :: .ptr (lv + 1) i2 0 :: an 16 (.bool true :: an 15 [])), ⟨lv + 1, L, E⟩, [], E⟩, weak_tmps ?_, n, by omega, true, L, hA, h, rfl⟩
        (try simp only [an, List.map_cons, List.map_nil]); repeat (first | exact VLeL.nil | refine VLeL.cons (by first | exact VLe.refl _ | exact VLe.any _ | exact VLe.nil _ _ | exact VLe.full _ _ | (refine VLe.agg' ?_; repeat (first | exact VLeL.nil | refine VLeL.cons (by first | exact VLe.refl _ | exact VLe.any _ | exact VLe.nil _ _) ?_))) ?_)
      · have h := ite_f hg7 h
        have hg7n := hg7
        try simp at hg7n
        have g0 := hA.get (k := 0) rfl
        refine satO_step 14 [] ⟨.agg a0.cs :: .int .i64 a1 :: .ptr (lv + 1) i2 0 :: an 1 (.bool false :: an 1 (.int .i64 a1 :: .bool (a1 == 0) :: .bool (a1 == 0) :: .ptr (lv + 1) i2 4 :: .str a0.str :: .int .i64 (a0.str.length : Int) :: .bool (decide (200 < (a0.str.length : Int))) :: .bool (decide (200 < (a0.str.length : Int))) :: .bool (decide (200 < (a0.str.length : Int))) :: .ptr (lv + 1) i2 5 :: .sl 6 (a0.list.map GValue.el) false :: .int .i64 (a0.list.length : Int) :: .bool (decide (150 < (a0.list.length : Int))) :: .bool (decide (150 < (a0.list.length : Int))) :: an 15 [])), ⟨lv + 1, L, E⟩, [], E⟩ [] (by first | (simp -implicitDefEqProofs [GValue.cs, g0, hg5, hg7]; done) | simp -implicitDefEqProofs [GValue.cs, g0, hg5, hg7, hg5n, hg7n]) claims_nil ?_
        refine satO_nil (by simp) ?_
        refine ⟨⟨an 1 (.int .i64 a1 :: .ptr (lv + 1) i2 0 :: an 16 (.bool (decide (150 < (a0.list.length : Int))) :: an 15 [])), ⟨lv + 1, L, E⟩, [], E⟩, weak_tmps ?_, n, by omega, (decide (150 < (a0.list.length : Int))), L, hA, h, rfl⟩
        (try simp only [an, List.map_cons, List.map_nil]); repeat (first | exact VLeL.nil | refine VLeL.cons (by first | exact VLe.refl _ | exact VLe.any _ | exact VLe.nil _ _ | exact VLe.full _ _ | (refine VLe.agg' ?_; repeat (first | exact VLeL.nil | refine VLeL.cons (by first | exact VLe.refl _ | exact VLe.any _ | exact VLe.nil _ _) ?_))) ?_)
  · rintro σ0 σ hw ⟨k, hk, x3, L, hA, h, rfl⟩
    rcases k with _ | n
    · simp [go_ref03_great_J1] at h
    · rw [go_ref03_great_J1] at h
      refine sat_weak hw ?_
      repeat refine sat_seq ?_
      refine sat_cond rfl (fun hb => ?_) (fun hb => ?_)
      · have h := ite_t hb h
        repeat refine sat_seq ?_
        refine satO_reg ?_
        have g0 := hA.get (k := 0) rfl
        refine satO_step 1 [] ⟨an 1 (.int .i64 a1 :: .ptr (lv + 1) i2 0 :: an 1 (.bool true :: an 14 (.bool x3 :: an 15 []))), ⟨lv + 1, L, E⟩, [], E⟩ [] (by simp -implicitDefEqProofs [GValue.cs, g0]) claims_nil ?_
        refine satO_nil (by simp) ?_
        repeat refine sat_seq ?_
        refine sat_ret ?_
        have g0 := hA.get (k := 0) rfl
        refine ends (v := .bool true) (by simp [resultsV, resL, resV, tupOf, Try.f58, pLoad, g0, GValue.cs]) rfl rfl ?_
        injection h with h
        subst h
        exact (.keep _ (by simp [V.kin, V.kinL, GValue.cs]))
      · have h := ite_f hb h
        repeat refine sat_seq ?_
        refine sat_skip ?_
        repeat refine sat_seq ?_
        refine satO_reg ?_
        have g0 := hA.get (k := 0) rfl
        refine satO_step 1 [] ⟨an 1 (.int .i64 a1 :: .ptr (lv + 1) i2 0 :: an 2 (.int .i64 0 :: an 13 (.bool x3 :: an 15 []))), ⟨lv + 1, L, E⟩, [], E⟩ [] (by simp -implicitDefEqProofs [GValue.cs, g0]) claims_nil ?_
        refine satO_nil (by simp) ?_
        repeat refine sat_seq ?_
        refine sat_block ?_
        repeat refine sat_seq ?_
        refine sat_loop (fun k σ => ∃ (x8 : Int) (L : List (Option AObj)), k ≤ n ∧ AccG (lv + 1) L [] [(i2, .cells a0.cs)] ∧ go_ref03_great_L1 k a0 a1 x8 = some r ∧ σ = ⟨an 1 (.int .i64 a1 :: .ptr (lv + 1) i2 0 :: an 2 (.int .i64 x8 :: an 29 [])), ⟨lv + 1, L, E⟩, [], E⟩) n ⟨an 1 (.int .i64 a1 :: .ptr (lv + 1) i2 0 :: an 2 (.int .i64 0 :: an 29 [])), ⟨lv + 1, L, E⟩, [], E⟩ (weak_tmps ?_) ⟨0, L, Nat.le_refl _, hA, h, rfl⟩ ?_
        · (try simp only [an, List.map_cons, List.map_nil]); repeat (first | exact VLeL.nil | refine VLeL.cons (by first | exact VLe.refl _ | exact VLe.any _ | exact VLe.nil _ _ | exact VLe.full _ _ | (refine VLe.agg' ?_; repeat (first | exact VLeL.nil | refine VLeL.cons (by first | exact VLe.refl _ | exact VLe.any _ | exact VLe.nil _ _) ?_))) ?_)
        · rintro k σ ⟨x8, L, hk, hA, h, rfl⟩
          rcases k with _ | n
          · simp [go_ref03_great_L1] at h
          · rw [go_ref03_great_L1] at h
            repeat refine sat_seq ?_
            refine satO_reg ?_
            have g0 := hA.get (k := 0) rfl
            refine satO_step 5 [] ⟨an 1 (.int .i64 a1 :: .ptr (lv + 1) i2 0 :: an 2 (.int .i64 x8 :: an 14 (.int .i64 x8 :: .ptr (lv + 1) i2 5 :: .sl 6 (a0.list.map GValue.el) false :: .int .i64 (a0.list.length : Int) :: .bool (decide (x8 < (a0.list.length : Int))) :: an 10 []))), ⟨lv + 1, L, E⟩, [], E⟩ [] (by simp -implicitDefEqProofs [GValue.cs, g0]) claims_nil ?_
            refine satO_nil (by simp) ?_
            repeat refine sat_seq ?_
            refine sat_cond rfl (fun hb => ?_) (fun hb => ?_)
            · have h := ite_t hb h
              repeat refine sat_seq ?_
              refine sat_skip ?_
              repeat refine sat_seq ?_
              refine sat_block ?_
              repeat refine sat_seq ?_
              refine satO_reg ?_
              obtain ⟨x9, q10, h⟩ := bnd_hi h
              obtain ⟨q10, q11⟩ := ix_some q10
              obtain ⟨y12, q13, h⟩ := bnd_hi h
              have g0 := hA.get (k := 0) rfl
              refine satO_step 8 [(.bool y12, none)] ⟨an 1 (.int .i64 a1 :: .ptr (lv + 1) i2 0 :: an 2 (.int .i64 x8 :: an 14 (.int .i64 x8 :: .ptr (lv + 1) i2 5 :: .sl 6 (a0.list.map GValue.el) false :: .int .i64 (a0.list.length : Int) :: .bool (decide (x8 < (a0.list.length : Int))) :: an 2 (.ptr (lv + 1) i2 5 :: .sl 6 (a0.list.map GValue.el) false :: .int .i64 x8 :: .ref x9.cs 0 :: .agg x9.cs :: .int .i64 a1 :: .int .i64 (IntKind.i64.wrap (a1 - 1)) :: .bool y12 :: [])))), ⟨lv + 1, L, E⟩, [], E⟩ [⟨58, [.agg x9.cs, .int .i64 (IntKind.i64.wrap (a1 - 1))], ⟨lv + 1, L, E⟩, .bool y12, ⟨lv + 1, L, E⟩⟩] (by simp -implicitDefEqProofs [GValue.cs, g0, q10, q11, GValue.el_cs]) (claims_cons (ih _ (by omega) _ _ _ q13 _) claims_nil) ?_
              refine satO_nil (by simp) ?_
              repeat refine sat_seq ?_
              refine sat_cond rfl (fun hb => ?_) (fun hb => ?_)
              · have h := ite_t hb h
                repeat refine sat_seq ?_
                refine satO_reg ?_
                have g0 := hA.get (k := 0) rfl
                refine satO_step 1 [] ⟨an 1 (.int .i64 a1 :: .ptr (lv + 1) i2 0 :: an 1 (.bool true :: .int .i64 x8 :: an 14 (.int .i64 x8 :: .ptr (lv + 1) i2 5 :: .sl 6 (a0.list.map GValue.el) false :: .int .i64 (a0.list.length : Int) :: .bool (decide (x8 < (a0.list.length : Int))) :: an 2 (.ptr (lv + 1) i2 5 :: .sl 6 (a0.list.map GValue.el) false :: .int .i64 x8 :: .ref x9.cs 0 :: .agg x9.cs :: .int .i64 a1 :: .int .i64 (IntKind.i64.wrap (a1 - 1)) :: .bool y12 :: [])))), ⟨lv + 1, L, E⟩, [], E⟩ [] (by simp -implicitDefEqProofs [GValue.cs, g0]) claims_nil ?_
                refine satO_nil (by simp) ?_
                repeat refine sat_seq ?_
                refine sat_ret ?_
                have g0 := hA.get (k := 0) rfl
                refine ends (v := .bool true) (by simp [resultsV, resL, resV, tupOf, Try.f58, pLoad, g0, GValue.cs]) rfl rfl ?_
                injection h with h
                subst h
                exact (.keep _ (by simp [V.kin, V.kinL, GValue.cs]))
              · have h := ite_f hb h
                repeat refine sat_seq ?_
                refine sat_skip ?_
                repeat refine sat_seq ?_
                refine satO_reg ?_
                have g0 := hA.get (k := 0) rfl
                refine satO_step 3 [] ⟨an 1 (.int .i64 a1 :: .ptr (lv + 1) i2 0 :: an 2 (.int .i64 (IntKind.i64.wrap (x8 + 1)) :: an 14 (.int .i64 x8 :: .ptr (lv + 1) i2 5 :: .sl 6 (a0.list.map GValue.el) false :: .int .i64 (a0.list.length : Int) :: .bool (decide (x8 < (a0.list.length : Int))) :: .int .i64 x8 :: .int .i64 (IntKind.i64.wrap (x8 + 1)) :: .ptr (lv + 1) i2 5 :: .sl 6 (a0.list.map GValue.el) false :: .int .i64 x8 :: .ref x9.cs 0 :: .agg x9.cs :: .int .i64 a1 :: .int .i64 (IntKind.i64.wrap (a1 - 1)) :: .bool y12 :: []))), ⟨lv + 1, L, E⟩, [], E⟩ [] (by simp -implicitDefEqProofs [GValue.cs, g0]) claims_nil ?_
                refine satO_nil (by simp) ?_
                refine ⟨n, ⟨an 1 (.int .i64 a1 :: .ptr (lv + 1) i2 0 :: an 2 (.int .i64 (IntKind.i64.wrap (x8 + 1)) :: an 29 [])), ⟨lv + 1, L, E⟩, [], E⟩, weak_tmps ?_, ⟨(IntKind.i64.wrap (x8 + 1)), L, by omega, hA, h, rfl⟩, by omega⟩
                (try simp only [an, List.map_cons, List.map_nil]); repeat (first | exact VLeL.nil | refine VLeL.cons (by first | exact VLe.refl _ | exact VLe.any _ | exact VLe.nil _ _ | exact VLe.full _ _ | (refine VLe.agg' ?_; repeat (first | exact VLeL.nil | refine VLeL.cons (by first | exact VLe.refl _ | exact VLe.any _ | exact VLe.nil _ _) ?_))) ?_)
            · have h := ite_f hb h
              repeat refine sat_seq ?_
              refine sat_exit ?_
              repeat refine sat_seq ?_
              refine satO_reg ?_
              have g0 := hA.get (k := 0) rfl
              refine satO_step 1 [] ⟨an 1 (.int .i64 a1 :: .ptr (lv + 1) i2 0 :: an 1 (.bool false :: .int .i64 x8 :: an 14 (.int .i64 x8 :: .ptr (lv + 1) i2 5 :: .sl 6 (a0.list.map GValue.el) false :: .int .i64 (a0.list.length : Int) :: .bool (decide (x8 < (a0.list.length : Int))) :: an 10 []))), ⟨lv + 1, L, E⟩, [], E⟩ [] (by simp -implicitDefEqProofs [GValue.cs, g0]) claims_nil ?_
              refine satO_nil (by simp) ?_
              repeat refine sat_seq ?_
              refine sat_ret ?_
              have g0 := hA.get (k := 0) rfl
              refine ends (v := .bool false) (by simp [resultsV, resL, resV, tupOf, Try.f58, pLoad, g0, GValue.cs]) rfl rfl ?_
              injection h with h
              subst h
              exact (.keep _ (by simp [V.kin, V.kinL, GValue.cs]))
end Go.Proofs

namespace Go.Proofs
open Go Go.Ab
set_option maxRecDepth 10000
set_option maxHeartbeats 1000000
set_option linter.unusedSimpArgs false
set_option linter.unusedVariables false
theorem go_ref03_Parts_ok : ∀ n : Nat, (∀ (a0 : GValue) (r : Int), go_ref03_Parts n a0 = some r → PCall Try.prog 59 [.agg a0.cs] (.int .i64 r)) := by
  intro n; induction n using Nat.strongRecOn with | ind n ih =>
  intro a0 r h
  rcases n with _ | n
  · simp [go_ref03_Parts] at h
  rw [go_ref03_Parts] at h
  refine pcall_of Try.func59 rfl Try.ntmps59 (fun _ _ => Try.call59 _ _) fun lv E => ?_
  simp only [List.length_cons, List.length_nil, Nat.reduceAdd, Nat.reduceSub, List.replicate, List.cons_append, List.nil_append]
  have hA := AccG.nil (lv + 1)
  generalize ([] : List (Option AObj)) = L at hA ⊢
  repeat refine sat_seq ?_
  refine satO_reg ?_
  refine satO_step 1 [] ⟨.agg a0.cs :: .ptr (lv + 1) L.length 0 :: an 24 [], ⟨lv + 1, (L ++ [some (.cells a0.cs)]), E⟩, [], E⟩ [] (by simp -implicitDefEqProofs [GValue.cs]) claims_nil ?_
  have hA : AccG (lv + 1) (L ++ [some (.cells a0.cs)]) [] [(L.length, .cells a0.cs)] := hA.obj _
  generalize L.length = i2 at hA ⊢
  generalize (L ++ [some (.cells a0.cs)]) = L at hA ⊢
  have g0 := hA.get (k := 0) rfl
  refine satO_step 1 [] ⟨.agg a0.cs :: .ptr (lv + 1) i2 0 :: .int .i64 0 :: an 23 [], ⟨lv + 1, L, E⟩, [], E⟩ [] (by simp -implicitDefEqProofs [GValue.cs, g0]) claims_nil ?_
  refine satO_nil (by simp) ?_
  repeat refine sat_seq ?_
  refine satO_reg ?_
  have g0 := hA.get (k := 0) rfl
  refine satO_step 1 [] ⟨.agg a0.cs :: .ptr (lv + 1) i2 0 :: .int .i64 0 :: .int .i64 1 :: an 22 [], ⟨lv + 1, L, E⟩, [], E⟩ [] (by simp -implicitDefEqProofs [GValue.cs, g0]) claims_nil ?_
  refine satO_nil (by simp) ?_
  repeat refine sat_seq ?_
  refine satO_reg ?_
  have g0 := hA.get (k := 0) rfl
  refine satO_step 1 [] ⟨.agg a0.cs :: .ptr (lv + 1) i2 0 :: .int .i64 0 :: .int .i64 1 :: .int .i64 0 :: an 21 [], ⟨lv + 1, L, E⟩, [], E⟩ [] (by simp -implicitDefEqProofs [GValue.cs, g0]) claims_nil ?_
  refine satO_nil (by simp) ?_
  repeat refine sat_seq ?_
  refine sat_block ?_
  repeat refine sat_seq ?_
  refine sat_loop (fun k σ => ∃ (x3 : Int) (x4 : Int) (L : List (Option AObj)), k ≤ n ∧ AccG (lv + 1) L [] [(i2, .cells a0.cs)] ∧ go_ref03_Parts_L1 k a0 x3 x4 = some r ∧ σ = ⟨an 1 (.ptr (lv + 1) i2 0 :: an 1 (.int .i64 x3 :: .int .i64 x4 :: an 21 [])), ⟨lv + 1, L, E⟩, [], E⟩) n ⟨an 1 (.ptr (lv + 1) i2 0 :: an 1 (.int .i64 1 :: .int .i64 0 :: an 21 [])), ⟨lv + 1, L, E⟩, [], E⟩ (weak_tmps ?_) ⟨1, 0, L, Nat.le_refl _, hA, h, rfl⟩ ?_
  · (try simp only [an, List.map_cons, List.map_nil]); repeat (first | exact VLeL.nil | refine VLeL.cons (by first | exact VLe.refl _ | exact VLe.any _ | exact VLe.nil _ _ | exact VLe.full _ _ | (refine VLe.agg' ?_; repeat (first | exact VLeL.nil | refine VLeL.cons (by first | exact VLe.refl _ | exact VLe.any _ | exact VLe.nil _ _) ?_))) ?_)
  · rintro k σ ⟨x3, x4, L, hk, hA, h, rfl⟩
    rcases k with _ | n
    · simp [go_ref03_Parts_L1] at h
    · rw [go_ref03_Parts_L1] at h
      repeat refine sat_seq ?_
      refine sat_meet (fun σ => ∃ (k : Nat), k ≤ n ∧ ∃ (x5 : Bool) (L : List (Option AObj)), AccG (lv + 1) L [] [(i2, .cells a0.cs)] ∧ go_ref03_Parts_J1 k a0 x3 x4 x5 = some r ∧ σ = ⟨an 1 (.ptr (lv + 1) i2 0 :: an 1 (.int .i64 x3 :: .int .i64 x4 :: an 9 (.bool x5 :: an 11 []))), ⟨lv + 1, L, E⟩, [], E⟩) ?_ ?_
      · refine satO_reg ?_
        rcases Bool.eq_false_or_eq_true (decide (x4 < (a0.list.length : Int))) with hg6 | hg7
        · have h := ite_t hg6 h
          have hg6n := hg6
          try simp at hg6n
          have g0 := hA.get (k := 0) rfl
          refine satO_step 10 [] ⟨an 1 (.ptr (lv + 1) i2 0 :: an 1 (.int .i64 x3 :: .int .i64 x4 :: .int .i64 x4 :: .ptr (lv + 1) i2 5 :: .sl 6 (a0.list.map GValue.el) false :: .int .i64 (a0.list.length : Int) :: .bool (decide (x4 < (a0.list.length : Int))) :: .bool (decide (x4 < (a0.list.length : Int))) :: .ptr (lv + 1) i2 0 :: .int .u8 a0.kind :: .bool (a0.kind == 4) :: .bool (a0.kind == 4) :: an 11 [])), ⟨lv + 1, L, E⟩, [], E⟩ [] (by first | (simp -implicitDefEqProofs [GValue.cs, g0, hg6]; done) | simp -implicitDefEqProofs [GValue.cs, g0, hg6, hg6n]) claims_nil ?_
          refine satO_nil (by simp) ?_
          refine ⟨⟨an 1 (.ptr (lv + 1) i2 0 :: an 1 (.int .i64 x3 :: .int .i64 x4 :: an 9 (.bool (a0.kind == 4) :: an 11 []))), ⟨lv + 1, L, E⟩, [], E⟩, weak_tmps ?_, n, by omega, (a0.kind == 4), L, hA, h, rfl⟩
          (try simp only [an, List.map_cons, List.map_nil]); repeat (first | exact VLeL.nil | refine VLeL.cons (by first | exact VLe.refl _ | exact VLe.any _ | exact VLe.nil _ _ | exact VLe.full _ _ | (refine VLe.agg' ?_; repeat (first | exact VLeL.nil | refine VLeL.cons (by first | exact VLe.refl _ | exact VLe.any _ | exact VLe.nil _ _) ?_))) ?_)
        · have h := ite_f hg7 h
          have hg7n := hg7
          try simp at hg7n
          have g0 := hA.get (k := 0) rfl
          refine satO_step 10 [] ⟨an 1 (.ptr (lv + 1) i2 0 :: an 1 (.int .i64 x3 :: .int .i64 x4 :: .int .i64 x4 :: .ptr (lv + 1) i2 5 :: .sl 6 (a0.list.map GValue.el) false :: .int .i64 (a0.list.length : Int) :: .bool (decide (x4 < (a0.list.length : Int))) :: .bool (decide (x4 < (a0.list.length : Int))) :: .tup [] :: .tup [] :: .tup [] :: .bool false :: an 11 [])), ⟨lv + 1, L, E⟩, [], E⟩ [] (by first | (simp -implicitDefEqProofs [GValue.cs, g0, hg7]; done) | simp -implicitDefEqProofs [GValue.cs, g0, hg7, hg7n]) claims_nil ?_
          refine satO_nil (by simp) ?_
          refine ⟨⟨an 1 (.ptr (lv + 1) i2 0 :: an 1 (.int .i64 x3 :: .int .i64 x4 :: an 9 (.bool false :: an 11 []))), ⟨lv + 1, L, E⟩, [], E⟩, weak_tmps ?_, n, by omega, false, L, hA, h, rfl⟩
          (try simp only [an, List.map_cons, List.map_nil]); repeat (first | exact VLeL.nil | refine VLeL.cons (by first | exact VLe.refl _ | exact VLe.any _ | exact VLe.nil _ _ | exact VLe.full _ _ | (refine VLe.agg' ?_; repeat (first | exact VLeL.nil | refine VLeL.cons (by first | exact VLe.refl _ | exact VLe.any _ | exact VLe.nil _ _) ?_))) ?_)
      · rintro σ0 σ hw ⟨k, hk, x5, L, hA, h, rfl⟩
        rcases k with _ | n
        · simp [go_ref03_Parts_J1] at h
        · rw [go_ref03_Parts_J1] at h
          refine sat_weak hw ?_
          repeat refine sat_seq ?_
          refine sat_cond rfl (fun hb => ?_) (fun hb => ?_)
          · have h := ite_t hb h
            repeat refine sat_seq ?_
            refine sat_skip ?_
            repeat refine sat_seq ?_
            refine sat_block ?_
            repeat refine sat_seq ?_
            refine satO_reg ?_
            obtain ⟨x8, q9, h⟩ := bnd_hi h
            obtain ⟨q9, q10⟩ := ix_some q9
            obtain ⟨y11, q12, h⟩ := bnd_hi h
            have g0 := hA.get (k := 0) rfl
            refine satO_step 9 [(.int .i64 y11, none)] ⟨an 1 (.ptr (lv + 1) i2 0 :: an 1 (.int .i64 (IntKind.i64.wrap (x3 + y11)) :: .int .i64 x4 :: an 9 (.bool x5 :: an 2 (.int .i64 x3 :: .ptr (lv + 1) i2 5 :: .sl 6 (a0.list.map GValue.el) false :: .int .i64 x4 :: .ref x8.cs 0 :: .agg x8.cs :: .int .i64 y11 :: .int .i64 (IntKind.i64.wrap (x3 + y11)) :: an 1 [])))), ⟨lv + 1, L, E⟩, [], E⟩ [⟨59, [.agg x8.cs], ⟨lv + 1, L, E⟩, .int .i64 y11, ⟨lv + 1, L, E⟩⟩] (by simp -implicitDefEqProofs [GValue.cs, g0, q9, q10, GValue.el_cs]) (claims_cons (ih _ (by omega) _ _ q12 _) claims_nil) ?_
            refine satO_nil (by simp) ?_
            repeat refine sat_seq ?_
            refine satO_reg ?_
            have g0 := hA.get (k := 0) rfl
            refine satO_step 3 [] ⟨an 1 (.ptr (lv + 1) i2 0 :: an 1 (.int .i64 (IntKind.i64.wrap (x3 + y11)) :: .int .i64 (IntKind.i64.wrap (x4 + 1)) :: an 9 (.bool x5 :: .int .i64 x4 :: .int .i64 (IntKind.i64.wrap (x4 + 1)) :: .int .i64 x3 :: .ptr (lv + 1) i2 5 :: .sl 6 (a0.list.map GValue.el) false :: .int .i64 x4 :: .ref x8.cs 0 :: .agg x8.cs :: .int .i64 y11 :: .int .i64 (IntKind.i64.wrap (x3 + y11)) :: an 1 []))), ⟨lv + 1, L, E⟩, [], E⟩ [] (by simp -implicitDefEqProofs [GValue.cs, g0]) claims_nil ?_
            refine satO_nil (by simp) ?_
            refine ⟨n, ⟨an 1 (.ptr (lv + 1) i2 0 :: an 1 (.int .i64 (IntKind.i64.wrap (x3 + y11)) :: .int .i64 (IntKind.i64.wrap (x4 + 1)) :: an 21 [])), ⟨lv + 1, L, E⟩, [], E⟩, weak_tmps ?_, ⟨(IntKind.i64.wrap (x3 + y11)), (IntKind.i64.wrap (x4 + 1)), L, by omega, hA, h, rfl⟩, by omega⟩
            (try simp only [an, List.map_cons, List.map_nil]); repeat (first | exact VLeL.nil | refine VLeL.cons (by first | exact VLe.refl _ | exact VLe.any _ | exact VLe.nil _ _ | exact VLe.full _ _ | (refine VLe.agg' ?_; repeat (first | exact VLeL.nil | refine VLeL.cons (by first | exact VLe.refl _ | exact VLe.any _ | exact VLe.nil _ _) ?_))) ?_)
          · have h := ite_f hb h
            repeat refine sat_seq ?_
            refine sat_exit ?_
            repeat refine sat_seq ?_
            refine satO_reg ?_
            have g0 := hA.get (k := 0) rfl
            refine satO_step 2 [] ⟨an 1 (.ptr (lv + 1) i2 0 :: .int .i64 x3 :: .int .i64 x3 :: .int .i64 x4 :: an 9 (.bool x5 :: an 10 (.int .i64 x3 :: []))), ⟨lv + 1, L, E⟩, [], E⟩ [] (by simp -implicitDefEqProofs [GValue.cs, g0]) claims_nil ?_
            refine satO_nil (by simp) ?_
            repeat refine sat_seq ?_
            refine sat_ret ?_
            have g0 := hA.get (k := 0) rfl
            refine ends (v := .int .i64 x3) (by simp [resultsV, resL, resV, tupOf, Try.f59, pLoad, g0, GValue.cs]) rfl rfl ?_
            injection h with h
            subst h
            exact (.keep _ (by simp [V.kin, V.kinL, GValue.cs]))
end Go.Proofs

namespace Go.Proofs
open Go Go.Ab
set_option maxRecDepth 10000
set_option maxHeartbeats 1000000
set_option linter.unusedSimpArgs false
set_option linter.unusedVariables false
theorem go_ref03_Great_ok (n : Nat) (a0 : GValue) (r : Bool) (h : go_ref03_Great n a0 = some r) : PCall Try.prog 43 [.agg a0.cs] (.bool r) := by
  rw [go_ref03_Great] at h
  refine pcall_of Try.func43 rfl Try.ntmps43 (fun _ _ => Try.call43 _ _) fun lv E => ?_
  simp only [List.length_cons, List.length_nil, Nat.reduceAdd, Nat.reduceSub, List.replicate, List.cons_append, List.nil_append]
  have hA := AccG.nil (lv + 1)
  generalize ([] : List (Option AObj)) = L at hA ⊢
  repeat refine sat_seq ?_
  refine satO_reg ?_
  refine satO_step 1 [] ⟨.agg a0.cs :: .ptr (lv + 1) L.length 0 :: an 8 [], ⟨lv + 1, (L ++ [some (.cells a0.cs)]), E⟩, [], E⟩ [] (by simp -implicitDefEqProofs [GValue.cs]) claims_nil ?_
  have hA : AccG (lv + 1) (L ++ [some (.cells a0.cs)]) [] [(L.length, .cells a0.cs)] := hA.obj _
  generalize L.length = i2 at hA ⊢
  generalize (L ++ [some (.cells a0.cs)]) = L at hA ⊢
  have g0 := hA.get (k := 0) rfl
  refine satO_step 1 [] ⟨.agg a0.cs :: .ptr (lv + 1) i2 0 :: .bool false :: an 7 [], ⟨lv + 1, L, E⟩, [], E⟩ [] (by simp -implicitDefEqProofs [GValue.cs, g0]) claims_nil ?_
  refine satO_nil (by simp) ?_
  repeat refine sat_seq ?_
  refine sat_meet (fun σ => ∃ (x3 : Bool) (L : List (Option AObj)), AccG (lv + 1) L [] [] ∧ go_ref03_Great_J1 n x3 = some r ∧ σ = ⟨an 2 (.bool x3 :: an 7 []), ⟨lv + 1, L, E⟩, [], E⟩) ?_ ?_
  · refine satO_reg ?_
    obtain ⟨y4, q5, h⟩ := bnd_hi h
    rcases Bool.eq_false_or_eq_true y4 with hg6 | hg7
    · have h := ite_t hg6 h
      have hg6n := hg6
      try simp at hg6n
      have g0 := hA.get (k := 0) rfl
      refine satO_step 8 [(.bool y4, none)] ⟨.agg a0.cs :: .ptr (lv + 1) i2 0 :: .bool true :: .agg a0.cs :: .bool y4 :: .bool y4 :: .tup [] :: .tup [] :: .tup [] :: .bool true :: [], ⟨lv + 1, L, E⟩, [], E⟩ [⟨58, [.agg a0.cs, .int .i64 10], ⟨lv + 1, L, E⟩, .bool y4, ⟨lv + 1, L, E⟩⟩] (by first | (simp -implicitDefEqProofs [GValue.cs, g0, hg6]; done) | simp -implicitDefEqProofs [GValue.cs, g0, hg6, hg6n]) (claims_cons (go_ref03_great_ok _ _ _ _ q5 _) claims_nil) ?_
      refine satO_nil (by simp) ?_
      have hA : AccG (lv + 1) L [] [] := hA.sel [] (by simp) rfl (.cons _ .slnil)
      refine ⟨⟨an 2 (.bool true :: an 7 []), ⟨lv + 1, L, E⟩, [], E⟩, weak_tmps ?_, true, L, hA, h, rfl⟩
      (try simp only [an, List.map_cons, List.map_nil]); repeat (first | exact VLeL.nil | refine VLeL.cons (by first | exact VLe.refl _ | exact VLe.any _ | exact VLe.nil _ _ | exact VLe.full _ _ | (refine VLe.agg' ?_; repeat (first | exact VLeL.nil | refine VLeL.cons (by first | exact VLe.refl _ | exact VLe.any _ | exact VLe.nil _ _) ?_))) ?_)
    · have h := ite_f hg7 h
      have hg7n := hg7
      try simp at hg7n
      obtain ⟨y8, q9, h⟩ := bnd_hi h
      have g0 := hA.get (k := 0) rfl
      refine satO_step 8 [(.bool y4, none), (.int .i64 y8, none)] ⟨.agg a0.cs :: .ptr (lv + 1) i2 0 :: .bool (decide (150 < y8)) :: .agg a0.cs :: .bool y4 :: .bool y4 :: .agg a0.cs :: .int .i64 y8 :: .bool (decide (150 < y8)) :: .bool (decide (150 < y8)) :: [], ⟨lv + 1, L, E⟩, [], E⟩ [⟨58, [.agg a0.cs, .int .i64 10], ⟨lv + 1, L, E⟩, .bool y4, ⟨lv + 1, L, E⟩⟩, ⟨59, [.agg a0.cs], ⟨lv + 1, L, E⟩, .int .i64 y8, ⟨lv + 1, L, E⟩⟩] (by first | (simp -implicitDefEqProofs [GValue.cs, g0, hg7]; done) | simp -implicitDefEqProofs [GValue.cs, g0, hg7, hg7n]) (claims_cons (go_ref03_great_ok _ _ _ _ q5 _) (claims_cons (go_ref03_Parts_ok _ _ _ q9 _) claims_nil)) ?_
      refine satO_nil (by simp) ?_
      have hA : AccG (lv + 1) L [] [] := hA.sel [] (by simp) rfl (.cons _ .slnil)
      refine ⟨⟨an 2 (.bool (decide (150 < y8)) :: an 7 []), ⟨lv + 1, L, E⟩, [], E⟩, weak_tmps ?_, (decide (150 < y8)), L, hA, h, rfl⟩
      (try simp only [an, List.map_cons, List.map_nil]); repeat (first | exact VLeL.nil | refine VLeL.cons (by first | exact VLe.refl _ | exact VLe.any _ | exact VLe.nil _ _ | exact VLe.full _ _ | (refine VLe.agg' ?_; repeat (first | exact VLeL.nil | refine VLeL.cons (by first | exact VLe.refl _ | exact VLe.any _ | exact VLe.nil _ _) ?_))) ?_)
  · rintro σ0 σ hw ⟨x3, L, hA, h, rfl⟩
    rw [go_ref03_Great_J1] at h
    refine sat_weak hw ?_
    repeat refine sat_seq ?_
    refine sat_ret ?_
    refine ends (v := .bool x3) (by simp [resultsV, resL, resV, tupOf, Try.f43, pLoad, GValue.cs]) rfl rfl ?_
    injection h with h
    subst h
    exact (.keep _ (by simp [V.kin, V.kinL, GValue.cs]))
end Go.Proofs

namespace Go.Proofs
open Go Go.Ab
set_option maxRecDepth 10000
set_option maxHeartbeats 1000000
set_option linter.unusedSimpArgs false
set_option linter.unusedVariables false
theorem go_ref27_GreatArgs_ok (n : Nat) (a0 : List GValue) (r : Bool) (h : go_ref27_GreatArgs n a0 = some r) : PCall Try.prog 25 [.sl 6 (a0.map GValue.el) false] (.bool r) := by
  rcases n with _ | n
  · simp [go_ref27_GreatArgs] at h
  rw [go_ref27_GreatArgs] at h
  refine pcall_of Try.func25 rfl Try.ntmps25 (fun _ _ => Try.call25 _ _) fun lv E => ?_
  simp only [List.length_cons, List.length_nil, Nat.reduceAdd, Nat.reduceSub, List.replicate, List.cons_append, List.nil_append]
  have hA := AccG.nil (lv + 1)
  generalize ([] : List (Option AObj)) = L at hA ⊢
  repeat refine sat_seq ?_
  refine satO_reg ?_
  refine satO_step 1 [] ⟨.sl 6 (a0.map GValue.el) false :: an 1 (.bool false :: an 15 []), ⟨lv + 1, L, E⟩, [], E⟩ [] (by simp -implicitDefEqProofs []) claims_nil ?_
  refine satO_nil (by simp) ?_
  repeat refine sat_seq ?_
  refine satO_reg ?_
  refine satO_step 1 [] ⟨.sl 6 (a0.map GValue.el) false :: an 1 (.bool false :: .int .i64 0 :: an 14 []), ⟨lv + 1, L, E⟩, [], E⟩ [] (by simp -implicitDefEqProofs []) claims_nil ?_
  refine satO_nil (by simp) ?_
  repeat refine sat_seq ?_
  refine sat_block ?_
  repeat refine sat_seq ?_
  refine sat_loop (fun k σ => ∃ (x1 : Int) (L : List (Option AObj)), k ≤ n ∧ AccG (lv + 1) L [] [] ∧ go_ref27_GreatArgs_L1 k a0 x1 = some r ∧ σ = ⟨.sl 6 (a0.map GValue.el) false :: an 2 (.int .i64 x1 :: an 14 []), ⟨lv + 1, L, E⟩, [], E⟩) n ⟨.sl 6 (a0.map GValue.el) false :: an 2 (.int .i64 0 :: an 14 []), ⟨lv + 1, L, E⟩, [], E⟩ (weak_tmps ?_) ⟨0, L, Nat.le_refl _, hA, h, rfl⟩ ?_
  · (try simp only [an, List.map_cons, List.map_nil]); repeat (first | exact VLeL.nil | refine VLeL.cons (by first | exact VLe.refl _ | exact VLe.any _ | exact VLe.nil _ _ | exact VLe.full _ _ | (refine VLe.agg' ?_; repeat (first | exact VLeL.nil | refine VLeL.cons (by first | exact VLe.refl _ | exact VLe.any _ | exact VLe.nil _ _) ?_))) ?_)
  · rintro k σ ⟨x1, L, hk, hA, h, rfl⟩
    rcases k with _ | n
    · simp [go_ref27_GreatArgs_L1] at h
    · rw [go_ref27_GreatArgs_L1] at h
      repeat refine sat_seq ?_
      refine satO_reg ?_
      refine satO_step 4 [] ⟨.sl 6 (a0.map GValue.el) false :: an 2 (.int .i64 x1 :: .int .i64 x1 :: .sl 6 (a0.map GValue.el) false :: .int .i64 (a0.length : Int) :: .bool (decide (x1 < (a0.length : Int))) :: an 10 []), ⟨lv + 1, L, E⟩, [], E⟩ [] (by simp -implicitDefEqProofs []) claims_nil ?_
      refine satO_nil (by simp) ?_
      repeat refine sat_seq ?_
      refine sat_cond rfl (fun hb => ?_) (fun hb => ?_)
      · have h := ite_t hb h
        repeat refine sat_seq ?_
        refine sat_skip ?_
        repeat refine sat_seq ?_
        refine sat_block ?_
        repeat refine sat_seq ?_
        refine satO_reg ?_
        obtain ⟨x2, q3, h⟩ := bnd_hi h
        obtain ⟨q3, q4⟩ := ix_some q3
        obtain ⟨y5, q6, h⟩ := bnd_hi h
        refine satO_step 5 [(.bool y5, none)] ⟨.sl 6 (a0.map GValue.el) false :: an 2 (.int .i64 x1 :: .int .i64 x1 :: .sl 6 (a0.map GValue.el) false :: .int .i64 (a0.length : Int) :: .bool (decide (x1 < (a0.length : Int))) :: an 2 (.sl 6 (a0.map GValue.el) false :: .int .i64 x1 :: .ref x2.cs 0 :: .agg x2.cs :: .bool y5 :: an 3 [])), ⟨lv + 1, L, E⟩, [], E⟩ [⟨43, [.agg x2.cs], ⟨lv + 1, L, E⟩, .bool y5, ⟨lv + 1, L, E⟩⟩] (by simp -implicitDefEqProofs [GValue.cs, q3, q4, GValue.el_cs]) (claims_cons (go_ref03_Great_ok _ _ _ q6 _) claims_nil) ?_
        refine satO_nil (by simp) ?_
        repeat refine sat_seq ?_
        refine sat_cond rfl (fun hb => ?_) (fun hb => ?_)
        · have h := ite_t hb h
          repeat refine sat_seq ?_
          refine satO_reg ?_
          refine satO_step 1 [] ⟨.sl 6 (a0.map GValue.el) false :: an 1 (.bool true :: .int .i64 x1 :: .int .i64 x1 :: .sl 6 (a0.map GValue.el) false :: .int .i64 (a0.length : Int) :: .bool (decide (x1 < (a0.length : Int))) :: an 2 (.sl 6 (a0.map GValue.el) false :: .int .i64 x1 :: .ref x2.cs 0 :: .agg x2.cs :: .bool y5 :: an 3 [])), ⟨lv + 1, L, E⟩, [], E⟩ [] (by simp -implicitDefEqProofs [GValue.cs]) claims_nil ?_
          refine satO_nil (by simp) ?_
          repeat refine sat_seq ?_
          refine sat_ret ?_
          refine ends (v := .bool true) (by simp [resultsV, resL, resV, tupOf, Try.f25, pLoad, GValue.cs]) rfl rfl ?_
          injection h with h
          subst h
          exact (.keep _ (by simp [V.kin, V.kinL, GValue.cs]))
        · have h := ite_f hb h
          repeat refine sat_seq ?_
          refine sat_skip ?_
          repeat refine sat_seq ?_
          refine satO_reg ?_
          refine satO_step 3 [] ⟨.sl 6 (a0.map GValue.el) false :: an 2 (.int .i64 (IntKind.i64.wrap (x1 + 1)) :: .int .i64 x1 :: .sl 6 (a0.map GValue.el) false :: .int .i64 (a0.length : Int) :: .bool (decide (x1 < (a0.length : Int))) :: .int .i64 x1 :: .int .i64 (IntKind.i64.wrap (x1 + 1)) :: .sl 6 (a0.map GValue.el) false :: .int .i64 x1 :: .ref x2.cs 0 :: .agg x2.cs :: .bool y5 :: an 3 []), ⟨lv + 1, L, E⟩, [], E⟩ [] (by simp -implicitDefEqProofs [GValue.cs]) claims_nil ?_
          refine satO_nil (by simp) ?_
          refine ⟨n, ⟨.sl 6 (a0.map GValue.el) false :: an 2 (.int .i64 (IntKind.i64.wrap (x1 + 1)) :: an 14 []), ⟨lv + 1, L, E⟩, [], E⟩, weak_tmps ?_, ⟨(IntKind.i64.wrap (x1 + 1)), L, by omega, hA, h, rfl⟩, by omega⟩
          (try simp only [an, List.map_cons, List.map_nil]); repeat (first | exact VLeL.nil | refine VLeL.cons (by first | exact VLe.refl _ | exact VLe.any _ | exact VLe.nil _ _ | exact VLe.full _ _ | (refine VLe.agg' ?_; repeat (first | exact VLeL.nil | refine VLeL.cons (by first | exact VLe.refl _ | exact VLe.any _ | exact VLe.nil _ _) ?_))) ?_)
      · have h := ite_f hb h
        repeat refine sat_seq ?_
        refine sat_exit ?_
        repeat refine sat_seq ?_
        refine satO_reg ?_
        refine satO_step 4 [] ⟨.sl 6 (a0.map GValue.el) false :: an 1 (.bool (decide (10 < (a0.length : Int))) :: .int .i64 x1 :: .int .i64 x1 :: .sl 6 (a0.map GValue.el) false :: .int .i64 (a0.length : Int) :: .bool (decide (x1 < (a0.length : Int))) :: an 7 (.sl 6 (a0.map GValue.el) false :: .int .i64 (a0.length : Int) :: .bool (decide (10 < (a0.length : Int))) :: [])), ⟨lv + 1, L, E⟩, [], E⟩ [] (by simp -implicitDefEqProofs [GValue.cs]) claims_nil ?_
        refine satO_nil (by simp) ?_
        repeat refine sat_seq ?_
        refine sat_ret ?_
        refine ends (v := .bool (decide (10 < (a0.length : Int)))) (by simp [resultsV, resL, resV, tupOf, Try.f25, pLoad, GValue.cs]) rfl rfl ?_
        injection h with h
        subst h
        exact (.keep _ (by simp [V.kin, V.kinL, GValue.cs]))
end Go.Proofs

namespace Go.Proofs
open Go Go.Ab
set_option maxRecDepth 10000
set_option maxHeartbeats 1000000
set_option linter.unusedSimpArgs false
set_option linter.unusedVariables false
theorem go_ref27_Great_ok (n : Nat) (a0 : List GNode) (r : Bool) (h : go_ref27_Great n a0 = some r) : PCall Try.prog 6 [.sl 13 (a0.map GNode.el) false] (.bool r) := by
  rcases n with _ | n
  · simp [go_ref27_Great] at h
  rw [go_ref27_Great] at h
  refine pcall_of Try.func6 rfl Try.ntmps6 (fun _ _ => Try.call6 _ _) fun lv E => ?_
  simp only [List.length_cons, List.length_nil, Nat.reduceAdd, Nat.reduceSub, List.replicate, List.cons_append, List.nil_append]
  have hA := AccG.nil (lv + 1)
  generalize ([] : List (Option AObj)) = L at hA ⊢
  repeat refine sat_seq ?_
  refine satO_reg ?_
  refine satO_step 1 [] ⟨.sl 13 (a0.map GNode.el) false :: an 1 (.bool false :: an 43 []), ⟨lv + 1, L, E⟩, [], E⟩ [] (by simp -implicitDefEqProofs []) claims_nil ?_
  refine satO_nil (by simp) ?_
  repeat refine sat_seq ?_
  refine satO_reg ?_
  refine satO_step 1 [] ⟨.sl 13 (a0.map GNode.el) false :: an 1 (.bool false :: .int .i64 0 :: an 42 []), ⟨lv + 1, L, E⟩, [], E⟩ [] (by simp -implicitDefEqProofs []) claims_nil ?_
  refine satO_nil (by simp) ?_
  repeat refine sat_seq ?_
  refine sat_block ?_
  repeat refine sat_seq ?_
  refine sat_loop (fun k σ => ∃ (x1 : Int) (L : List (Option AObj)), k ≤ n ∧ AccG (lv + 1) L [] [] ∧ go_ref27_Great_L1 k a0 x1 = some r ∧ σ = ⟨.sl 13 (a0.map GNode.el) false :: an 2 (.int .i64 x1 :: an 42 []), ⟨lv + 1, L, E⟩, [], E⟩) n ⟨.sl 13 (a0.map GNode.el) false :: an 2 (.int .i64 0 :: an 42 []), ⟨lv + 1, L, E⟩, [], E⟩ (weak_tmps ?_) ⟨0, L, Nat.le_refl _, hA, h, rfl⟩ ?_
  · (try simp only [an, List.map_cons, List.map_nil]); repeat (first | exact VLeL.nil | refine VLeL.cons (by first | exact VLe.refl _ | exact VLe.any _ | exact VLe.nil _ _ | exact VLe.full _ _ | (refine VLe.agg' ?_; repeat (first | exact VLeL.nil | refine VLeL.cons (by first | exact VLe.refl _ | exact VLe.any _ | exact VLe.nil _ _) ?_))) ?_)
  · rintro k σ ⟨x1, L, hk, hA, h, rfl⟩
    rcases k with _ | n
    · simp [go_ref27_Great_L1] at h
    · rw [go_ref27_Great_L1] at h
      repeat refine sat_seq ?_
      refine satO_reg ?_
      refine satO_step 4 [] ⟨.sl 13 (a0.map GNode.el) false :: an 2 (.int .i64 x1 :: .int .i64 x1 :: .sl 13 (a0.map GNode.el) false :: .int .i64 (a0.length : Int) :: .bool (decide (x1 < (a0.length : Int))) :: an 38 []), ⟨lv + 1, L, E⟩, [], E⟩ [] (by simp -implicitDefEqProofs []) claims_nil ?_
      refine satO_nil (by simp) ?_
      repeat refine sat_seq ?_
      refine sat_cond rfl (fun hb => ?_) (fun hb => ?_)
      · have h := ite_t hb h
        repeat refine sat_seq ?_
        refine sat_skip ?_
        repeat refine sat_seq ?_
        refine sat_block ?_
        repeat refine sat_seq ?_
        refine sat_meet (fun σ => ∃ (k : Nat), k ≤ n ∧ ∃ (x2 : Bool) (L : List (Option AObj)), AccG (lv + 1) L [] [] ∧ go_ref27_Great_J1 k a0 x1 x2 = some r ∧ σ = ⟨.sl 13 (a0.map GNode.el) false :: an 2 (.int .i64 x1 :: an 38 (.bool x2 :: an 3 [])), ⟨lv + 1, L, E⟩, [], E⟩) ?_ ?_
        · refine satO_reg ?_
          obtain ⟨x3, q4, h⟩ := bnd_hi h
          obtain ⟨q4, q5⟩ := ix_some q4
          rcases Bool.eq_false_or_eq_true (decide (5000 < (x3.path.length : Int))) with hg6 | hg7
          · have h := ite_t hg6 h
            have hg6n := hg6
            try simp at hg6n
            refine satO_step 33 [] ⟨.sl 13 (a0.map GNode.el) false :: an 2 (.int .i64 x1 :: .int .i64 x1 :: .sl 13 (a0.map GNode.el) false :: .int .i64 (a0.length : Int) :: .bool (decide (x1 < (a0.length : Int))) :: an 2 (.sl 13 (a0.map GNode.el) false :: .int .i64 x1 :: .ref x3.cs 0 :: .ref x3.cs 0 :: .str x3.path :: .int .i64 (x3.path.length : Int) :: .bool (decide (5000 < (x3.path.length : Int))) :: .bool (decide (5000 < (x3.path.length : Int))) :: .tup [] :: .tup [] :: .tup [] :: .tup [] :: .tup [] :: .tup [] :: .tup [] :: .bool true :: .bool true :: .tup [] :: .tup [] :: .tup [] :: .tup [] :: .tup [] :: .tup [] :: .tup [] :: .bool true :: .bool true :: .tup [] :: .tup [] :: .tup [] :: .tup [] :: .tup [] :: .tup [] :: .bool true :: an 3 [])), ⟨lv + 1, L, E⟩, [], E⟩ [] (by first | (simp -implicitDefEqProofs [GNode.cs, q4, q5, GNode.el_cs, hg6]; done) | simp -implicitDefEqProofs [GNode.cs, q4, q5, GNode.el_cs, hg6, hg6n]) claims_nil ?_
            refine satO_nil (by simp) ?_
            refine ⟨⟨.sl 13 (a0.map GNode.el) false :: an 2 (.int .i64 x1 :: an 38 (.bool true :: an 3 [])), ⟨lv + 1, L, E⟩, [], E⟩, weak_tmps ?_, n, by omega, true, L, hA, h, rfl⟩
            (try simp only [an, List.map_cons, List.map_nil]); repeat (first | exact VLeL.nil | refine VLeL.cons (by first | exact VLe.refl _ | exact VLe.any _ | exact VLe.nil _ _ | exact VLe.full _ _ | (refine VLe.agg' ?_; repeat (first | exact VLeL.nil | refine VLeL.cons (by first | exact VLe.refl _ | exact VLe.any _ | exact VLe.nil _ _) ?_))) ?_)
          · have h := ite_f hg7 h
            have hg7n := hg7
            try simp at hg7n
            rcases Bool.eq_false_or_eq_true (decide (100 < (x3.rule_.length : Int))) with hg8 | hg9
            · have h := ite_t hg8 h
              have hg8n := hg8
              try simp at hg8n
              refine satO_step 33 [] ⟨.sl 13 (a0.map GNode.el) false :: an 2 (.int .i64 x1 :: .int .i64 x1 :: .sl 13 (a0.map GNode.el) false :: .int .i64 (a0.length : Int) :: .bool (decide (x1 < (a0.length : Int))) :: an 2 (.sl 13 (a0.map GNode.el) false :: .int .i64 x1 :: .ref x3.cs 0 :: .ref x3.cs 0 :: .str x3.path :: .int .i64 (x3.path.length : Int) :: .bool (decide (5000 < (x3.path.length : Int))) :: .bool (decide (5000 < (x3.path.length : Int))) :: .sl 13 (a0.map GNode.el) false :: .int .i64 x1 :: .ref x3.cs 0 :: .ref x3.cs 1 :: .str x3.rule_ :: .int .i64 (x3.rule_.length : Int) :: .bool (decide (100 < (x3.rule_.length : Int))) :: .bool (decide (100 < (x3.rule_.length : Int))) :: .bool (decide (100 < (x3.rule_.length : Int))) :: .tup [] :: .tup [] :: .tup [] :: .tup [] :: .tup [] :: .tup [] :: .tup [] :: .bool true :: .bool true :: .tup [] :: .tup [] :: .tup [] :: .tup [] :: .tup [] :: .tup [] :: .bool true :: an 3 [])), ⟨lv + 1, L, E⟩, [], E⟩ [] (by first | (simp -implicitDefEqProofs [GNode.cs, q4, q5, GNode.el_cs, hg7, q4, q5, GNode.el_cs, hg8]; done) | simp -implicitDefEqProofs [GNode.cs, q4, q5, GNode.el_cs, hg7, q4, q5, GNode.el_cs, hg8, hg7n, hg8n]) claims_nil ?_
              refine satO_nil (by simp) ?_
              refine ⟨⟨.sl 13 (a0.map GNode.el) false :: an 2 (.int .i64 x1 :: an 38 (.bool true :: an 3 [])), ⟨lv + 1, L, E⟩, [], E⟩, weak_tmps ?_, n, by omega, true, L, hA, h, rfl⟩
              (try simp only [an, List.map_cons, List.map_nil]); repeat (first | exact VLeL.nil | refine VLeL.cons (by first | exact VLe.refl _ | exact VLe.any _ | exact VLe.nil _ _ | exact VLe.full _ _ | (refine VLe.agg' ?_; repeat (first | exact VLeL.nil | refine VLeL.cons (by first | exact VLe.refl _ | exact VLe.any _ | exact VLe.nil _ _) ?_))) ?_)
            · have h := ite_f hg9 h
              have hg9n := hg9
              try simp at hg9n
              rcases Bool.eq_false_or_eq_true (decide (200 < (x3.leaf.length : Int))) with hg10 | hg11
              · have h := ite_t hg10 h
                have hg10n := hg10
                try simp at hg10n
                refine satO_step 33 [] ⟨.sl 13 (a0.map GNode.el) false :: an 2 (.int .i64 x1 :: .int .i64 x1 :: .sl 13 (a0.map GNode.el) false :: .int .i64 (a0.length : Int) :: .bool (decide (x1 < (a0.length : Int))) :: an 2 (.sl 13 (a0.map GNode.el) false :: .int .i64 x1 :: .ref x3.cs 0 :: .ref x3.cs 0 :: .str x3.path :: .int .i64 (x3.path.length : Int) :: .bool (decide (5000 < (x3.path.length : Int))) :: .bool (decide (5000 < (x3.path.length : Int))) :: .sl 13 (a0.map GNode.el) false :: .int .i64 x1 :: .ref x3.cs 0 :: .ref x3.cs 1 :: .str x3.rule_ :: .int .i64 (x3.rule_.length : Int) :: .bool (decide (100 < (x3.rule_.length : Int))) :: .bool (decide (100 < (x3.rule_.length : Int))) :: .bool (decide (100 < (x3.rule_.length : Int))) :: .sl 13 (a0.map GNode.el) false :: .int .i64 x1 :: .ref x3.cs 0 :: .ref x3.cs 10 :: .str x3.leaf :: .int .i64 (x3.leaf.length : Int) :: .bool (decide (200 < (x3.leaf.length : Int))) :: .bool (decide (200 < (x3.leaf.length : Int))) :: .bool (decide (200 < (x3.leaf.length : Int))) :: .tup [] :: .tup [] :: .tup [] :: .tup [] :: .tup [] :: .tup [] :: .bool true :: an 3 [])), ⟨lv + 1, L, E⟩, [], E⟩ [] (by first | (simp -implicitDefEqProofs [GNode.cs, q4, q5, GNode.el_cs, hg7, q4, q5, GNode.el_cs, hg9, q4, q5, GNode.el_cs, hg10]; done) | simp -implicitDefEqProofs [GNode.cs, q4, q5, GNode.el_cs, hg7, q4, q5, GNode.el_cs, hg9, q4, q5, GNode.el_cs, hg10, hg7n, hg9n, hg10n]) claims_nil ?_
                refine satO_nil (by simp) ?_
                refine ⟨⟨.sl 13 (a0.map GNode.el) false :: an 2 (.int .i64 x1 :: an 38 (.bool true :: an 3 [])), ⟨lv + 1, L, E⟩, [], E⟩, weak_tmps ?_, n, by omega, true, L, hA, h, rfl⟩
                (try simp only [an, List.map_cons, List.map_nil]); repeat (first | exact VLeL.nil | refine VLeL.cons (by first | exact VLe.refl _ | exact VLe.any _ | exact VLe.nil _ _ | exact VLe.full _ _ | (refine VLe.agg' ?_; repeat (first | exact VLeL.nil | refine VLeL.cons (by first | exact VLe.refl _ | exact VLe.any _ | exact VLe.nil _ _) ?_))) ?_)
              · have h := ite_f hg11 h
                have hg11n := hg11
                try simp at hg11n
                obtain ⟨y12, q13, h⟩ := bnd_hi h
                refine satO_step 33 [(.bool y12, none)] ⟨.sl 13 (a0.map GNode.el) false :: an 2 (.int .i64 x1 :: .int .i64 x1 :: .sl 13 (a0.map GNode.el) false :: .int .i64 (a0.length : Int) :: .bool (decide (x1 < (a0.length : Int))) :: an 2 (.sl 13 (a0.map GNode.el) false :: .int .i64 x1 :: .ref x3.cs 0 :: .ref x3.cs 0 :: .str x3.path :: .int .i64 (x3.path.length : Int) :: .bool (decide (5000 < (x3.path.length : Int))) :: .bool (decide (5000 < (x3.path.length : Int))) :: .sl 13 (a0.map GNode.el) false :: .int .i64 x1 :: .ref x3.cs 0 :: .ref x3.cs 1 :: .str x3.rule_ :: .int .i64 (x3.rule_.length : Int) :: .bool (decide (100 < (x3.rule_.length : Int))) :: .bool (decide (100 < (x3.rule_.length : Int))) :: .bool (decide (100 < (x3.rule_.length : Int))) :: .sl 13 (a0.map GNode.el) false :: .int .i64 x1 :: .ref x3.cs 0 :: .ref x3.cs 10 :: .str x3.leaf :: .int .i64 (x3.leaf.length : Int) :: .bool (decide (200 < (x3.leaf.length : Int))) :: .bool (decide (200 < (x3.leaf.length : Int))) :: .bool (decide (200 < (x3.leaf.length : Int))) :: .sl 13 (a0.map GNode.el) false :: .int .i64 x1 :: .ref x3.cs 0 :: .ref x3.cs 2 :: .sl 6 (x3.args.map GValue.el) false :: .bool y12 :: .bool y12 :: an 3 [])), ⟨lv + 1, L, E⟩, [], E⟩ [⟨25, [.sl 6 (x3.args.map GValue.el) false], ⟨lv + 1, L, E⟩, .bool y12, ⟨lv + 1, L, E⟩⟩] (by first | (simp -implicitDefEqProofs [GNode.cs, q4, q5, GNode.el_cs, hg7, q4, q5, GNode.el_cs, hg9, q4, q5, GNode.el_cs, hg11, q4, q5, GNode.el_cs]; done) | simp -implicitDefEqProofs [GNode.cs, q4, q5, GNode.el_cs, hg7, q4, q5, GNode.el_cs, hg9, q4, q5, GNode.el_cs, hg11, q4, q5, GNode.el_cs, hg7n, hg9n, hg11n]) (claims_cons (go_ref27_GreatArgs_ok _ _ _ q13 _) claims_nil) ?_
                refine satO_nil (by simp) ?_
                refine ⟨⟨.sl 13 (a0.map GNode.el) false :: an 2 (.int .i64 x1 :: an 38 (.bool y12 :: an 3 [])), ⟨lv + 1, L, E⟩, [], E⟩, weak_tmps ?_, n, by omega, y12, L, hA, h, rfl⟩
                (try simp only [an, List.map_cons, List.map_nil]); repeat (first | exact VLeL.nil | refine VLeL.cons (by first | exact VLe.refl _ | exact VLe.any _ | exact VLe.nil _ _ | exact VLe.full _ _ | (refine VLe.agg' ?_; repeat (first | exact VLeL.nil | refine VLeL.cons (by first | exact VLe.refl _ | exact VLe.any _ | exact VLe.nil _ _) ?_))) ?_)
        · rintro σ0 σ hw ⟨k, hk, x2, L, hA, h, rfl⟩
          rcases k with _ | n
          · simp [go_ref27_Great_J1] at h
          · rw [go_ref27_Great_J1] at h
            refine sat_weak hw ?_
            repeat refine sat_seq ?_
            refine sat_cond rfl (fun hb => ?_) (fun hb => ?_)
            · have h := ite_t hb h
              repeat refine sat_seq ?_
              refine satO_reg ?_
              refine satO_step 1 [] ⟨.sl 13 (a0.map GNode.el) false :: an 1 (.bool true :: .int .i64 x1 :: an 38 (.bool x2 :: an 3 [])), ⟨lv + 1, L, E⟩, [], E⟩ [] (by simp -implicitDefEqProofs [GNode.cs]) claims_nil ?_
              refine satO_nil (by simp) ?_
              repeat refine sat_seq ?_
              refine sat_ret ?_
              refine ends (v := .bool true) (by simp [resultsV, resL, resV, tupOf, Try.f6, pLoad, GNode.cs]) rfl rfl ?_
              injection h with h
              subst h
              exact (.keep _ (by simp [V.kin, V.kinL, GNode.cs]))
            · have h := ite_f hb h
              repeat refine sat_seq ?_
              refine sat_skip ?_
              repeat refine sat_seq ?_
              refine satO_reg ?_
              refine satO_step 3 [] ⟨.sl 13 (a0.map GNode.el) false :: an 2 (.int .i64 (IntKind.i64.wrap (x1 + 1)) :: an 4 (.int .i64 x1 :: .int .i64 (IntKind.i64.wrap (x1 + 1)) :: an 32 (.bool x2 :: an 3 []))), ⟨lv + 1, L, E⟩, [], E⟩ [] (by simp -implicitDefEqProofs [GNode.cs]) claims_nil ?_
              refine satO_nil (by simp) ?_
              refine ⟨n, ⟨.sl 13 (a0.map GNode.el) false :: an 2 (.int .i64 (IntKind.i64.wrap (x1 + 1)) :: an 42 []), ⟨lv + 1, L, E⟩, [], E⟩, weak_tmps ?_, ⟨(IntKind.i64.wrap (x1 + 1)), L, by omega, hA, h, rfl⟩, by omega⟩
              (try simp only [an, List.map_cons, List.map_nil]); repeat (first | exact VLeL.nil | refine VLeL.cons (by first | exact VLe.refl _ | exact VLe.any _ | exact VLe.nil _ _ | exact VLe.full _ _ | (refine VLe.agg' ?_; repeat (first | exact VLeL.nil | refine VLeL.cons (by first | exact VLe.refl _ | exact VLe.any _ | exact VLe.nil _ _) ?_))) ?_)
      · have h := ite_f hb h
        repeat refine sat_seq ?_
        refine sat_exit ?_
        repeat refine sat_seq ?_
        refine satO_reg ?_
        refine satO_step 4 [] ⟨.sl 13 (a0.map GNode.el) false :: an 1 (.bool (decide (2100 < (a0.length : Int))) :: .int .i64 x1 :: .int .i64 x1 :: .sl 13 (a0.map GNode.el) false :: .int .i64 (a0.length : Int) :: .bool (decide (x1 < (a0.length : Int))) :: an 35 (.sl 13 (a0.map GNode.el) false :: .int .i64 (a0.length : Int) :: .bool (decide (2100 < (a0.length : Int))) :: [])), ⟨lv + 1, L, E⟩, [], E⟩ [] (by simp -implicitDefEqProofs [GNode.cs]) claims_nil ?_
        refine satO_nil (by simp) ?_
        repeat refine sat_seq ?_
        refine sat_ret ?_
        refine ends (v := .bool (decide (2100 < (a0.length : Int)))) (by simp [resultsV, resL, resV, tupOf, Try.f6, pLoad, GNode.cs]) rfl rfl ?_
        injection h with h
        subst h
        exact (.keep _ (by simp [V.kin, V.kinL, GNode.cs]))
end Go.Proofs

namespace Go.Proofs
open Go Go.Ab
set_option maxRecDepth 10000
set_option maxHeartbeats 1000000
set_option linter.unusedSimpArgs false
set_option linter.unusedVariables false
theorem go_ref30_Great_ok (n : Nat) (a0 : List GOver) (r : Bool) (h : go_ref30_Great n a0 = some r) : PCall Try.prog 14 [.sl 3 (a0.map GOver.el) false] (.bool r) := by
  rcases n with _ | n
  · simp [go_ref30_Great] at h
  rw [go_ref30_Great] at h
  refine pcall_of Try.func14 rfl Try.ntmps14 (fun _ _ => Try.call14 _ _) fun lv E => ?_
  simp only [List.length_cons, List.length_nil, Nat.reduceAdd, Nat.reduceSub, List.replicate, List.cons_append, List.nil_append]
  have hA := AccG.nil (lv + 1)
  generalize ([] : List (Option AObj)) = L at hA ⊢
  repeat refine sat_seq ?_
  refine satO_reg ?_
  refine satO_step 1 [] ⟨.sl 3 (a0.map GOver.el) false :: an 1 (.bool false :: an 26 []), ⟨lv + 1, L, E⟩, [], E⟩ [] (by simp -implicitDefEqProofs []) claims_nil ?_
  refine satO_nil (by simp) ?_
  repeat refine sat_seq ?_
  refine satO_reg ?_
  refine satO_step 1 [] ⟨.sl 3 (a0.map GOver.el) false :: an 1 (.bool false :: .int .i64 0 :: an 25 []), ⟨lv + 1, L, E⟩, [], E⟩ [] (by simp -implicitDefEqProofs []) claims_nil ?_
  refine satO_nil (by simp) ?_
  repeat refine sat_seq ?_
  refine sat_block ?_
  repeat refine sat_seq ?_
  refine sat_loop (fun k σ => ∃ (x1 : Int) (L : List (Option AObj)), k ≤ n ∧ AccG (lv + 1) L [] [] ∧ go_ref30_Great_L1 k a0 x1 = some r ∧ σ = ⟨.sl 3 (a0.map GOver.el) false :: an 2 (.int .i64 x1 :: an 25 []), ⟨lv + 1, L, E⟩, [], E⟩) n ⟨.sl 3 (a0.map GOver.el) false :: an 2 (.int .i64 0 :: an 25 []), ⟨lv + 1, L, E⟩, [], E⟩ (weak_tmps ?_) ⟨0, L, Nat.le_refl _, hA, h, rfl⟩ ?_
  · (try simp only [an, List.map_cons, List.map_nil]); repeat (first | exact VLeL.nil | refine VLeL.cons (by first | exact VLe.refl _ | exact VLe.any _ | exact VLe.nil _ _ | exact VLe.full _ _ | (refine VLe.agg' ?_; repeat (first | exact VLeL.nil | refine VLeL.cons (by first | exact VLe.refl _ | exact VLe.any _ | exact VLe.nil _ _) ?_))) ?_)
  · rintro k σ ⟨x1, L, hk, hA, h, rfl⟩
    rcases k with _ | n
    · simp [go_ref30_Great_L1] at h
    · rw [go_ref30_Great_L1] at h
      repeat refine sat_seq ?_
      refine satO_reg ?_
      refine satO_step 4 [] ⟨.sl 3 (a0.map GOver.el) false :: an 2 (.int .i64 x1 :: .int .i64 x1 :: .sl 3 (a0.map GOver.el) false :: .int .i64 (a0.length : Int) :: .bool (decide (x1 < (a0.length : Int))) :: an 21 []), ⟨lv + 1, L, E⟩, [], E⟩ [] (by simp -implicitDefEqProofs []) claims_nil ?_
      refine satO_nil (by simp) ?_
      repeat refine sat_seq ?_
      refine sat_cond rfl (fun hb => ?_) (fun hb => ?_)
      · have h := ite_t hb h
        repeat refine sat_seq ?_
        refine sat_skip ?_
        repeat refine sat_seq ?_
        refine sat_block ?_
        repeat refine sat_seq ?_
        refine sat_meet (fun σ => ∃ (k : Nat), k ≤ n ∧ ∃ (x2 : Bool) (L : List (Option AObj)), AccG (lv + 1) L [] [] ∧ go_ref30_Great_J1 k a0 x1 x2 = some r ∧ σ = ⟨.sl 3 (a0.map GOver.el) false :: an 2 (.int .i64 x1 :: an 21 (.bool x2 :: an 3 [])), ⟨lv + 1, L, E⟩, [], E⟩) ?_ ?_
        · refine satO_reg ?_
          obtain ⟨x3, q4, h⟩ := bnd_hi h
          obtain ⟨q4, q5⟩ := ix_some q4
          rcases Bool.eq_false_or_eq_true (decide (5000 < (x3.path.length : Int))) with hg6 | hg7
          · have h := ite_t hg6 h
            have hg6n := hg6
            try simp at hg6n
            refine satO_step 16 [] ⟨.sl 3 (a0.map GOver.el) false :: an 2 (.int .i64 x1 :: .int .i64 x1 :: .sl 3 (a0.map GOver.el) false :: .int .i64 (a0.length : Int) :: .bool (decide (x1 < (a0.length : Int))) :: an 2 (.sl 3 (a0.map GOver.el) false :: .int .i64 x1 :: .ref x3.cs 0 :: .ref x3.cs 0 :: .str x3.path :: .int .i64 (x3.path.length : Int) :: .bool (decide (5000 < (x3.path.length : Int))) :: .bool (decide (5000 < (x3.path.length : Int))) :: .tup [] :: .tup [] :: .tup [] :: .tup [] :: .tup [] :: .tup [] :: .tup [] :: .bool true :: an 3 [])), ⟨lv + 1, L, E⟩, [], E⟩ [] (by first | (simp -implicitDefEqProofs [GOver.cs, q4, q5, GOver.el_cs, hg6]; done) | simp -implicitDefEqProofs [GOver.cs, q4, q5, GOver.el_cs, hg6, hg6n]) claims_nil ?_
            refine satO_nil (by simp) ?_
            refine ⟨⟨.sl 3 (a0.map GOver.el) false :: an 2 (.int .i64 x1 :: an 21 (.bool true :: an 3 [])), ⟨lv + 1, L, E⟩, [], E⟩, weak_tmps ?_, n, by omega, true, L, hA, h, rfl⟩
            (try simp only [an, List.map_cons, List.map_nil]); repeat (first | exact VLeL.nil | refine VLeL.cons (by first | exact VLe.refl _ | exact VLe.any _ | exact VLe.nil _ _ | exact VLe.full _ _ | (refine VLe.agg' ?_; repeat (first | exact VLeL.nil | refine VLeL.cons (by first | exact VLe.refl _ | exact VLe.any _ | exact VLe.nil _ _) ?_))) ?_)
          · have h := ite_f hg7 h
            have hg7n := hg7
            try simp at hg7n
            refine satO_step 16 [] ⟨.sl 3 (a0.map GOver.el) false :: an 2 (.int .i64 x1 :: .int .i64 x1 :: .sl 3 (a0.map GOver.el) false :: .int .i64 (a0.length : Int) :: .bool (decide (x1 < (a0.length : Int))) :: an 2 (.sl 3 (a0.map GOver.el) false :: .int .i64 x1 :: .ref x3.cs 0 :: .ref x3.cs 0 :: .str x3.path :: .int .i64 (x3.path.length : Int) :: .bool (decide (5000 < (x3.path.length : Int))) :: .bool (decide (5000 < (x3.path.length : Int))) :: .sl 3 (a0.map GOver.el) false :: .int .i64 x1 :: .ref x3.cs 0 :: .ref x3.cs 2 :: .str x3.name :: .int .i64 (x3.name.length : Int) :: .bool (decide (200 < (x3.name.length : Int))) :: .bool (decide (200 < (x3.name.length : Int))) :: an 3 [])), ⟨lv + 1, L, E⟩, [], E⟩ [] (by first | (simp -implicitDefEqProofs [GOver.cs, q4, q5, GOver.el_cs, hg7, q4, q5, GOver.el_cs]; done) | simp -implicitDefEqProofs [GOver.cs, q4, q5, GOver.el_cs, hg7, q4, q5, GOver.el_cs, hg7n]) claims_nil ?_
            refine satO_nil (by simp) ?_
            refine ⟨⟨.sl 3 (a0.map GOver.el) false :: an 2 (.int .i64 x1 :: an 21 (.bool (decide (200 < (x3.name.length : Int))) :: an 3 [])), ⟨lv + 1, L, E⟩, [], E⟩, weak_tmps ?_, n, by omega, (decide (200 < (x3.name.length : Int))), L, hA, h, rfl⟩
            (try simp only [an, List.map_cons, List.map_nil]); repeat (first | exact VLeL.nil | refine VLeL.cons (by first | exact VLe.refl _ | exact VLe.any _ | exact VLe.nil _ _ | exact VLe.full _ _ | (refine VLe.agg' ?_; repeat (first | exact VLeL.nil | refine VLeL.cons (by first | exact VLe.refl _ | exact VLe.any _ | exact VLe.nil _ _) ?_))) ?_)
        · rintro σ0 σ hw ⟨k, hk, x2, L, hA, h, rfl⟩
          rcases k with _ | n
          · simp [go_ref30_Great_J1] at h
          · rw [go_ref30_Great_J1] at h
            refine sat_weak hw ?_
            repeat refine sat_seq ?_
            refine sat_cond rfl (fun hb => ?_) (fun hb => ?_)
            · have h := ite_t hb h
              repeat refine sat_seq ?_
              refine satO_reg ?_
              refine satO_step 1 [] ⟨.sl 3 (a0.map GOver.el) false :: an 1 (.bool true :: .int .i64 x1 :: an 21 (.bool x2 :: an 3 [])), ⟨lv + 1, L, E⟩, [], E⟩ [] (by simp -implicitDefEqProofs [GOver.cs]) claims_nil ?_
              refine satO_nil (by simp) ?_
              repeat refine sat_seq ?_
              refine sat_ret ?_
              refine ends (v := .bool true) (by simp [resultsV, resL, resV, tupOf, Try.f14, pLoad, GOver.cs]) rfl rfl ?_
              injection h with h
              subst h
              exact (.keep _ (by simp [V.kin, V.kinL, GOver.cs]))
            · have h := ite_f hb h
              repeat refine sat_seq ?_
              refine sat_skip ?_
              repeat refine sat_seq ?_
              refine satO_reg ?_
              refine satO_step 3 [] ⟨.sl 3 (a0.map GOver.el) false :: an 2 (.int .i64 (IntKind.i64.wrap (x1 + 1)) :: an 4 (.int .i64 x1 :: .int .i64 (IntKind.i64.wrap (x1 + 1)) :: an 15 (.bool x2 :: an 3 []))), ⟨lv + 1, L, E⟩, [], E⟩ [] (by simp -implicitDefEqProofs [GOver.cs]) claims_nil ?_
              refine satO_nil (by simp) ?_
              refine ⟨n, ⟨.sl 3 (a0.map GOver.el) false :: an 2 (.int .i64 (IntKind.i64.wrap (x1 + 1)) :: an 25 []), ⟨lv + 1, L, E⟩, [], E⟩, weak_tmps ?_, ⟨(IntKind.i64.wrap (x1 + 1)), L, by omega, hA, h, rfl⟩, by omega⟩
              (try simp only [an, List.map_cons, List.map_nil]); repeat (first | exact VLeL.nil | refine VLeL.cons (by first | exact VLe.refl _ | exact VLe.any _ | exact VLe.nil _ _ | exact VLe.full _ _ | (refine VLe.agg' ?_; repeat (first | exact VLeL.nil | refine VLeL.cons (by first | exact VLe.refl _ | exact VLe.any _ | exact VLe.nil _ _) ?_))) ?_)
      · have h := ite_f hb h
        repeat refine sat_seq ?_
        refine sat_exit ?_
        repeat refine sat_seq ?_
        refine satO_reg ?_
        refine satO_step 4 [] ⟨.sl 3 (a0.map GOver.el) false :: an 1 (.bool (decide (70 < (a0.length : Int))) :: .int .i64 x1 :: .int .i64 x1 :: .sl 3 (a0.map GOver.el) false :: .int .i64 (a0.length : Int) :: .bool (decide (x1 < (a0.length : Int))) :: an 18 (.sl 3 (a0.map GOver.el) false :: .int .i64 (a0.length : Int) :: .bool (decide (70 < (a0.length : Int))) :: [])), ⟨lv + 1, L, E⟩, [], E⟩ [] (by simp -implicitDefEqProofs [GOver.cs]) claims_nil ?_
        refine satO_nil (by simp) ?_
        repeat refine sat_seq ?_
        refine sat_ret ?_
        refine ends (v := .bool (decide (70 < (a0.length : Int)))) (by simp [resultsV, resL, resV, tupOf, Try.f14, pLoad, GOver.cs]) rfl rfl ?_
        injection h with h
        subst h
        exact (.keep _ (by simp [V.kin, V.kinL, GOver.cs]))
end Go.Proofs

namespace Go.Proofs
open Go Go.Ab
set_option maxRecDepth 10000
set_option maxHeartbeats 1000000
set_option linter.unusedSimpArgs false
set_option linter.unusedVariables false
theorem go_internal_bytealg_CountString_ok (n : Nat) (a0 : List UInt8) (a1 : Int) (r : Int) (h : go_internal_bytealg_CountString n a0 a1 = some r) : PCall Try.prog 75 [.str a0, .int .u8 a1] (.int .i64 r) := by
  rw [go_internal_bytealg_CountString] at h
  injection h with h
  subst h
  intro H W g cargs hG hA
  refine .inr ⟨_, W, g, ?_, .refl _ _ _, hG, .int _ _⟩
  obtain ⟨x, y, rfl, h0, h1⟩ := args2 hA
  cases h0; cases h1
  rw [run_callFunc_extern Try.func75 (by kernel_rfl) (by kernel_rfl) (by kernel_rfl) (e := Extern.BytealgCount.count) (by kernel_rfl), Lib.run_countString]
  rfl
end Go.Proofs

namespace Go.Proofs
open Go Go.Ab
set_option maxRecDepth 10000
set_option maxHeartbeats 1000000
set_option linter.unusedSimpArgs false
set_option linter.unusedVariables false
theorem go_strings_Count_s47_ok (n : Nat) (a0 : List UInt8) (r : Int) (h : go_strings_Count_s47 n a0 = some r) : PCall Try.prog 61 [.str a0, .str ([47])] (.int .i64 r) := by
  rcases n with _ | n
  · simp [go_strings_Count_s47] at h
  rw [go_strings_Count_s47] at h
  refine pcall_of Try.func61 rfl Try.ntmps61 (fun _ _ => Try.call61 _ _) fun lv E => ?_
  simp only [List.length_cons, List.length_nil, Nat.reduceAdd, Nat.reduceSub, List.replicate, List.cons_append, List.nil_append]
  have hA := AccG.nil (lv + 1)
  generalize ([] : List (Option AObj)) = L at hA ⊢
  repeat refine sat_seq ?_
  refine satO_reg ?_
  refine satO_step 1 [] ⟨.str a0 :: .str ([47]) :: an 2 (.int .i64 0 :: an 29 []), ⟨lv + 1, L, E⟩, [], E⟩ [] (by simp -implicitDefEqProofs []) claims_nil ?_
  refine satO_nil (by simp) ?_
  repeat refine sat_seq ?_
  refine satO_reg ?_
  refine satO_step 3 [] ⟨.str a0 :: .str ([47]) :: an 2 (.int .i64 0 :: an 2 (.str ([47]) :: .int .i64 1 :: .bool false :: an 24 [])), ⟨lv + 1, L, E⟩, [], E⟩ [] (by simp -implicitDefEqProofs []) claims_nil ?_
  refine satO_nil (by simp) ?_
  repeat refine sat_seq ?_
  refine sat_cond rfl (fun hb => by cases hb) (fun hb => ?_)
  repeat refine sat_seq ?_
  refine sat_skip ?_
  repeat refine sat_seq ?_
  refine satO_reg ?_
  refine satO_step 3 [] ⟨.str a0 :: .str ([47]) :: an 2 (.int .i64 0 :: an 2 (.str ([47]) :: .int .i64 1 :: .bool false :: an 3 (.str ([47]) :: .int .i64 1 :: .bool true :: an 18 []))), ⟨lv + 1, L, E⟩, [], E⟩ [] (by simp -implicitDefEqProofs []) claims_nil ?_
  refine satO_nil (by simp) ?_
  repeat refine sat_seq ?_
  refine sat_cond rfl (fun hb => ?_) (fun hb => by cases hb)
  repeat refine sat_seq ?_
  refine satO_reg ?_
  obtain ⟨y1, q2, h⟩ := bnd_hi h
  refine satO_step 5 [(.int .i64 y1, none)] ⟨.str a0 :: .str ([47]) :: an 2 (.int .i64 y1 :: an 2 (.str ([47]) :: .int .i64 1 :: .bool false :: an 3 (.str ([47]) :: .int .i64 1 :: .bool true :: .str a0 :: .str ([47]) :: .int .u8 ((47 : UInt8).toNat : Int) :: .int .i64 y1 :: an 14 []))), ⟨lv + 1, L, E⟩, [], E⟩ [⟨75, [.str a0, .int .u8 ((47 : UInt8).toNat : Int)], ⟨lv + 1, L, E⟩, .int .i64 y1, ⟨lv + 1, L, E⟩⟩] (by simp -implicitDefEqProofs []) (claims_cons (go_internal_bytealg_CountString_ok _ _ _ _ q2 _) claims_nil) ?_
  refine satO_nil (by simp) ?_
  repeat refine sat_seq ?_
  refine sat_ret ?_
  refine ends (v := .int .i64 y1) (by simp [resultsV, resL, resV, tupOf, Try.f61, pLoad]) rfl rfl ?_
  injection h with h
  subst h
  exact (.keep _ (by simp [V.kin, V.kinL]))
end Go.Proofs

namespace Go.Proofs
open Go Go.Ab
set_option maxRecDepth 10000
set_option maxHeartbeats 1000000
set_option linter.unusedSimpArgs false
set_option linter.unusedVariables false
theorem go_internal_bytealg_IndexByteString_ok (n : Nat) (a0 : List UInt8) (a1 : Int) (r : Int) (h : go_internal_bytealg_IndexByteString n a0 a1 = some r) : PCall Try.prog 114 [.str a0, .int .u8 a1] (.int .i64 r) := by
  rw [go_internal_bytealg_IndexByteString] at h
  injection h with h
  subst h
  intro H W g cargs hG hA
  refine .inr ⟨_, W, g, ?_, .refl _ _ _, hG, .int _ _⟩
  obtain ⟨x, y, rfl, h0, h1⟩ := args2 hA
  cases h0; cases h1
  rw [run_callFunc_extern Try.func114 (by kernel_rfl) (by kernel_rfl) (by kernel_rfl) (e := Extern.BytealgIndexByte.indexByte) (by kernel_rfl), Lib.run_indexByteString]
  rfl
end Go.Proofs

namespace Go.Proofs
open Go Go.Ab
set_option maxRecDepth 10000
set_option maxHeartbeats 1000000
set_option linter.unusedSimpArgs false
set_option linter.unusedVariables false
theorem go_internal_stringslite_IndexByte_ok (n : Nat) (a0 : List UInt8) (a1 : Int) (r : Int) (h : go_internal_stringslite_IndexByte n a0 a1 = some r) : PCall Try.prog 108 [.str a0, .int .u8 a1] (.int .i64 r) := by
  rw [go_internal_stringslite_IndexByte] at h
  refine pcall_of Try.func108 rfl Try.ntmps108 (fun _ _ => Try.call108 _ _) fun lv E => ?_
  simp only [List.length_cons, List.length_nil, Nat.reduceAdd, Nat.reduceSub, List.replicate, List.cons_append, List.nil_append]
  have hA := AccG.nil (lv + 1)
  generalize ([] : List (Option AObj)) = L at hA ⊢
  repeat refine sat_seq ?_
  refine satO_reg ?_
  refine satO_step 1 [] ⟨.str a0 :: .int .u8 a1 :: an 2 (.int .i64 0 :: an 3 []), ⟨lv + 1, L, E⟩, [], E⟩ [] (by simp -implicitDefEqProofs []) claims_nil ?_
  refine satO_nil (by simp) ?_
  repeat refine sat_seq ?_
  refine satO_reg ?_
  obtain ⟨y1, q2, h⟩ := bnd_hi h
  refine satO_step 4 [(.int .i64 y1, none)] ⟨.str a0 :: .int .u8 a1 :: an 2 (.int .i64 y1 :: .str a0 :: .int .u8 a1 :: .int .i64 y1 :: []), ⟨lv + 1, L, E⟩, [], E⟩ [⟨114, [.str a0, .int .u8 a1], ⟨lv + 1, L, E⟩, .int .i64 y1, ⟨lv + 1, L, E⟩⟩] (by simp -implicitDefEqProofs []) (claims_cons (go_internal_bytealg_IndexByteString_ok _ _ _ _ q2 _) claims_nil) ?_
  refine satO_nil (by simp) ?_
  repeat refine sat_seq ?_
  refine sat_ret ?_
  refine ends (v := .int .i64 y1) (by simp [resultsV, resL, resV, tupOf, Try.f108, pLoad]) rfl rfl ?_
  injection h with h
  subst h
  exact (.keep _ (by simp [V.kin, V.kinL]))
end Go.Proofs

namespace Go.Proofs
open Go Go.Ab
set_option maxRecDepth 10000
set_option maxHeartbeats 1000000
set_option linter.unusedSimpArgs false
set_option linter.unusedVariables false
theorem go_internal_stringslite_Index_s47_ok (n : Nat) (a0 : List UInt8) (r : Int) (h : go_internal_stringslite_Index_s47 n a0 = some r) : PCall Try.prog 97 [.str a0, .str ([47])] (.int .i64 r) := by
  rcases n with _ | n
  · simp [go_internal_stringslite_Index_s47] at h
  rw [go_internal_stringslite_Index_s47] at h
  refine pcall_of Try.func97 rfl Try.ntmps97 (fun _ _ => Try.call97 _ _) fun lv E => ?_
  simp only [List.length_cons, List.length_nil, Nat.reduceAdd, Nat.reduceSub, List.replicate, List.cons_append, List.nil_append]
  have hA := AccG.nil (lv + 1)
  generalize ([] : List (Option AObj)) = L at hA ⊢
  repeat refine sat_seq ?_
  refine satO_reg ?_
  refine satO_step 1 [] ⟨.str a0 :: .str ([47]) :: an 2 (.int .i64 0 :: an 138 []), ⟨lv + 1, L, E⟩, [], E⟩ [] (by simp -implicitDefEqProofs []) claims_nil ?_
  refine satO_nil (by simp) ?_
  repeat refine sat_seq ?_
  refine satO_reg ?_
  refine satO_step 3 [] ⟨.str a0 :: .str ([47]) :: an 2 (.int .i64 0 :: .int .i64 1 :: an 8 (.str ([47]) :: .int .i64 1 :: an 127 [])), ⟨lv + 1, L, E⟩, [], E⟩ [] (by simp -implicitDefEqProofs []) claims_nil ?_
  refine satO_nil (by simp) ?_
  repeat refine sat_seq ?_
  refine sat_block ?_
  repeat refine sat_seq ?_
  refine sat_meet (fun σ => ∃ (k : Nat), k ≤ n ∧ ∃ (x1 : Bool) (L : List (Option AObj)), AccG (lv + 1) L [] [] ∧ go_internal_stringslite_Index_s47_J1 k a0 x1 = some r ∧ σ = ⟨.str a0 :: .str ([47]) :: an 3 (.int .i64 1 :: an 10 (.bool x1 :: an 126 [])), ⟨lv + 1, L, E⟩, [], E⟩) ?_ ?_
  · refine satO_reg ?_
    refine satO_step 8 [] ⟨.str a0 :: .str ([47]) :: an 2 (.int .i64 0 :: .int .i64 1 :: an 8 (.str ([47]) :: .int .i64 1 :: .bool (([47]) == a0) :: .int .i64 1 :: .bool false :: .bool false :: .str ([47]) :: .str a0 :: .bool (([47]) == a0) :: .bool (([47]) == a0) :: an 119 [])), ⟨lv + 1, L, E⟩, [], E⟩ [] (by simp -implicitDefEqProofs []) claims_nil ?_
    refine satO_nil (by simp) ?_
    refine ⟨⟨.str a0 :: .str ([47]) :: an 3 (.int .i64 1 :: an 10 (.bool (([47]) == a0) :: an 126 [])), ⟨lv + 1, L, E⟩, [], E⟩, weak_tmps ?_, n, by omega, (([47]) == a0), L, hA, h, rfl⟩
    (try simp only [an, List.map_cons, List.map_nil]); repeat (first | exact VLeL.nil | refine VLeL.cons (by first | exact VLe.refl _ | exact VLe.any _ | exact VLe.nil _ _ | exact VLe.full _ _ | (refine VLe.agg' ?_; repeat (first | exact VLeL.nil | refine VLeL.cons (by first | exact VLe.refl _ | exact VLe.any _ | exact VLe.nil _ _) ?_))) ?_)
  · rintro σ0 σ hw ⟨k, hk, x1, L, hA, h, rfl⟩
    rcases k with _ | n
    · simp [go_internal_stringslite_Index_s47_J1] at h
    · rw [go_internal_stringslite_Index_s47_J1] at h
      refine sat_weak hw ?_
      repeat refine sat_seq ?_
      refine sat_cond rfl (fun hb => ?_) (fun hb => ?_)
      · have h := ite_t hb h
        repeat refine sat_seq ?_
        refine satO_reg ?_
        refine satO_step 1 [] ⟨.str a0 :: .str ([47]) :: an 2 (.int .i64 0 :: .int .i64 1 :: an 10 (.bool x1 :: an 126 [])), ⟨lv + 1, L, E⟩, [], E⟩ [] (by simp -implicitDefEqProofs []) claims_nil ?_
        refine satO_nil (by simp) ?_
        repeat refine sat_seq ?_
        refine sat_ret ?_
        refine ends (v := .int .i64 0) (by simp [resultsV, resL, resV, tupOf, Try.f97, pLoad]) rfl rfl ?_
        injection h with h
        subst h
        exact (.keep _ (by simp [V.kin, V.kinL]))
      · have h := ite_f hb h
        repeat refine sat_seq ?_
        refine satO_reg ?_
        refine satO_step 3 [] ⟨.str a0 :: .str ([47]) :: an 3 (.int .i64 1 :: an 10 (.bool x1 :: an 7 (.bool true :: .int .i64 1 :: .bool true :: an 116 []))), ⟨lv + 1, L, E⟩, [], E⟩ [] (by simp -implicitDefEqProofs []) claims_nil ?_
        refine satO_nil (by simp) ?_
        repeat refine sat_seq ?_
        refine sat_cond rfl (fun hb => ?_) (fun hb => by cases hb)
        repeat refine sat_seq ?_
        refine satO_reg ?_
        obtain ⟨y2, q3, h⟩ := bnd_hi h
        refine satO_step 5 [(.int .i64 y2, none)] ⟨.str a0 :: .str ([47]) :: an 2 (.int .i64 y2 :: .int .i64 1 :: an 10 (.bool x1 :: an 7 (.bool true :: .int .i64 1 :: .bool true :: .str a0 :: .str ([47]) :: .int .u8 ((47 : UInt8).toNat : Int) :: .int .i64 y2 :: an 112 []))), ⟨lv + 1, L, E⟩, [], E⟩ [⟨108, [.str a0, .int .u8 ((47 : UInt8).toNat : Int)], ⟨lv + 1, L, E⟩, .int .i64 y2, ⟨lv + 1, L, E⟩⟩] (by simp -implicitDefEqProofs []) (claims_cons (go_internal_stringslite_IndexByte_ok _ _ _ _ q3 _) claims_nil) ?_
        refine satO_nil (by simp) ?_
        repeat refine sat_seq ?_
        refine sat_ret ?_
        refine ends (v := .int .i64 y2) (by simp [resultsV, resL, resV, tupOf, Try.f97, pLoad]) rfl rfl ?_
        injection h with h
        subst h
        exact (.keep _ (by simp [V.kin, V.kinL]))
end Go.Proofs

namespace Go.Proofs
open Go Go.Ab
set_option maxRecDepth 10000
set_option maxHeartbeats 1000000
set_option linter.unusedSimpArgs false
set_option linter.unusedVariables false
theorem go_internal_stringslite_Cut_s47_ok (n : Nat) (a0 : List UInt8) (r : (List UInt8) × (List UInt8) × Bool) (h : go_internal_stringslite_Cut_s47 n a0 = some r) : PCall Try.prog 98 [.str a0, .str ([47])] (.tup [.str r.1, .str r.2.1, .bool r.2.2]) := by
  rw [go_internal_stringslite_Cut_s47] at h
  refine pcall_of Try.func98 rfl Try.ntmps98 (fun _ _ => Try.call98 _ _) fun lv E => ?_
  simp only [List.length_cons, List.length_nil, Nat.reduceAdd, Nat.reduceSub, List.replicate, List.cons_append, List.nil_append]
  have hA := AccG.nil (lv + 1)
  generalize ([] : List (Option AObj)) = L at hA ⊢
  repeat refine sat_seq ?_
  refine satO_reg ?_
  refine satO_step 3 [] ⟨.str a0 :: .str ([47]) :: an 2 (.str ([]) :: .str ([]) :: .bool false :: an 16 []), ⟨lv + 1, L, E⟩, [], E⟩ [] (by simp -implicitDefEqProofs []) claims_nil ?_
  refine satO_nil (by simp) ?_
  repeat refine sat_seq ?_
  refine satO_reg ?_
  obtain ⟨y1, q2, h⟩ := bnd_hi h
  refine satO_step 4 [(.int .i64 y1, none)] ⟨.str a0 :: .str ([47]) :: an 2 (.str ([]) :: .str ([]) :: .bool false :: .int .i64 y1 :: .str a0 :: .str ([47]) :: .int .i64 y1 :: an 12 []), ⟨lv + 1, L, E⟩, [], E⟩ [⟨97, [.str a0, .str ([47])], ⟨lv + 1, L, E⟩, .int .i64 y1, ⟨lv + 1, L, E⟩⟩] (by simp -implicitDefEqProofs []) (claims_cons (go_internal_stringslite_Index_s47_ok _ _ _ q2 _) claims_nil) ?_
  refine satO_nil (by simp) ?_
  repeat refine sat_seq ?_
  refine satO_reg ?_
  refine satO_step 2 [] ⟨.str a0 :: .str ([47]) :: an 2 (.str ([]) :: .str ([]) :: .bool false :: .int .i64 y1 :: .str a0 :: .str ([47]) :: .int .i64 y1 :: .int .i64 y1 :: .bool (decide (0 ≤ y1)) :: an 10 []), ⟨lv + 1, L, E⟩, [], E⟩ [] (by simp -implicitDefEqProofs []) claims_nil ?_
  refine satO_nil (by simp) ?_
  repeat refine sat_seq ?_
  refine sat_cond rfl (fun hb => ?_) (fun hb => ?_)
  · have h := ite_t hb h
    repeat refine sat_seq ?_
    obtain ⟨x3, q4, h⟩ := bnd_hi h
    obtain ⟨q4, q5, q6, q7, q8, q9⟩ := sub_some q4
    obtain ⟨x10, q11, h⟩ := bnd_hi h
    obtain ⟨q11, q12, q13, q14, q15, q16⟩ := sub_some q11
    refine satO_drw (by kernel_rfl) (by kernel_rfl) [] ⟨.str a0 :: .str ([47]) :: an 2 (.str x3 :: .str x10 :: .bool true :: .int .i64 y1 :: .str a0 :: .str ([47]) :: .int .i64 y1 :: .int .i64 y1 :: .bool (decide (0 ≤ y1)) :: .str a0 :: .int .i64 y1 :: .str x3 :: .str a0 :: .int .i64 y1 :: .str ([47]) :: .int .i64 1 :: .int .i64 (IntKind.i64.wrap (y1 + 1)) :: .str x10 :: an 1 []), ⟨lv + 1, L, E⟩, [], E⟩ [] (by simp -implicitDefEqProofs [q4, q5, q6, q7, q8, q9, List.map_take, List.map_drop, Int.max_eq_left, q11, q12, q13, q14, q15, q16, List.map_take, List.map_drop, Int.max_eq_left]) claims_nil ?_
    repeat refine sat_seq ?_
    refine sat_ret ?_
    refine ends (v := .tup [.str x3, .str x10, .bool true]) (by simp [resultsV, resL, resV, tupOf, Try.f98, pLoad]) rfl rfl ?_
    injection h with h
    subst h
    exact .keep _ (by simp [V.kin, V.kinL])
  · have h := ite_f hb h
    repeat refine sat_seq ?_
    refine sat_skip ?_
    repeat refine sat_seq ?_
    refine satO_reg ?_
    refine satO_step 4 [] ⟨.str a0 :: .str ([47]) :: an 2 (.str a0 :: .str ([]) :: .bool false :: .int .i64 y1 :: .str a0 :: .str ([47]) :: .int .i64 y1 :: .int .i64 y1 :: .bool (decide (0 ≤ y1)) :: an 9 (.str a0 :: [])), ⟨lv + 1, L, E⟩, [], E⟩ [] (by simp -implicitDefEqProofs []) claims_nil ?_
    refine satO_nil (by simp) ?_
    repeat refine sat_seq ?_
    refine sat_ret ?_
    refine ends (v := .tup [.str a0, .str ([]), .bool false]) (by simp [resultsV, resL, resV, tupOf, Try.f98, pLoad]) rfl rfl ?_
    injection h with h
    subst h
    exact .keep _ (by simp [V.kin, V.kinL])
end Go.Proofs

namespace Go.Proofs
open Go Go.Ab
set_option maxRecDepth 10000
set_option maxHeartbeats 1000000
set_option linter.unusedSimpArgs false
set_option linter.unusedVariables false
theorem go_strings_Cut_s47_ok (n : Nat) (a0 : List UInt8) (r : (List UInt8) × (List UInt8) × Bool) (h : go_strings_Cut_s47 n a0 = some r) : PCall Try.prog 78 [.str a0, .str ([47])] (.tup [.str r.1, .str r.2.1, .bool r.2.2]) := by
  rw [go_strings_Cut_s47] at h
  refine pcall_of Try.func78 rfl Try.ntmps78 (fun _ _ => Try.call78 _ _) fun lv E => ?_
  simp only [List.length_cons, List.length_nil, Nat.reduceAdd, Nat.reduceSub, List.replicate, List.cons_append, List.nil_append]
  have hA := AccG.nil (lv + 1)
  generalize ([] : List (Option AObj)) = L at hA ⊢
  repeat refine sat_seq ?_
  refine satO_reg ?_
  refine satO_step 3 [] ⟨.str a0 :: .str ([47]) :: an 2 (.str ([]) :: .str ([]) :: .bool false :: an 6 []), ⟨lv + 1, L, E⟩, [], E⟩ [] (by simp -implicitDefEqProofs []) claims_nil ?_
  refine satO_nil (by simp) ?_
  repeat refine sat_seq ?_
  refine satO_reg ?_
  obtain ⟨y1, q2, h⟩ := bnd_hi h
  refine satO_step 9 [(.tup [.str y1.1, .str y1.2.1, .bool y1.2.2], none)] ⟨.str a0 :: .str ([47]) :: an 2 (.str y1.1 :: .str y1.2.1 :: .bool y1.2.2 :: .str a0 :: .str ([47]) :: .tup [.str y1.1, .str y1.2.1, .bool y1.2.2] :: .str y1.1 :: .str y1.2.1 :: .bool y1.2.2 :: []), ⟨lv + 1, L, E⟩, [], E⟩ [⟨98, [.str a0, .str ([47])], ⟨lv + 1, L, E⟩, .tup [.str y1.1, .str y1.2.1, .bool y1.2.2], ⟨lv + 1, L, E⟩⟩] (by simp -implicitDefEqProofs []) (claims_cons (go_internal_stringslite_Cut_s47_ok _ _ _ q2 _) claims_nil) ?_
  refine satO_nil (by simp) ?_
  repeat refine sat_seq ?_
  refine sat_ret ?_
  refine ends (v := .tup [.str y1.1, .str y1.2.1, .bool y1.2.2]) (by simp [resultsV, resL, resV, tupOf, Try.f78, pLoad]) rfl rfl ?_
  injection h with h
  subst h
  exact .keep _ (by simp [V.kin, V.kinL])
end Go.Proofs

namespace Go.Proofs
open Go Go.Ab
set_option maxRecDepth 10000
set_option maxHeartbeats 1000000
set_option linter.unusedSimpArgs false
set_option linter.unusedVariables false
theorem go_internal_stringslite_Index_s91_ok (n : Nat) (a0 : List UInt8) (r : Int) (h : go_internal_stringslite_Index_s91 n a0 = some r) : PCall Try.prog 97 [.str a0, .str ([91])] (.int .i64 r) := by
  rcases n with _ | n
  · simp [go_internal_stringslite_Index_s91] at h
  rw [go_internal_stringslite_Index_s91] at h
  refine pcall_of Try.func97 rfl Try.ntmps97 (fun _ _ => Try.call97 _ _) fun lv E => ?_
  simp only [List.length_cons, List.length_nil, Nat.reduceAdd, Nat.reduceSub, List.replicate, List.cons_append, List.nil_append]
  have hA := AccG.nil (lv + 1)
  generalize ([] : List (Option AObj)) = L at hA ⊢
  repeat refine sat_seq ?_
  refine satO_reg ?_
  refine satO_step 1 [] ⟨.str a0 :: .str ([91]) :: an 2 (.int .i64 0 :: an 138 []), ⟨lv + 1, L, E⟩, [], E⟩ [] (by simp -implicitDefEqProofs []) claims_nil ?_
  refine satO_nil (by simp) ?_
  repeat refine sat_seq ?_
  refine satO_reg ?_
  refine satO_step 3 [] ⟨.str a0 :: .str ([91]) :: an 2 (.int .i64 0 :: .int .i64 1 :: an 8 (.str ([91]) :: .int .i64 1 :: an 127 [])), ⟨lv + 1, L, E⟩, [], E⟩ [] (by simp -implicitDefEqProofs []) claims_nil ?_
  refine satO_nil (by simp) ?_
  repeat refine sat_seq ?_
  refine sat_block ?_
  repeat refine sat_seq ?_
  refine sat_meet (fun σ => ∃ (k : Nat), k ≤ n ∧ ∃ (x1 : Bool) (L : List (Option AObj)), AccG (lv + 1) L [] [] ∧ go_internal_stringslite_Index_s91_J1 k a0 x1 = some r ∧ σ = ⟨.str a0 :: .str ([91]) :: an 3 (.int .i64 1 :: an 10 (.bool x1 :: an 126 [])), ⟨lv + 1, L, E⟩, [], E⟩) ?_ ?_
  · refine satO_reg ?_
    refine satO_step 8 [] ⟨.str a0 :: .str ([91]) :: an 2 (.int .i64 0 :: .int .i64 1 :: an 8 (.str ([91]) :: .int .i64 1 :: .bool (([91]) == a0) :: .int .i64 1 :: .bool false :: .bool false :: .str ([91]) :: .str a0 :: .bool (([91]) == a0) :: .bool (([91]) == a0) :: an 119 [])), ⟨lv + 1, L, E⟩, [], E⟩ [] (by simp -implicitDefEqProofs []) claims_nil ?_
    refine satO_nil (by simp) ?_
    refine ⟨⟨.str a0 :: .str ([91]) :: an 3 (.int .i64 1 :: an 10 (.bool (([91]) == a0) :: an 126 [])), ⟨lv + 1, L, E⟩, [], E⟩, weak_tmps ?_, n, by omega, (([91]) == a0), L, hA, h, rfl⟩
    (try simp only [an, List.map_cons, List.map_nil]); repeat (first | exact VLeL.nil | refine VLeL.cons (by first | exact VLe.refl _ | exact VLe.any _ | exact VLe.nil _ _ | exact VLe.full _ _ | (refine VLe.agg' ?_; repeat (first | exact VLeL.nil | refine VLeL.cons (by first | exact VLe.refl _ | exact VLe.any _ | exact VLe.nil _ _) ?_))) ?_)
  · rintro σ0 σ hw ⟨k, hk, x1, L, hA, h, rfl⟩
    rcases k with _ | n
    · simp [go_internal_stringslite_Index_s91_J1] at h
    · rw [go_internal_stringslite_Index_s91_J1] at h
      refine sat_weak hw ?_
      repeat refine sat_seq ?_
      refine sat_cond rfl (fun hb => ?_) (fun hb => ?_)
      · have h := ite_t hb h
        repeat refine sat_seq ?_
        refine satO_reg ?_
        refine satO_step 1 [] ⟨.str a0 :: .str ([91]) :: an 2 (.int .i64 0 :: .int .i64 1 :: an 10 (.bool x1 :: an 126 [])), ⟨lv + 1, L, E⟩, [], E⟩ [] (by simp -implicitDefEqProofs []) claims_nil ?_
        refine satO_nil (by simp) ?_
        repeat refine sat_seq ?_
        refine sat_ret ?_
        refine ends (v := .int .i64 0) (by simp [resultsV, resL, resV, tupOf, Try.f97, pLoad]) rfl rfl ?_
        injection h with h
        subst h
        exact (.keep _ (by simp [V.kin, V.kinL]))
      · have h := ite_f hb h
        repeat refine sat_seq ?_
        refine satO_reg ?_
        refine satO_step 3 [] ⟨.str a0 :: .str ([91]) :: an 3 (.int .i64 1 :: an 10 (.bool x1 :: an 7 (.bool true :: .int .i64 1 :: .bool true :: an 116 []))), ⟨lv + 1, L, E⟩, [], E⟩ [] (by simp -implicitDefEqProofs []) claims_nil ?_
        refine satO_nil (by simp) ?_
        repeat refine sat_seq ?_
        refine sat_cond rfl (fun hb => ?_) (fun hb => by cases hb)
        repeat refine sat_seq ?_
        refine satO_reg ?_
        obtain ⟨y2, q3, h⟩ := bnd_hi h
        refine satO_step 5 [(.int .i64 y2, none)] ⟨.str a0 :: .str ([91]) :: an 2 (.int .i64 y2 :: .int .i64 1 :: an 10 (.bool x1 :: an 7 (.bool true :: .int .i64 1 :: .bool true :: .str a0 :: .str ([91]) :: .int .u8 ((91 : UInt8).toNat : Int) :: .int .i64 y2 :: an 112 []))), ⟨lv + 1, L, E⟩, [], E⟩ [⟨108, [.str a0, .int .u8 ((91 : UInt8).toNat : Int)], ⟨lv + 1, L, E⟩, .int .i64 y2, ⟨lv + 1, L, E⟩⟩] (by simp -implicitDefEqProofs []) (claims_cons (go_internal_stringslite_IndexByte_ok _ _ _ _ q3 _) claims_nil) ?_
        refine satO_nil (by simp) ?_
        repeat refine sat_seq ?_
        refine sat_ret ?_
        refine ends (v := .int .i64 y2) (by simp [resultsV, resL, resV, tupOf, Try.f97, pLoad]) rfl rfl ?_
        injection h with h
        subst h
        exact (.keep _ (by simp [V.kin, V.kinL]))
end Go.Proofs

namespace Go.Proofs
open Go Go.Ab
set_option maxRecDepth 10000
set_option maxHeartbeats 1000000
set_option linter.unusedSimpArgs false
set_option linter.unusedVariables false
theorem go_internal_stringslite_Cut_s91_ok (n : Nat) (a0 : List UInt8) (r : (List UInt8) × (List UInt8) × Bool) (h : go_internal_stringslite_Cut_s91 n a0 = some r) : PCall Try.prog 98 [.str a0, .str ([91])] (.tup [.str r.1, .str r.2.1, .bool r.2.2]) := by
  rw [go_internal_stringslite_Cut_s91] at h
  refine pcall_of Try.func98 rfl Try.ntmps98 (fun _ _ => Try.call98 _ _) fun lv E => ?_
  simp only [List.length_cons, List.length_nil, Nat.reduceAdd, Nat.reduceSub, List.replicate, List.cons_append, List.nil_append]
  have hA := AccG.nil (lv + 1)
  generalize ([] : List (Option AObj)) = L at hA ⊢
  repeat refine sat_seq ?_
  refine satO_reg ?_
  refine satO_step 3 [] ⟨.str a0 :: .str ([91]) :: an 2 (.str ([]) :: .str ([]) :: .bool false :: an 16 []), ⟨lv + 1, L, E⟩, [], E⟩ [] (by simp -implicitDefEqProofs []) claims_nil ?_
  refine satO_nil (by simp) ?_
  repeat refine sat_seq ?_
  refine satO_reg ?_
  obtain ⟨y1, q2, h⟩ := bnd_hi h
  refine satO_step 4 [(.int .i64 y1, none)] ⟨.str a0 :: .str ([91]) :: an 2 (.str ([]) :: .str ([]) :: .bool false :: .int .i64 y1 :: .str a0 :: .str ([91]) :: .int .i64 y1 :: an 12 []), ⟨lv + 1, L, E⟩, [], E⟩ [⟨97, [.str a0, .str ([91])], ⟨lv + 1, L, E⟩, .int .i64 y1, ⟨lv + 1, L, E⟩⟩] (by simp -implicitDefEqProofs []) (claims_cons (go_internal_stringslite_Index_s91_ok _ _ _ q2 _) claims_nil) ?_
  refine satO_nil (by simp) ?_
  repeat refine sat_seq ?_
  refine satO_reg ?_
  refine satO_step 2 [] ⟨.str a0 :: .str ([91]) :: an 2 (.str ([]) :: .str ([]) :: .bool false :: .int .i64 y1 :: .str a0 :: .str ([91]) :: .int .i64 y1 :: .int .i64 y1 :: .bool (decide (0 ≤ y1)) :: an 10 []), ⟨lv + 1, L, E⟩, [], E⟩ [] (by simp -implicitDefEqProofs []) claims_nil ?_
  refine satO_nil (by simp) ?_
  repeat refine sat_seq ?_
  refine sat_cond rfl (fun hb => ?_) (fun hb => ?_)
  · have h := ite_t hb h
    repeat refine sat_seq ?_
    obtain ⟨x3, q4, h⟩ := bnd_hi h
    obtain ⟨q4, q5, q6, q7, q8, q9⟩ := sub_some q4
    obtain ⟨x10, q11, h⟩ := bnd_hi h
    obtain ⟨q11, q12, q13, q14, q15, q16⟩ := sub_some q11
    refine satO_drw (by kernel_rfl) (by kernel_rfl) [] ⟨.str a0 :: .str ([91]) :: an 2 (.str x3 :: .str x10 :: .bool true :: .int .i64 y1 :: .str a0 :: .str ([91]) :: .int .i64 y1 :: .int .i64 y1 :: .bool (decide (0 ≤ y1)) :: .str a0 :: .int .i64 y1 :: .str x3 :: .str a0 :: .int .i64 y1 :: .str ([91]) :: .int .i64 1 :: .int .i64 (IntKind.i64.wrap (y1 + 1)) :: .str x10 :: an 1 []), ⟨lv + 1, L, E⟩, [], E⟩ [] (by simp -implicitDefEqProofs [q4, q5, q6, q7, q8, q9, List.map_take, List.map_drop, Int.max_eq_left, q11, q12, q13, q14, q15, q16, List.map_take, List.map_drop, Int.max_eq_left]) claims_nil ?_
    repeat refine sat_seq ?_
    refine sat_ret ?_
    refine ends (v := .tup [.str x3, .str x10, .bool true]) (by simp [resultsV, resL, resV, tupOf, Try.f98, pLoad]) rfl rfl ?_
    injection h with h
    subst h
    exact .keep _ (by simp [V.kin, V.kinL])
  · have h := ite_f hb h
    repeat refine sat_seq ?_
    refine sat_skip ?_
    repeat refine sat_seq ?_
    refine satO_reg ?_
    refine satO_step 4 [] ⟨.str a0 :: .str ([91]) :: an 2 (.str a0 :: .str ([]) :: .bool false :: .int .i64 y1 :: .str a0 :: .str ([91]) :: .int .i64 y1 :: .int .i64 y1 :: .bool (decide (0 ≤ y1)) :: an 9 (.str a0 :: [])), ⟨lv + 1, L, E⟩, [], E⟩ [] (by simp -implicitDefEqProofs []) claims_nil ?_
    refine satO_nil (by simp) ?_
    repeat refine sat_seq ?_
    refine sat_ret ?_
    refine ends (v := .tup [.str a0, .str ([]), .bool false]) (by simp [resultsV, resL, resV, tupOf, Try.f98, pLoad]) rfl rfl ?_
    injection h with h
    subst h
    exact .keep _ (by simp [V.kin, V.kinL])
end Go.Proofs

namespace Go.Proofs
open Go Go.Ab
set_option maxRecDepth 10000
set_option maxHeartbeats 1000000
set_option linter.unusedSimpArgs false
set_option linter.unusedVariables false
theorem go_strings_Cut_s91_ok (n : Nat) (a0 : List UInt8) (r : (List UInt8) × (List UInt8) × Bool) (h : go_strings_Cut_s91 n a0 = some r) : PCall Try.prog 78 [.str a0, .str ([91])] (.tup [.str r.1, .str r.2.1, .bool r.2.2]) := by
  rw [go_strings_Cut_s91] at h
  refine pcall_of Try.func78 rfl Try.ntmps78 (fun _ _ => Try.call78 _ _) fun lv E => ?_
  simp only [List.length_cons, List.length_nil, Nat.reduceAdd, Nat.reduceSub, List.replicate, List.cons_append, List.nil_append]
  have hA := AccG.nil (lv + 1)
  generalize ([] : List (Option AObj)) = L at hA ⊢
  repeat refine sat_seq ?_
  refine satO_reg ?_
  refine satO_step 3 [] ⟨.str a0 :: .str ([91]) :: an 2 (.str ([]) :: .str ([]) :: .bool false :: an 6 []), ⟨lv + 1, L, E⟩, [], E⟩ [] (by simp -implicitDefEqProofs []) claims_nil ?_
  refine satO_nil (by simp) ?_
  repeat refine sat_seq ?_
  refine satO_reg ?_
  obtain ⟨y1, q2, h⟩ := bnd_hi h
  refine satO_step 9 [(.tup [.str y1.1, .str y1.2.1, .bool y1.2.2], none)] ⟨.str a0 :: .str ([91]) :: an 2 (.str y1.1 :: .str y1.2.1 :: .bool y1.2.2 :: .str a0 :: .str ([91]) :: .tup [.str y1.1, .str y1.2.1, .bool y1.2.2] :: .str y1.1 :: .str y1.2.1 :: .bool y1.2.2 :: []), ⟨lv + 1, L, E⟩, [], E⟩ [⟨98, [.str a0, .str ([91])], ⟨lv + 1, L, E⟩, .tup [.str y1.1, .str y1.2.1, .bool y1.2.2], ⟨lv + 1, L, E⟩⟩] (by simp -implicitDefEqProofs []) (claims_cons (go_internal_stringslite_Cut_s91_ok _ _ _ q2 _) claims_nil) ?_
  refine satO_nil (by simp) ?_
  repeat refine sat_seq ?_
  refine sat_ret ?_
  refine ends (v := .tup [.str y1.1, .str y1.2.1, .bool y1.2.2]) (by simp [resultsV, resL, resV, tupOf, Try.f78, pLoad]) rfl rfl ?_
  injection h with h
  subst h
  exact .keep _ (by simp [V.kin, V.kinL])
end Go.Proofs

namespace Go.Proofs
open Go Go.Ab
set_option maxRecDepth 10000
set_option maxHeartbeats 1000000
set_option linter.unusedSimpArgs false
set_option linter.unusedVariables false
theorem go_label_Name_ok (n : Nat) (a0 : List UInt8) (r : Bool) (h : go_label_Name n a0 = some r) : PCall Try.prog 47 [.str a0] (.bool r) := by
  rcases n with _ | n
  · simp [go_label_Name] at h
  rw [go_label_Name] at h
  refine pcall_of Try.func47 rfl Try.ntmps47 (fun _ _ => Try.call47 _ _) fun lv E => ?_
  simp only [List.length_cons, List.length_nil, Nat.reduceAdd, Nat.reduceSub, List.replicate, List.cons_append, List.nil_append]
  have hA := AccG.nil (lv + 1)
  generalize ([] : List (Option AObj)) = L at hA ⊢
  repeat refine sat_seq ?_
  refine satO_reg ?_
  refine satO_step 1 [] ⟨.str a0 :: an 1 (.bool false :: an 41 []), ⟨lv + 1, L, E⟩, [], E⟩ [] (by simp -implicitDefEqProofs []) claims_nil ?_
  refine satO_nil (by simp) ?_
  repeat refine sat_seq ?_
  refine sat_meet (fun σ => ∃ (k : Nat), k ≤ n ∧ ∃ (x1 : Bool) (L : List (Option AObj)), AccG (lv + 1) L [] [] ∧ go_label_Name_J1 k a0 x1 = some r ∧ σ = ⟨.str a0 :: an 12 (.bool x1 :: an 30 []), ⟨lv + 1, L, E⟩, [], E⟩) ?_ ?_
  · refine satO_reg ?_
    rcases Bool.eq_false_or_eq_true ((a0.length : Int) == 0) with hg2 | hg3
    · have h := ite_t hg2 h
      have hg2n := hg2
      try simp at hg2n
      refine satO_step 8 [] ⟨.str a0 :: an 1 (.bool false :: an 3 (.str a0 :: .int .i64 (a0.length : Int) :: .bool ((a0.length : Int) == 0) :: .bool ((a0.length : Int) == 0) :: .tup [] :: .tup [] :: .tup [] :: .bool true :: an 30 [])), ⟨lv + 1, L, E⟩, [], E⟩ [] (by first | (simp -implicitDefEqProofs [hg2]; done) | simp -implicitDefEqProofs [hg2, hg2n]) claims_nil ?_
      refine satO_nil (by simp) ?_
      refine ⟨⟨.str a0 :: an 12 (.bool true :: an 30 []), ⟨lv + 1, L, E⟩, [], E⟩, weak_tmps ?_, n, by omega, true, L, hA, h, rfl⟩
      (try simp only [an, List.map_cons, List.map_nil]); repeat (first | exact VLeL.nil | refine VLeL.cons (by first | exact VLe.refl _ | exact VLe.any _ | exact VLe.nil _ _ | exact VLe.full _ _ | (refine VLe.agg' ?_; repeat (first | exact VLeL.nil | refine VLeL.cons (by first | exact VLe.refl _ | exact VLe.any _ | exact VLe.nil _ _) ?_))) ?_)
    · have h := ite_f hg3 h
      have hg3n := hg3
      try simp at hg3n
      refine satO_step 8 [] ⟨.str a0 :: an 1 (.bool false :: an 3 (.str a0 :: .int .i64 (a0.length : Int) :: .bool ((a0.length : Int) == 0) :: .bool ((a0.length : Int) == 0) :: .str a0 :: .int .i64 (a0.length : Int) :: .bool (decide (40 < (a0.length : Int))) :: .bool (decide (40 < (a0.length : Int))) :: an 30 [])), ⟨lv + 1, L, E⟩, [], E⟩ [] (by first | (simp -implicitDefEqProofs [hg3]; done) | simp -implicitDefEqProofs [hg3, hg3n]) claims_nil ?_
      refine satO_nil (by simp) ?_
      refine ⟨⟨.str a0 :: an 12 (.bool (decide (40 < (a0.length : Int))) :: an 30 []), ⟨lv + 1, L, E⟩, [], E⟩, weak_tmps ?_, n, by omega, (decide (40 < (a0.length : Int))), L, hA, h, rfl⟩
      (try simp only [an, List.map_cons, List.map_nil]); repeat (first | exact VLeL.nil | refine VLeL.cons (by first | exact VLe.refl _ | exact VLe.any _ | exact VLe.nil _ _ | exact VLe.full _ _ | (refine VLe.agg' ?_; repeat (first | exact VLeL.nil | refine VLeL.cons (by first | exact VLe.refl _ | exact VLe.any _ | exact VLe.nil _ _) ?_))) ?_)
  · rintro σ0 σ hw ⟨k, hk, x1, L, hA, h, rfl⟩
    rcases k with _ | n
    · simp [go_label_Name_J1] at h
    · rw [go_label_Name_J1] at h
      refine sat_weak hw ?_
      repeat refine sat_seq ?_
      refine sat_cond rfl (fun hb => ?_) (fun hb => ?_)
      · have h := ite_t hb h
        repeat refine sat_seq ?_
        refine satO_reg ?_
        refine satO_step 1 [] ⟨.str a0 :: an 1 (.bool false :: an 10 (.bool x1 :: an 30 [])), ⟨lv + 1, L, E⟩, [], E⟩ [] (by simp -implicitDefEqProofs []) claims_nil ?_
        refine satO_nil (by simp) ?_
        repeat refine sat_seq ?_
        refine sat_ret ?_
        refine ends (v := .bool false) (by simp [resultsV, resL, resV, tupOf, Try.f47, pLoad]) rfl rfl ?_
        injection h with h
        subst h
        exact (.keep _ (by simp [V.kin, V.kinL]))
      · have h := ite_f hb h
        repeat refine sat_seq ?_
        refine sat_skip ?_
        repeat refine sat_seq ?_
        refine satO_reg ?_
        refine satO_step 1 [] ⟨.str a0 :: an 12 (.bool x1 :: .str a0 :: an 29 []), ⟨lv + 1, L, E⟩, [], E⟩ [] (by simp -implicitDefEqProofs []) claims_nil ?_
        refine satO_step 1 [] ⟨.str a0 :: an 12 (.bool x1 :: .str a0 :: .ptr (lv + 1) L.length 0 :: an 28 []), ⟨lv + 1, (L ++ [some (.siter a0 0)]), E⟩, [], E⟩ [] (by simp -implicitDefEqProofs []) claims_nil ?_
        have hA : AccG (lv + 1) (L ++ [some (.siter a0 0)]) [] [(L.length, .siter a0 0)] := hA.obj _
        generalize L.length = i5 at hA ⊢
        generalize (L ++ [some (.siter a0 0)]) = L at hA ⊢
        refine satO_nil (by simp) ?_
        repeat refine sat_seq ?_
        refine sat_block ?_
        repeat refine sat_seq ?_
        refine sat_loop (fun k σ => ∃ (x6 : Nat) (L : List (Option AObj)), k ≤ n ∧ AccG (lv + 1) L [] [(i5, .siter a0 x6)] ∧ go_label_Name_L1 k a0 x6 = some r ∧ σ = ⟨an 15 (.ptr (lv + 1) i5 0 :: an 28 []), ⟨lv + 1, L, E⟩, [], E⟩) n ⟨an 15 (.ptr (lv + 1) i5 0 :: an 28 []), ⟨lv + 1, L, E⟩, [], E⟩ (weak_tmps ?_) ⟨0, L, Nat.le_refl _, hA, h, rfl⟩ ?_
        · (try simp only [an, List.map_cons, List.map_nil]); repeat (first | exact VLeL.nil | refine VLeL.cons (by first | exact VLe.refl _ | exact VLe.any _ | exact VLe.nil _ _ | exact VLe.full _ _ | (refine VLe.agg' ?_; repeat (first | exact VLeL.nil | refine VLeL.cons (by first | exact VLe.refl _ | exact VLe.any _ | exact VLe.nil _ _) ?_))) ?_)
        · rintro k σ ⟨x6, L, hk, hA, h, rfl⟩
          rcases k with _ | n
          · simp [go_label_Name_L1] at h
          · rw [go_label_Name_L1] at h
            repeat refine sat_seq ?_
            refine satO_reg ?_
            have g0 := hA.get (k := 0) rfl
            rcases Bool.eq_false_or_eq_true (decide (x6 < a0.length)) with hg7 | hg7
            · have h := ite_t hg7 h
              refine satO_step 1 [] ⟨an 15 (.ptr (lv + 1) i5 0 :: .tup [.bool true, .int .i64 ((x6 : Nat) : Int), .int .i32 ((decL a0 x6).1 : Int)] :: an 27 []), ⟨lv + 1, (L.set i5 (some (.siter a0 (x6 + (decL a0 x6).2)))), E⟩, [], E⟩ [] (by simp -implicitDefEqProofs [g0, hg7, of_decide_eq_true hg7]) claims_nil ?_
              have hA : AccG (lv + 1) (L.set i5 (some (.siter a0 (x6 + (decL a0 x6).2)))) [] [(i5, .siter a0 (x6 + (decL a0 x6).2))] := hA.upd (k := 0) rfl _
              generalize (L.set i5 (some (.siter a0 (x6 + (decL a0 x6).2)))) = L at hA ⊢
              have g0 := hA.get (k := 0) rfl
              refine satO_step 1 [] ⟨an 15 (.ptr (lv + 1) i5 0 :: .tup [.bool true, .int .i64 ((x6 : Nat) : Int), .int .i32 ((decL a0 x6).1 : Int)] :: .bool true :: an 26 []), ⟨lv + 1, L, E⟩, [], E⟩ [] (by simp -implicitDefEqProofs [g0]) claims_nil ?_
              refine satO_nil (by simp) ?_
              repeat refine sat_seq ?_
              refine sat_cond rfl (fun hb => ?_) (fun hb => by cases hb)
              repeat refine sat_seq ?_
              refine sat_skip ?_
              repeat refine sat_seq ?_
              refine sat_block ?_
              repeat refine sat_seq ?_
              refine satO_reg ?_
              have g0 := hA.get (k := 0) rfl
              refine satO_step 4 [] ⟨an 3 (.int .i64 ((x6 : Nat) : Int) :: .int .i32 ((decL a0 x6).1 : Int) :: an 10 (.ptr (lv + 1) i5 0 :: .tup [.bool true, .int .i64 ((x6 : Nat) : Int), .int .i32 ((decL a0 x6).1 : Int)] :: .bool true :: .int .i64 ((x6 : Nat) : Int) :: .int .i32 ((decL a0 x6).1 : Int) :: an 24 [])), ⟨lv + 1, L, E⟩, [], E⟩ [] (by simp -implicitDefEqProofs [g0]) claims_nil ?_
              refine satO_nil (by simp) ?_
              repeat refine sat_seq ?_
              refine sat_meet (fun σ => ∃ (k : Nat), k ≤ n ∧ ∃ (x8 : Bool) (L : List (Option AObj)), AccG (lv + 1) L [] [(i5, .siter a0 (x6 + (decL a0 x6).2))] ∧ go_label_Name_J2 k a0 x6 x8 = some r ∧ σ = ⟨an 3 (.int .i64 ((x6 : Nat) : Int) :: .int .i32 ((decL a0 x6).1 : Int) :: .bool x8 :: an 9 (.ptr (lv + 1) i5 0 :: an 28 [])), ⟨lv + 1, L, E⟩, [], E⟩) ?_ ?_
              · refine satO_reg ?_
                rcases Bool.eq_false_or_eq_true (decide (97 ≤ ((decL a0 x6).1 : Int))) with hg9 | hg10
                · have h := ite_t hg9 h
                  have hg9n := hg9
                  try simp at hg9n
                  have g0 := hA.get (k := 0) rfl
                  refine satO_step 7 [] ⟨an 3 (.int .i64 ((x6 : Nat) : Int) :: .int .i32 ((decL a0 x6).1 : Int) :: .bool (decide (((decL a0 x6).1 : Int) ≤ 122)) :: an 9 (.ptr (lv + 1) i5 0 :: .tup [.bool true, .int .i64 ((x6 : Nat) : Int), .int .i32 ((decL a0 x6).1 : Int)] :: .bool true :: .int .i64 ((x6 : Nat) : Int) :: .int .i32 ((decL a0 x6).1 : Int) :: .int .i32 ((decL a0 x6).1 : Int) :: .bool (decide (97 ≤ ((decL a0 x6).1 : Int))) :: .bool (decide (97 ≤ ((decL a0 x6).1 : Int))) :: .int .i32 ((decL a0 x6).1 : Int) :: .bool (decide (((decL a0 x6).1 : Int) ≤ 122)) :: .bool (decide (((decL a0 x6).1 : Int) ≤ 122)) :: an 18 [])), ⟨lv + 1, L, E⟩, [], E⟩ [] (by first | (simp -implicitDefEqProofs [g0, hg9]; done) | simp -implicitDefEqProofs [g0, hg9, hg9n]) claims_nil ?_
                  refine satO_nil (by simp) ?_
                  refine ⟨⟨an 3 (.int .i64 ((x6 : Nat) : Int) :: .int .i32 ((decL a0 x6).1 : Int) :: .bool (decide (((decL a0 x6).1 : Int) ≤ 122)) :: an 9 (.ptr (lv + 1) i5 0 :: an 28 [])), ⟨lv + 1, L, E⟩, [], E⟩, weak_tmps ?_, n, by omega, (decide (((decL a0 x6).1 : Int) ≤ 122)), L, hA, h, rfl⟩
                  (try simp only [an, List.map_cons, List.map_nil]); repeat (first | exact VLeL.nil | refine VLeL.cons (by first | exact VLe.refl _ | exact VLe.any _ | exact VLe.nil _ _ | exact VLe.full _ _ | (refine VLe.agg' ?_; repeat (first | exact VLeL.nil | refine VLeL.cons (by first | exact VLe.refl _ | exact VLe.any _ | exact VLe.nil _ _) ?_))) ?_)
                · have h := ite_f hg10 h
                  have hg10n := hg10
                  try simp at hg10n
                  have g0 := hA.get (k := 0) rfl
                  refine satO_step 7 [] ⟨an 3 (.int .i64 ((x6 : Nat) : Int) :: .int .i32 ((decL a0 x6).1 : Int) :: .bool false :: an 9 (.ptr (lv + 1) i5 0 :: .tup [.bool true, .int .i64 ((x6 : Nat) : Int), .int .i32 ((decL a0 x6).1 : Int)] :: .bool true :: .int .i64 ((x6 : Nat) : Int) :: .int .i32 ((decL a0 x6).1 : Int) :: .int .i32 ((decL a0 x6).1 : Int) :: .bool (decide (97 ≤ ((decL a0 x6).1 : Int))) :: .bool (decide (97 ≤ ((decL a0 x6).1 : Int))) :: .tup [] :: .tup [] :: .bool false :: an 18 [])), ⟨lv + 1, L, E⟩, [], E⟩ [] (by first | (simp -implicitDefEqProofs [g0, hg10]; done) | simp -implicitDefEqProofs [g0, hg10, hg10n]) claims_nil ?_
                  refine satO_nil (by simp) ?_
                  refine ⟨⟨an 3 (.int .i64 ((x6 : Nat) : Int) :: .int .i32 ((decL a0 x6).1 : Int) :: .bool false :: an 9 (.ptr (lv + 1) i5 0 :: an 28 [])), ⟨lv + 1, L, E⟩, [], E⟩, weak_tmps ?_, n, by omega, false, L, hA, h, rfl⟩
                  (try simp only [an, List.map_cons, List.map_nil]); repeat (first | exact VLeL.nil | refine VLeL.cons (by first | exact VLe.refl _ | exact VLe.any _ | exact VLe.nil _ _ | exact VLe.full _ _ | (refine VLe.agg' ?_; repeat (first | exact VLeL.nil | refine VLeL.cons (by first | exact VLe.refl _ | exact VLe.any _ | exact VLe.nil _ _) ?_))) ?_)
              · rintro σ0 σ hw ⟨k, hk, x8, L, hA, h, rfl⟩
                rcases k with _ | n
                · simp [go_label_Name_J2] at h
                · rw [go_label_Name_J2] at h
                  refine sat_weak hw ?_
                  repeat refine sat_seq ?_
                  refine sat_meet (fun σ => ∃ (k : Nat), k ≤ n ∧ ∃ (x11 : Bool) (L : List (Option AObj)), AccG (lv + 1) L [] [(i5, .siter a0 (x6 + (decL a0 x6).2))] ∧ go_label_Name_J3 k a0 x6 x11 = some r ∧ σ = ⟨an 15 (.ptr (lv + 1) i5 0 :: an 27 (.bool x11 :: [])), ⟨lv + 1, L, E⟩, [], E⟩) ?_ ?_
                  · refine satO_reg ?_
                    rcases Bool.eq_false_or_eq_true (!x8) with hg12 | hg19
                    · have h := ite_t hg12 h
                      have hg12n := hg12
                      try simp at hg12n
                      rcases Bool.eq_false_or_eq_true (((x6 : Nat) : Int) == 0) with hg13 | hg14
                      · have h := ite_t hg13 h
                        have hg13n := hg13
                        try simp at hg13n
                        have g0 := hA.get (k := 0) rfl
                        refine satO_step 18 [] ⟨an 3 (.int .i64 ((x6 : Nat) : Int) :: .int .i32 ((decL a0 x6).1 : Int) :: .bool x8 :: an 9 (.ptr (lv + 1) i5 0 :: an 10 (.bool x8 :: .bool (!x8) :: .bool (!x8) :: .int .i64 ((x6 : Nat) : Int) :: .bool (((x6 : Nat) : Int) == 0) :: .bool (((x6 : Nat) : Int) == 0) :: .tup [] :: .tup [] :: .tup [] :: .tup [] :: .tup [] :: .tup [] :: .tup [] :: .tup [] :: .tup [] :: .tup [] :: .bool true :: .bool true :: []))), ⟨lv + 1, L, E⟩, [], E⟩ [] (by first | (simp -implicitDefEqProofs [g0, hg12, hg13]; done) | simp -implicitDefEqProofs [g0, hg12, hg13, hg12n, hg13n]) claims_nil ?_
                        refine satO_nil (by simp) ?_
                        refine ⟨⟨an 15 (.ptr (lv + 1) i5 0 :: an 27 (.bool true :: [])), ⟨lv + 1, L, E⟩, [], E⟩, weak_tmps ?_, n, by omega, true, L, hA, h, rfl⟩
                        (try simp only [an, List.map_cons, List.map_nil]); repeat (first | exact VLeL.nil | refine VLeL.cons (by first | exact VLe.refl _ | exact VLe.any _ | exact VLe.nil _ _ | exact VLe.full _ _ | (refine VLe.agg' ?_; repeat (first | exact VLeL.nil | refine VLeL.cons (by first | exact VLe.refl _ | exact VLe.any _ | exact VLe.nil _ _) ?_))) ?_)
                      · have h := ite_f hg14 h
                        have hg14n := hg14
                        try simp at hg14n
                        rcases Bool.eq_false_or_eq_true (!(((decL a0 x6).1 : Int) == 45)) with hg15 | hg18
                        · have h := ite_t hg15 h
                          have hg15n := hg15
                          try simp at hg15n
                          rcases Bool.eq_false_or_eq_true (decide (((decL a0 x6).1 : Int) < 48)) with hg16 | hg17
                          · have h := ite_t hg16 h
                            have hg16n := hg16
                            try simp at hg16n
                            have g0 := hA.get (k := 0) rfl
                            refine satO_step 18 [] ⟨an 3 (.int .i64 ((x6 : Nat) : Int) :: .int .i32 ((decL a0 x6).1 : Int) :: .bool x8 :: an 9 (.ptr (lv + 1) i5 0 :: an 10 (.bool x8 :: .bool (!x8) :: .bool (!x8) :: .int .i64 ((x6 : Nat) : Int) :: .bool (((x6 : Nat) : Int) == 0) :: .bool (((x6 : Nat) : Int) == 0) :: .int .i32 ((decL a0 x6).1 : Int) :: .bool (!(((decL a0 x6).1 : Int) == 45)) :: .bool (!(((decL a0 x6).1 : Int) == 45)) :: .int .i32 ((decL a0 x6).1 : Int) :: .bool (decide (((decL a0 x6).1 : Int) < 48)) :: .bool (decide (((decL a0 x6).1 : Int) < 48)) :: .tup [] :: .tup [] :: .bool true :: .bool true :: .bool true :: .bool true :: []))), ⟨lv + 1, L, E⟩, [], E⟩ [] (by first | (simp -implicitDefEqProofs [g0, hg12, hg14, hg15, hg16]; done) | simp -implicitDefEqProofs [g0, hg12, hg14, hg15, hg16, hg12n, hg14n, hg15n, hg16n]) claims_nil ?_
                            refine satO_nil (by simp) ?_
                            refine ⟨⟨an 15 (.ptr (lv + 1) i5 0 :: an 27 (.bool true :: [])), ⟨lv + 1, L, E⟩, [], E⟩, weak_tmps ?_, n, by omega, true, L, hA, h, rfl⟩
                            (try simp only [an, List.map_cons, List.map_nil]); repeat (first | exact VLeL.nil | refine VLeL.cons (by first | exact VLe.refl _ | exact VLe.any _ | exact VLe.nil _ _ | exact VLe.full _ _ | (refine VLe.agg' ?_; repeat (first | exact VLeL.nil | refine VLeL.cons (by first | exact VLe.refl _ | exact VLe.any _ | exact VLe.nil _ _) ?_))) ?_)
                          · have h := ite_f hg17 h
                            have hg17n := hg17
                            try simp at hg17n
                            have g0 := hA.get (k := 0) rfl
                            refine satO_step 18 [] ⟨an 3 (.int .i64 ((x6 : Nat) : Int) :: .int .i32 ((decL a0 x6).1 : Int) :: .bool x8 :: an 9 (.ptr (lv + 1) i5 0 :: an 10 (.bool x8 :: .bool (!x8) :: .bool (!x8) :: .int .i64 ((x6 : Nat) : Int) :: .bool (((x6 : Nat) : Int) == 0) :: .bool (((x6 : Nat) : Int) == 0) :: .int .i32 ((decL a0 x6).1 : Int) :: .bool (!(((decL a0 x6).1 : Int) == 45)) :: .bool (!(((decL a0 x6).1 : Int) == 45)) :: .int .i32 ((decL a0 x6).1 : Int) :: .bool (decide (((decL a0 x6).1 : Int) < 48)) :: .bool (decide (((decL a0 x6).1 : Int) < 48)) :: .int .i32 ((decL a0 x6).1 : Int) :: .bool (decide (57 < ((decL a0 x6).1 : Int))) :: .bool (decide (57 < ((decL a0 x6).1 : Int))) :: .bool (decide (57 < ((decL a0 x6).1 : Int))) :: .bool (decide (57 < ((decL a0 x6).1 : Int))) :: .bool (decide (57 < ((decL a0 x6).1 : Int))) :: []))), ⟨lv + 1, L, E⟩, [], E⟩ [] (by first | (simp -implicitDefEqProofs [g0, hg12, hg14, hg15, hg17]; done) | simp -implicitDefEqProofs [g0, hg12, hg14, hg15, hg17, hg12n, hg14n, hg15n, hg17n]) claims_nil ?_
                            refine satO_nil (by simp) ?_
                            refine ⟨⟨an 15 (.ptr (lv + 1) i5 0 :: an 27 (.bool (decide (57 < ((decL a0 x6).1 : Int))) :: [])), ⟨lv + 1, L, E⟩, [], E⟩, weak_tmps ?_, n, by omega, (decide (57 < ((decL a0 x6).1 : Int))), L, hA, h, rfl⟩
                            (try simp only [an, List.map_cons, List.map_nil]); repeat (first | exact VLeL.nil | refine VLeL.cons (by first | exact VLe.refl _ | exact VLe.any _ | exact VLe.nil _ _ | exact VLe.full _ _ | (refine VLe.agg' ?_; repeat (first | exact VLeL.nil | refine VLeL.cons (by first | exact VLe.refl _ | exact VLe.any _ | exact VLe.nil _ _) ?_))) ?_)
                        · have h := ite_f hg18 h
                          have hg18n := hg18
                          try simp at hg18n
                          have g0 := hA.get (k := 0) rfl
                          refine satO_step 18 [] ⟨an 3 (.int .i64 ((x6 : Nat) : Int) :: .int .i32 ((decL a0 x6).1 : Int) :: .bool x8 :: an 9 (.ptr (lv + 1) i5 0 :: an 10 (.bool x8 :: .bool (!x8) :: .bool (!x8) :: .int .i64 ((x6 : Nat) : Int) :: .bool (((x6 : Nat) : Int) == 0) :: .bool (((x6 : Nat) : Int) == 0) :: .int .i32 ((decL a0 x6).1 : Int) :: .bool (!(((decL a0 x6).1 : Int) == 45)) :: .bool (!(((decL a0 x6).1 : Int) == 45)) :: .tup [] :: .tup [] :: .tup [] :: .tup [] :: .tup [] :: .tup [] :: .bool false :: .bool false :: .bool false :: []))), ⟨lv + 1, L, E⟩, [], E⟩ [] (by first | (simp -implicitDefEqProofs [g0, hg12, hg14, hg18]; done) | simp -implicitDefEqProofs [g0, hg12, hg14, hg18, hg12n, hg14n, hg18n]) claims_nil ?_
                          refine satO_nil (by simp) ?_
                          refine ⟨⟨an 15 (.ptr (lv + 1) i5 0 :: an 27 (.bool false :: [])), ⟨lv + 1, L, E⟩, [], E⟩, weak_tmps ?_, n, by omega, false, L, hA, h, rfl⟩
                          (try simp only [an, List.map_cons, List.map_nil]); repeat (first | exact VLeL.nil | refine VLeL.cons (by first | exact VLe.refl _ | exact VLe.any _ | exact VLe.nil _ _ | exact VLe.full _ _ | (refine VLe.agg' ?_; repeat (first | exact VLeL.nil | refine VLeL.cons (by first | exact VLe.refl _ | exact VLe.any _ | exact VLe.nil _ _) ?_))) ?_)
                    · have h := ite_f hg19 h
                      have hg19n := hg19
                      try simp at hg19n
                      have g0 := hA.get (k := 0) rfl
                      refine satO_step 18 [] ⟨an 3 (.int .i64 ((x6 : Nat) : Int) :: .int .i32 ((decL a0 x6).1 : Int) :: .bool x8 :: an 9 (.ptr (lv + 1) i5 0 :: an 10 (.bool x8 :: .bool (!x8) :: .bool (!x8) :: .tup [] :: .tup [] :: .tup [] :: .tup [] :: .tup [] :: .tup [] :: .tup [] :: .tup [] :: .tup [] :: .tup [] :: .tup [] :: .tup [] :: .tup [] :: .tup [] :: .bool false :: []))), ⟨lv + 1, L, E⟩, [], E⟩ [] (by first | (simp -implicitDefEqProofs [g0, hg19]; done) | simp -implicitDefEqProofs [g0, hg19, hg19n]) claims_nil ?_
                      refine satO_nil (by simp) ?_
                      refine ⟨⟨an 15 (.ptr (lv + 1) i5 0 :: an 27 (.bool false :: [])), ⟨lv + 1, L, E⟩, [], E⟩, weak_tmps ?_, n, by omega, false, L, hA, h, rfl⟩
                      (try simp only [an, List.map_cons, List.map_nil]); repeat (first | exact VLeL.nil | refine VLeL.cons (by first | exact VLe.refl _ | exact VLe.any _ | exact VLe.nil _ _ | exact VLe.full _ _ | (refine VLe.agg' ?_; repeat (first | exact VLeL.nil | refine VLeL.cons (by first | exact VLe.refl _ | exact VLe.any _ | exact VLe.nil _ _) ?_))) ?_)
                  · rintro σ0 σ hw ⟨k, hk, x11, L, hA, h, rfl⟩
                    rcases k with _ | n
                    · simp [go_label_Name_J3] at h
                    · rw [go_label_Name_J3] at h
                      refine sat_weak hw ?_
                      repeat refine sat_seq ?_
                      refine sat_cond rfl (fun hb => ?_) (fun hb => ?_)
                      · have h := ite_t hb h
                        repeat refine sat_seq ?_
                        refine satO_reg ?_
                        have g0 := hA.get (k := 0) rfl
                        refine satO_step 1 [] ⟨an 2 (.bool false :: an 12 (.ptr (lv + 1) i5 0 :: an 27 (.bool x11 :: []))), ⟨lv + 1, L, E⟩, [], E⟩ [] (by simp -implicitDefEqProofs [g0]) claims_nil ?_
                        refine satO_nil (by simp) ?_
                        repeat refine sat_seq ?_
                        refine sat_ret ?_
                        have g0 := hA.get (k := 0) rfl
                        refine ends (v := .bool false) (by simp [resultsV, resL, resV, tupOf, Try.f47, pLoad, g0]) rfl rfl ?_
                        injection h with h
                        subst h
                        exact (.keep _ (by simp [V.kin, V.kinL]))
                      · have h := ite_f hb h
                        repeat refine sat_seq ?_
                        refine sat_skip ?_
                        refine ⟨n, ⟨an 15 (.ptr (lv + 1) i5 0 :: an 28 []), ⟨lv + 1, L, E⟩, [], E⟩, weak_tmps ?_, ⟨(x6 + (decL a0 x6).2), L, by omega, hA, h, rfl⟩, by omega⟩
                        (try simp only [an, List.map_cons, List.map_nil]); repeat (first | exact VLeL.nil | refine VLeL.cons (by first | exact VLe.refl _ | exact VLe.any _ | exact VLe.nil _ _ | exact VLe.full _ _ | (refine VLe.agg' ?_; repeat (first | exact VLeL.nil | refine VLeL.cons (by first | exact VLe.refl _ | exact VLe.any _ | exact VLe.nil _ _) ?_))) ?_)
            · have h := ite_f hg7 h
              refine satO_step 1 [] ⟨an 15 (.ptr (lv + 1) i5 0 :: .tup [.bool false] :: an 27 []), ⟨lv + 1, L, E⟩, [], E⟩ [] (by simp -implicitDefEqProofs [g0, hg7, of_decide_eq_false hg7]) claims_nil ?_
              have g0 := hA.get (k := 0) rfl
              refine satO_step 1 [] ⟨an 15 (.ptr (lv + 1) i5 0 :: .tup [.bool false] :: .bool false :: an 26 []), ⟨lv + 1, L, E⟩, [], E⟩ [] (by simp -implicitDefEqProofs [g0]) claims_nil ?_
              refine satO_nil (by simp) ?_
              repeat refine sat_seq ?_
              refine sat_cond rfl (fun hb => by cases hb) (fun hb => ?_)
              repeat refine sat_seq ?_
              refine sat_exit ?_
              repeat refine sat_seq ?_
              refine satO_reg ?_
              have g0 := hA.get (k := 0) rfl
              refine satO_step 1 [] ⟨an 2 (.bool true :: an 12 (.ptr (lv + 1) i5 0 :: .tup [.bool false] :: .bool false :: an 26 [])), ⟨lv + 1, L, E⟩, [], E⟩ [] (by simp -implicitDefEqProofs [g0]) claims_nil ?_
              refine satO_nil (by simp) ?_
              repeat refine sat_seq ?_
              refine sat_ret ?_
              have g0 := hA.get (k := 0) rfl
              refine ends (v := .bool true) (by simp [resultsV, resL, resV, tupOf, Try.f47, pLoad, g0]) rfl rfl ?_
              injection h with h
              subst h
              exact (.keep _ (by simp [V.kin, V.kinL]))
end Go.Proofs

namespace Go.Proofs
open Go Go.Ab
set_option maxRecDepth 10000
set_option maxHeartbeats 1000000
set_option linter.unusedSimpArgs false
set_option linter.unusedVariables false
theorem go_internal_stringslite_HasSuffix_s93_ok (n : Nat) (a0 : List UInt8) (r : Bool) (h : go_internal_stringslite_HasSuffix_s93 n a0 = some r) : PCall Try.prog 112 [.str a0, .str ([93])] (.bool r) := by
  rw [go_internal_stringslite_HasSuffix_s93] at h
  refine pcall_of Try.func112 rfl Try.ntmps112 (fun _ _ => Try.call112 _ _) fun lv E => ?_
  simp only [List.length_cons, List.length_nil, Nat.reduceAdd, Nat.reduceSub, List.replicate, List.cons_append, List.nil_append]
  have hA := AccG.nil (lv + 1)
  generalize ([] : List (Option AObj)) = L at hA ⊢
  repeat refine sat_seq ?_
  refine satO_reg ?_
  refine satO_step 1 [] ⟨.str a0 :: .str ([93]) :: an 2 (.bool false :: an 16 []), ⟨lv + 1, L, E⟩, [], E⟩ [] (by simp -implicitDefEqProofs []) claims_nil ?_
  refine satO_nil (by simp) ?_
  repeat refine sat_seq ?_
  refine sat_meet (fun σ => ∃ (x1 : Bool) (L : List (Option AObj)), AccG (lv + 1) L [] [] ∧ go_internal_stringslite_HasSuffix_s93_J1 n x1 = some r ∧ σ = ⟨an 4 (.bool x1 :: an 16 []), ⟨lv + 1, L, E⟩, [], E⟩) ?_ ?_
  · refine satO_reg ?_
    rcases Bool.eq_false_or_eq_true (decide (1 ≤ (a0.length : Int))) with hg2 | hg10
    · have h := ite_t hg2 h
      have hg2n := hg2
      try simp at hg2n
      obtain ⟨x3, q4, h⟩ := bnd_hi h
      obtain ⟨q4, q5, q6, q7, q8, q9⟩ := sub_some q4
      refine satO_step 17 [] ⟨.str a0 :: .str ([93]) :: an 2 (.bool (x3 == ([93])) :: .str a0 :: .int .i64 (a0.length : Int) :: .str ([93]) :: .int .i64 1 :: .bool (decide (1 ≤ (a0.length : Int))) :: .bool (decide (1 ≤ (a0.length : Int))) :: .str a0 :: .str a0 :: .int .i64 (a0.length : Int) :: .str ([93]) :: .int .i64 1 :: .int .i64 (IntKind.i64.wrap ((a0.length : Int) - 1)) :: .str x3 :: .str ([93]) :: .bool (x3 == ([93])) :: .bool (x3 == ([93])) :: []), ⟨lv + 1, L, E⟩, [], E⟩ [] (by first | (simp -implicitDefEqProofs [hg2, q4, q5, q6, q7, q8, q9, List.map_take, List.map_drop, Int.max_eq_left]; done) | simp -implicitDefEqProofs [hg2, q4, q5, q6, q7, q8, q9, List.map_take, List.map_drop, Int.max_eq_left, hg2n]) claims_nil ?_
      refine satO_nil (by simp) ?_
      refine ⟨⟨an 4 (.bool (x3 == ([93])) :: an 16 []), ⟨lv + 1, L, E⟩, [], E⟩, weak_tmps ?_, (x3 == ([93])), L, hA, h, rfl⟩
      (try simp only [an, List.map_cons, List.map_nil]); repeat (first | exact VLeL.nil | refine VLeL.cons (by first | exact VLe.refl _ | exact VLe.any _ | exact VLe.nil _ _ | exact VLe.full _ _ | (refine VLe.agg' ?_; repeat (first | exact VLeL.nil | refine VLeL.cons (by first | exact VLe.refl _ | exact VLe.any _ | exact VLe.nil _ _) ?_))) ?_)
    · have h := ite_f hg10 h
      have hg10n := hg10
      try simp at hg10n
      refine satO_step 17 [] ⟨.str a0 :: .str ([93]) :: an 2 (.bool false :: .str a0 :: .int .i64 (a0.length : Int) :: .str ([93]) :: .int .i64 1 :: .bool (decide (1 ≤ (a0.length : Int))) :: .bool (decide (1 ≤ (a0.length : Int))) :: .tup [] :: .tup [] :: .tup [] :: .tup [] :: .tup [] :: .tup [] :: .tup [] :: .tup [] :: .tup [] :: .bool false :: []), ⟨lv + 1, L, E⟩, [], E⟩ [] (by first | (simp -implicitDefEqProofs [hg10]; done) | simp -implicitDefEqProofs [hg10, hg10n]) claims_nil ?_
      refine satO_nil (by simp) ?_
      refine ⟨⟨an 4 (.bool false :: an 16 []), ⟨lv + 1, L, E⟩, [], E⟩, weak_tmps ?_, false, L, hA, h, rfl⟩
      (try simp only [an, List.map_cons, List.map_nil]); repeat (first | exact VLeL.nil | refine VLeL.cons (by first | exact VLe.refl _ | exact VLe.any _ | exact VLe.nil _ _ | exact VLe.full _ _ | (refine VLe.agg' ?_; repeat (first | exact VLeL.nil | refine VLeL.cons (by first | exact VLe.refl _ | exact VLe.any _ | exact VLe.nil _ _) ?_))) ?_)
  · rintro σ0 σ hw ⟨x1, L, hA, h, rfl⟩
    rw [go_internal_stringslite_HasSuffix_s93_J1] at h
    refine sat_weak hw ?_
    repeat refine sat_seq ?_
    refine sat_ret ?_
    refine ends (v := .bool x1) (by simp [resultsV, resL, resV, tupOf, Try.f112, pLoad]) rfl rfl ?_
    injection h with h
    subst h
    exact (.keep _ (by simp [V.kin, V.kinL]))
end Go.Proofs

namespace Go.Proofs
open Go Go.Ab
set_option maxRecDepth 10000
set_option maxHeartbeats 1000000
set_option linter.unusedSimpArgs false
set_option linter.unusedVariables false
theorem go_internal_stringslite_CutSuffix_s93_ok (n : Nat) (a0 : List UInt8) (r : (List UInt8) × Bool) (h : go_internal_stringslite_CutSuffix_s93 n a0 = some r) : PCall Try.prog 99 [.str a0, .str ([93])] (.tup [.str r.1, .bool r.2]) := by
  rw [go_internal_stringslite_CutSuffix_s93] at h
  refine pcall_of Try.func99 rfl Try.ntmps99 (fun _ _ => Try.call99 _ _) fun lv E => ?_
  simp only [List.length_cons, List.length_nil, Nat.reduceAdd, Nat.reduceSub, List.replicate, List.cons_append, List.nil_append]
  have hA := AccG.nil (lv + 1)
  generalize ([] : List (Option AObj)) = L at hA ⊢
  repeat refine sat_seq ?_
  refine satO_reg ?_
  refine satO_step 2 [] ⟨.str a0 :: .str ([93]) :: an 2 (.str ([]) :: .bool false :: an 12 []), ⟨lv + 1, L, E⟩, [], E⟩ [] (by simp -implicitDefEqProofs []) claims_nil ?_
  refine satO_nil (by simp) ?_
  repeat refine sat_seq ?_
  refine satO_reg ?_
  obtain ⟨y1, q2, h⟩ := bnd_hi h
  refine satO_step 4 [(.bool y1, none)] ⟨.str a0 :: .str ([93]) :: an 2 (.str ([]) :: .bool false :: .str a0 :: .str ([93]) :: .bool y1 :: .bool (!y1) :: an 8 []), ⟨lv + 1, L, E⟩, [], E⟩ [⟨112, [.str a0, .str ([93])], ⟨lv + 1, L, E⟩, .bool y1, ⟨lv + 1, L, E⟩⟩] (by simp -implicitDefEqProofs []) (claims_cons (go_internal_stringslite_HasSuffix_s93_ok _ _ _ q2 _) claims_nil) ?_
  refine satO_nil (by simp) ?_
  repeat refine sat_seq ?_
  refine sat_cond rfl (fun hb => ?_) (fun hb => ?_)
  · have h := ite_t hb h
    repeat refine sat_seq ?_
    refine satO_reg ?_
    refine satO_step 3 [] ⟨.str a0 :: .str ([93]) :: an 2 (.str a0 :: .bool false :: .str a0 :: .str ([93]) :: .bool y1 :: .bool (!y1) :: .str a0 :: an 7 []), ⟨lv + 1, L, E⟩, [], E⟩ [] (by simp -implicitDefEqProofs []) claims_nil ?_
    refine satO_nil (by simp) ?_
    repeat refine sat_seq ?_
    refine sat_ret ?_
    refine ends (v := .tup [.str a0, .bool false]) (by simp [resultsV, resL, resV, tupOf, Try.f99, pLoad]) rfl rfl ?_
    injection h with h
    subst h
    exact .keep _ (by simp [V.kin, V.kinL])
  · have h := ite_f hb h
    repeat refine sat_seq ?_
    refine sat_skip ?_
    repeat refine sat_seq ?_
    refine satO_reg ?_
    obtain ⟨x3, q4, h⟩ := bnd_hi h
    obtain ⟨q4, q5, q6, q7, q8, q9⟩ := sub_some q4
    refine satO_step 9 [] ⟨.str a0 :: .str ([93]) :: an 2 (.str x3 :: .bool true :: .str a0 :: .str ([93]) :: .bool y1 :: .bool (!y1) :: an 1 (.str a0 :: .str a0 :: .int .i64 (a0.length : Int) :: .str ([93]) :: .int .i64 1 :: .int .i64 (IntKind.i64.wrap ((a0.length : Int) - 1)) :: .str x3 :: [])), ⟨lv + 1, L, E⟩, [], E⟩ [] (by simp -implicitDefEqProofs [q4, q5, q6, q7, q8, q9, List.map_take, List.map_drop, Int.max_eq_left]) claims_nil ?_
    refine satO_nil (by simp) ?_
    repeat refine sat_seq ?_
    refine sat_ret ?_
    refine ends (v := .tup [.str x3, .bool true]) (by simp [resultsV, resL, resV, tupOf, Try.f99, pLoad]) rfl rfl ?_
    injection h with h
    subst h
    exact .keep _ (by simp [V.kin, V.kinL])
end Go.Proofs

namespace Go.Proofs
open Go Go.Ab
set_option maxRecDepth 10000
set_option maxHeartbeats 1000000
set_option linter.unusedSimpArgs false
set_option linter.unusedVariables false
theorem go_strings_CutSuffix_s93_ok (n : Nat) (a0 : List UInt8) (r : (List UInt8) × Bool) (h : go_strings_CutSuffix_s93 n a0 = some r) : PCall Try.prog 79 [.str a0, .str ([93])] (.tup [.str r.1, .bool r.2]) := by
  rw [go_strings_CutSuffix_s93] at h
  refine pcall_of Try.func79 rfl Try.ntmps79 (fun _ _ => Try.call79 _ _) fun lv E => ?_
  simp only [List.length_cons, List.length_nil, Nat.reduceAdd, Nat.reduceSub, List.replicate, List.cons_append, List.nil_append]
  have hA := AccG.nil (lv + 1)
  generalize ([] : List (Option AObj)) = L at hA ⊢
  repeat refine sat_seq ?_
  refine satO_reg ?_
  refine satO_step 2 [] ⟨.str a0 :: .str ([93]) :: an 2 (.str ([]) :: .bool false :: an 5 []), ⟨lv + 1, L, E⟩, [], E⟩ [] (by simp -implicitDefEqProofs []) claims_nil ?_
  refine satO_nil (by simp) ?_
  repeat refine sat_seq ?_
  refine satO_reg ?_
  obtain ⟨y1, q2, h⟩ := bnd_hi h
  refine satO_step 7 [(.tup [.str y1.1, .bool y1.2], none)] ⟨.str a0 :: .str ([93]) :: an 2 (.str y1.1 :: .bool y1.2 :: .str a0 :: .str ([93]) :: .tup [.str y1.1, .bool y1.2] :: .str y1.1 :: .bool y1.2 :: []), ⟨lv + 1, L, E⟩, [], E⟩ [⟨99, [.str a0, .str ([93])], ⟨lv + 1, L, E⟩, .tup [.str y1.1, .bool y1.2], ⟨lv + 1, L, E⟩⟩] (by simp -implicitDefEqProofs []) (claims_cons (go_internal_stringslite_CutSuffix_s93_ok _ _ _ q2 _) claims_nil) ?_
  refine satO_nil (by simp) ?_
  repeat refine sat_seq ?_
  refine sat_ret ?_
  refine ends (v := .tup [.str y1.1, .bool y1.2]) (by simp [resultsV, resL, resV, tupOf, Try.f79, pLoad]) rfl rfl ?_
  injection h with h
  subst h
  exact .keep _ (by simp [V.kin, V.kinL])
end Go.Proofs
