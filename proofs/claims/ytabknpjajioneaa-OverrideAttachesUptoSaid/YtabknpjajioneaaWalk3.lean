/-
  The Go functions compute what their Lean functions do, by a program of this repo.
-/
import Derived.Test.YtabknpjajioneaaFns
import Derived.Test.YtabknpjajioneaaFacts
import Derived.Test.YtabknpjajioneaaAbSimp
import Derived.Lib.Bytealg
import Derived.Laws.Externs
import Derived.KernelRfl
import Derived.Test.YtabknpjajioneaaWalk2
import Derived.Test.YtabknpjajioneaaWalk0
namespace Go.Proofs
open Go Go.Ab
set_option maxRecDepth 10000
set_option maxHeartbeats 1000000
set_option linter.unusedSimpArgs false
set_option linter.unusedVariables false
theorem go_ref30_formed_ok (n : Nat) (a0 : GOver) (r : Bool) (h : go_ref30_formed n a0 = some r) : PCall Try.prog 50 [.agg a0.cs] (.bool r) := by
  rcases n with _ | n
  · simp [go_ref30_formed] at h
  rw [go_ref30_formed] at h
  refine pcall_of Try.func50 rfl Try.ntmps50 (fun _ _ => Try.call50 _ _) fun lv E => ?_
  simp only [List.length_cons, List.length_nil, Nat.reduceAdd, Nat.reduceSub, List.replicate, List.cons_append, List.nil_append]
  have hA := AccG.nil (lv + 1)
  generalize ([] : List (Option AObj)) = L at hA ⊢
  repeat refine sat_seq ?_
  refine satO_reg ?_
  refine satO_step 1 [] ⟨.agg a0.cs :: .ptr (lv + 1) L.length 0 :: an 50 [], ⟨lv + 1, (L ++ [some (.cells a0.cs)]), E⟩, [], E⟩ [] (by simp -implicitDefEqProofs [GOver.cs]) claims_nil ?_
  have hA : AccG (lv + 1) (L ++ [some (.cells a0.cs)]) [] [(L.length, .cells a0.cs)] := hA.obj _
  generalize L.length = i2 at hA ⊢
  generalize (L ++ [some (.cells a0.cs)]) = L at hA ⊢
  have g0 := hA.get (k := 0) rfl
  refine satO_step 1 [] ⟨.agg a0.cs :: .ptr (lv + 1) i2 0 :: .bool false :: an 49 [], ⟨lv + 1, L, E⟩, [], E⟩ [] (by simp -implicitDefEqProofs [GOver.cs, g0]) claims_nil ?_
  refine satO_nil (by simp) ?_
  repeat refine sat_seq ?_
  refine sat_meet (fun σ => ∃ (k : Nat), k ≤ n ∧ ∃ (x3 : Bool) (L : List (Option AObj)), AccG (lv + 1) L [] [(i2, .cells a0.cs)] ∧ go_ref30_formed_J1 k a0 x3 = some r ∧ σ = ⟨an 1 (.ptr (lv + 1) i2 0 :: an 11 (.bool x3 :: an 38 [])), ⟨lv + 1, L, E⟩, [], E⟩) ?_ ?_
  · refine satO_reg ?_
    obtain ⟨y4, q5, h⟩ := bnd_hi h
    rcases Bool.eq_false_or_eq_true (!(y4 == 0)) with hg6 | hg7
    · have h := ite_t hg6 h
      have hg6n := hg6
      try simp at hg6n
      have g0 := hA.get (k := 0) rfl
      refine satO_step 10 [(.int .i64 y4, none)] ⟨.agg a0.cs :: .ptr (lv + 1) i2 0 :: .bool false :: an 1 (.ptr (lv + 1) i2 0 :: .str a0.path :: .int .i64 y4 :: .bool (!(y4 == 0)) :: .bool (!(y4 == 0)) :: .tup [] :: .tup [] :: .tup [] :: .tup [] :: .bool true :: an 38 []), ⟨lv + 1, L, E⟩, [], E⟩ [⟨65, [.str a0.path], ⟨lv + 1, L, E⟩, .int .i64 y4, ⟨lv + 1, L, E⟩⟩] (by first | (simp -implicitDefEqProofs [GOver.cs, g0, hg6]; done) | simp -implicitDefEqProofs [GOver.cs, g0, hg6, hg6n]) (claims_cons (go_ref02_Check_ok _ _ _ q5 _) claims_nil) ?_
      refine satO_nil (by simp) ?_
      refine ⟨⟨an 1 (.ptr (lv + 1) i2 0 :: an 11 (.bool true :: an 38 [])), ⟨lv + 1, L, E⟩, [], E⟩, weak_tmps ?_, n, by omega, true, L, hA, h, rfl⟩
      (try simp only [an, List.map_cons, List.map_nil]); repeat (first | exact VLeL.nil | refine VLeL.cons (by first | exact VLe.refl _ | exact VLe.any _ | exact VLe.nil _ _ | exact VLe.full _ _ | (refine VLe.agg' ?_; repeat (first | exact VLeL.nil | refine VLeL.cons (by first | exact VLe.refl _ | exact VLe.any _ | exact VLe.nil _ _) ?_))) ?_)
    · have h := ite_f hg7 h
      have hg7n := hg7
      try simp at hg7n
      have g0 := hA.get (k := 0) rfl
      refine satO_step 10 [(.int .i64 y4, none)] ⟨.agg a0.cs :: .ptr (lv + 1) i2 0 :: .bool false :: an 1 (.ptr (lv + 1) i2 0 :: .str a0.path :: .int .i64 y4 :: .bool (!(y4 == 0)) :: .bool (!(y4 == 0)) :: .ptr (lv + 1) i2 0 :: .str a0.path :: .int .i64 (a0.path.length : Int) :: .bool ((a0.path.length : Int) == 0) :: .bool ((a0.path.length : Int) == 0) :: an 38 []), ⟨lv + 1, L, E⟩, [], E⟩ [⟨65, [.str a0.path], ⟨lv + 1, L, E⟩, .int .i64 y4, ⟨lv + 1, L, E⟩⟩] (by first | (simp -implicitDefEqProofs [GOver.cs, g0, hg7]; done) | simp -implicitDefEqProofs [GOver.cs, g0, hg7, hg7n]) (claims_cons (go_ref02_Check_ok _ _ _ q5 _) claims_nil) ?_
      refine satO_nil (by simp) ?_
      refine ⟨⟨an 1 (.ptr (lv + 1) i2 0 :: an 11 (.bool ((a0.path.length : Int) == 0) :: an 38 [])), ⟨lv + 1, L, E⟩, [], E⟩, weak_tmps ?_, n, by omega, ((a0.path.length : Int) == 0), L, hA, h, rfl⟩
      (try simp only [an, List.map_cons, List.map_nil]); repeat (first | exact VLeL.nil | refine VLeL.cons (by first | exact VLe.refl _ | exact VLe.any _ | exact VLe.nil _ _ | exact VLe.full _ _ | (refine VLe.agg' ?_; repeat (first | exact VLeL.nil | refine VLeL.cons (by first | exact VLe.refl _ | exact VLe.any _ | exact VLe.nil _ _) ?_))) ?_)
  · rintro σ0 σ hw ⟨k, hk, x3, L, hA, h, rfl⟩
    rcases k with _ | n
    · simp [go_ref30_formed_J1] at h
    · rw [go_ref30_formed_J1] at h
      refine sat_weak hw ?_
      repeat refine sat_seq ?_
      refine sat_cond rfl (fun hb => ?_) (fun hb => ?_)
      · have h := ite_t hb h
        repeat refine sat_seq ?_
        refine satO_reg ?_
        have g0 := hA.get (k := 0) rfl
        refine satO_step 1 [] ⟨an 1 (.ptr (lv + 1) i2 0 :: .bool false :: an 10 (.bool x3 :: an 38 [])), ⟨lv + 1, L, E⟩, [], E⟩ [] (by simp -implicitDefEqProofs [GOver.cs, g0]) claims_nil ?_
        refine satO_nil (by simp) ?_
        repeat refine sat_seq ?_
        refine sat_ret ?_
        have g0 := hA.get (k := 0) rfl
        refine ends (v := .bool false) (by simp [resultsV, resL, resV, tupOf, Try.f50, pLoad, g0, GOver.cs]) rfl rfl ?_
        injection h with h
        subst h
        exact (.keep _ (by simp [V.kin, V.kinL, GOver.cs]))
      · have h := ite_f hb h
        repeat refine sat_seq ?_
        refine sat_skip ?_
        repeat refine sat_seq ?_
        refine satO_reg ?_
        have g0 := hA.get (k := 0) rfl
        refine satO_step 2 [] ⟨an 1 (.ptr (lv + 1) i2 0 :: an 11 (.bool x3 :: .ptr (lv + 1) i2 1 :: .int .u8 a0.kind :: an 36 [])), ⟨lv + 1, L, E⟩, [], E⟩ [] (by simp -implicitDefEqProofs [GOver.cs, g0]) claims_nil ?_
        refine satO_nil (by simp) ?_
        repeat refine sat_seq ?_
        refine sat_block ?_
        repeat refine sat_seq ?_
        refine satO_reg ?_
        have g0 := hA.get (k := 0) rfl
        refine satO_step 2 [] ⟨an 1 (.ptr (lv + 1) i2 0 :: an 11 (.bool x3 :: .ptr (lv + 1) i2 1 :: .int .u8 a0.kind :: .bool (a0.kind == 1) :: .bool (a0.kind == 1) :: an 34 [])), ⟨lv + 1, L, E⟩, [], E⟩ [] (by simp -implicitDefEqProofs [GOver.cs, g0]) claims_nil ?_
        refine satO_nil (by simp) ?_
        repeat refine sat_seq ?_
        refine sat_cond rfl (fun hb => ?_) (fun hb => ?_)
        · have h := ite_t hb h
          repeat refine sat_seq ?_
          refine satO_reg ?_
          have g0 := hA.get (k := 0) rfl
          refine satO_step 5 [] ⟨an 1 (.ptr (lv + 1) i2 0 :: .bool ((a0.name.length : Int) == 0) :: an 10 (.bool x3 :: .ptr (lv + 1) i2 1 :: .int .u8 a0.kind :: .bool (a0.kind == 1) :: .bool (a0.kind == 1) :: .ptr (lv + 1) i2 2 :: .str a0.name :: .int .i64 (a0.name.length : Int) :: .bool ((a0.name.length : Int) == 0) :: an 30 [])), ⟨lv + 1, L, E⟩, [], E⟩ [] (by simp -implicitDefEqProofs [GOver.cs, g0]) claims_nil ?_
          refine satO_nil (by simp) ?_
          repeat refine sat_seq ?_
          refine sat_ret ?_
          have g0 := hA.get (k := 0) rfl
          refine ends (v := .bool ((a0.name.length : Int) == 0)) (by simp [resultsV, resL, resV, tupOf, Try.f50, pLoad, g0, GOver.cs]) rfl rfl ?_
          injection h with h
          subst h
          exact (.keep _ (by simp [V.kin, V.kinL, GOver.cs]))
        · have h := ite_f hb h
          repeat refine sat_seq ?_
          refine satO_reg ?_
          have g0 := hA.get (k := 0) rfl
          refine satO_step 2 [] ⟨an 1 (.ptr (lv + 1) i2 0 :: an 11 (.bool x3 :: .ptr (lv + 1) i2 1 :: .int .u8 a0.kind :: .bool (a0.kind == 1) :: .bool (a0.kind == 1) :: an 4 (.bool (a0.kind == 2) :: .bool (a0.kind == 2) :: an 28 []))), ⟨lv + 1, L, E⟩, [], E⟩ [] (by simp -implicitDefEqProofs [GOver.cs, g0]) claims_nil ?_
          refine satO_nil (by simp) ?_
          repeat refine sat_seq ?_
          refine sat_cond rfl (fun hb => ?_) (fun hb => ?_)
          · have h := ite_t hb h
            repeat refine sat_seq ?_
            refine satO_reg ?_
            obtain ⟨y8, q9, h⟩ := bnd_hi h
            have g0 := hA.get (k := 0) rfl
            refine satO_step 4 [(.bool y8, none)] ⟨an 1 (.ptr (lv + 1) i2 0 :: .bool y8 :: an 10 (.bool x3 :: .ptr (lv + 1) i2 1 :: .int .u8 a0.kind :: .bool (a0.kind == 1) :: .bool (a0.kind == 1) :: an 4 (.bool (a0.kind == 2) :: .bool (a0.kind == 2) :: .ptr (lv + 1) i2 2 :: .str a0.name :: .bool y8 :: an 25 []))), ⟨lv + 1, L, E⟩, [], E⟩ [⟨66, [.str a0.name], ⟨lv + 1, L, E⟩, .bool y8, ⟨lv + 1, L, E⟩⟩] (by simp -implicitDefEqProofs [GOver.cs, g0]) (claims_cons (go_ref02_Name_ok _ _ _ q9 _) claims_nil) ?_
            refine satO_nil (by simp) ?_
            repeat refine sat_seq ?_
            refine sat_ret ?_
            have g0 := hA.get (k := 0) rfl
            refine ends (v := .bool y8) (by simp [resultsV, resL, resV, tupOf, Try.f50, pLoad, g0, GOver.cs]) rfl rfl ?_
            injection h with h
            subst h
            exact (.keep _ (by simp [V.kin, V.kinL, GOver.cs]))
          · have h := ite_f hb h
            repeat refine sat_seq ?_
            refine satO_reg ?_
            have g0 := hA.get (k := 0) rfl
            refine satO_step 2 [] ⟨an 1 (.ptr (lv + 1) i2 0 :: an 11 (.bool x3 :: .ptr (lv + 1) i2 1 :: .int .u8 a0.kind :: .bool (a0.kind == 1) :: .bool (a0.kind == 1) :: an 4 (.bool (a0.kind == 2) :: .bool (a0.kind == 2) :: an 3 (.bool (a0.kind == 3) :: .bool (a0.kind == 3) :: an 23 [])))), ⟨lv + 1, L, E⟩, [], E⟩ [] (by simp -implicitDefEqProofs [GOver.cs, g0]) claims_nil ?_
            refine satO_nil (by simp) ?_
            repeat refine sat_seq ?_
            refine sat_cond rfl (fun hb => ?_) (fun hb => ?_)
            · have h := ite_t hb h
              repeat refine sat_seq ?_
              refine satO_reg ?_
              have g0 := hA.get (k := 0) rfl
              refine satO_step 1 [] ⟨an 1 (.ptr (lv + 1) i2 0 :: an 1 (.int .i64 0 :: an 9 (.bool x3 :: .ptr (lv + 1) i2 1 :: .int .u8 a0.kind :: .bool (a0.kind == 1) :: .bool (a0.kind == 1) :: an 4 (.bool (a0.kind == 2) :: .bool (a0.kind == 2) :: an 3 (.bool (a0.kind == 3) :: .bool (a0.kind == 3) :: an 23 []))))), ⟨lv + 1, L, E⟩, [], E⟩ [] (by simp -implicitDefEqProofs [GOver.cs, g0]) claims_nil ?_
              refine satO_nil (by simp) ?_
              repeat refine sat_seq ?_
              refine sat_block ?_
              repeat refine sat_seq ?_
              refine sat_loop (fun k σ => ∃ (x10 : Int) (L : List (Option AObj)), k ≤ n ∧ AccG (lv + 1) L [] [(i2, .cells a0.cs)] ∧ go_ref30_formed_L1 k a0 x10 = some r ∧ σ = ⟨an 1 (.ptr (lv + 1) i2 0 :: an 1 (.int .i64 x10 :: an 48 [])), ⟨lv + 1, L, E⟩, [], E⟩) n ⟨an 1 (.ptr (lv + 1) i2 0 :: an 1 (.int .i64 0 :: an 48 [])), ⟨lv + 1, L, E⟩, [], E⟩ (weak_tmps ?_) ⟨0, L, Nat.le_refl _, hA, h, rfl⟩ ?_
              · (try simp only [an, List.map_cons, List.map_nil]); repeat (first | exact VLeL.nil | refine VLeL.cons (by first | exact VLe.refl _ | exact VLe.any _ | exact VLe.nil _ _ | exact VLe.full _ _ | (refine VLe.agg' ?_; repeat (first | exact VLeL.nil | refine VLeL.cons (by first | exact VLe.refl _ | exact VLe.any _ | exact VLe.nil _ _) ?_))) ?_)
              · rintro k σ ⟨x10, L, hk, hA, h, rfl⟩
                rcases k with _ | n
                · simp [go_ref30_formed_L1] at h
                · rw [go_ref30_formed_L1] at h
                  repeat refine sat_seq ?_
                  refine satO_reg ?_
                  have g0 := hA.get (k := 0) rfl
                  refine satO_step 5 [] ⟨an 1 (.ptr (lv + 1) i2 0 :: an 1 (.int .i64 x10 :: an 25 (.int .i64 x10 :: .ptr (lv + 1) i2 2 :: .str a0.name :: .int .i64 (a0.name.length : Int) :: .bool (decide (x10 < (a0.name.length : Int))) :: an 18 []))), ⟨lv + 1, L, E⟩, [], E⟩ [] (by simp -implicitDefEqProofs [GOver.cs, g0]) claims_nil ?_
                  refine satO_nil (by simp) ?_
                  repeat refine sat_seq ?_
                  refine sat_cond rfl (fun hb => ?_) (fun hb => ?_)
                  · have h := ite_t hb h
                    repeat refine sat_seq ?_
                    refine sat_skip ?_
                    repeat refine sat_seq ?_
                    refine sat_block ?_
                    repeat refine sat_seq ?_
                    refine sat_meet (fun σ => ∃ (k : Nat), k ≤ n ∧ ∃ (x11 : Bool) (L : List (Option AObj)), AccG (lv + 1) L [] [(i2, .cells a0.cs)] ∧ go_ref30_formed_J2 k a0 x10 x11 = some r ∧ σ = ⟨an 1 (.ptr (lv + 1) i2 0 :: an 1 (.int .i64 x10 :: an 43 (.bool x11 :: an 4 []))), ⟨lv + 1, L, E⟩, [], E⟩) ?_ ?_
                    · refine satO_reg ?_
                      obtain ⟨x12, q13, h⟩ := bnd_hi h
                      obtain ⟨q13, q14⟩ := ix_some q13
                      rcases Bool.eq_false_or_eq_true (decide ((x12.toNat : Int) < 32)) with hg15 | hg16
                      · have h := ite_t hg15 h
                        have hg15n := hg15
                        try simp at hg15n
                        have g0 := hA.get (k := 0) rfl
                        refine satO_step 12 [] ⟨an 1 (.ptr (lv + 1) i2 0 :: an 1 (.int .i64 x10 :: an 25 (.int .i64 x10 :: .ptr (lv + 1) i2 2 :: .str a0.name :: .int .i64 (a0.name.length : Int) :: .bool (decide (x10 < (a0.name.length : Int))) :: an 2 (.ptr (lv + 1) i2 2 :: .str a0.name :: .int .i64 x10 :: .int .u8 (x12.toNat : Int) :: .bool (decide ((x12.toNat : Int) < 32)) :: .bool (decide ((x12.toNat : Int) < 32)) :: .tup [] :: .tup [] :: .tup [] :: .tup [] :: .tup [] :: .bool true :: an 4 [])))), ⟨lv + 1, L, E⟩, [], E⟩ [] (by first | (simp -implicitDefEqProofs [GOver.cs, g0, q13, q14, hg15]; done) | simp -implicitDefEqProofs [GOver.cs, g0, q13, q14, hg15, hg15n]) claims_nil ?_
                        refine satO_nil (by simp) ?_
                        refine ⟨⟨an 1 (.ptr (lv + 1) i2 0 :: an 1 (.int .i64 x10 :: an 43 (.bool true :: an 4 []))), ⟨lv + 1, L, E⟩, [], E⟩, weak_tmps ?_, n, by omega, true, L, hA, h, rfl⟩
                        (try simp only [an, List.map_cons, List.map_nil]); repeat (first | exact VLeL.nil | refine VLeL.cons (by first | exact VLe.refl _ | exact VLe.any _ | exact VLe.nil _ _ | exact VLe.full _ _ | (refine VLe.agg' ?_; repeat (first | exact VLeL.nil | refine VLeL.cons (by first | exact VLe.refl _ | exact VLe.any _ | exact VLe.nil _ _) ?_))) ?_)
                      · have h := ite_f hg16 h
                        have hg16n := hg16
                        try simp at hg16n
                        have g0 := hA.get (k := 0) rfl
                        refine satO_step 12 [] ⟨an 1 (.ptr (lv + 1) i2 0 :: an 1 (.int .i64 x10 :: an 25 (.int .i64 x10 :: .ptr (lv + 1) i2 2 :: .str a0.name :: .int .i64 (a0.name.length : Int) :: .bool (decide (x10 < (a0.name.length : Int))) :: an 2 (.ptr (lv + 1) i2 2 :: .str a0.name :: .int .i64 x10 :: .int .u8 (x12.toNat : Int) :: .bool (decide ((x12.toNat : Int) < 32)) :: .bool (decide ((x12.toNat : Int) < 32)) :: .ptr (lv + 1) i2 2 :: .str a0.name :: .int .i64 x10 :: .int .u8 (x12.toNat : Int) :: .bool (decide (126 < (x12.toNat : Int))) :: .bool (decide (126 < (x12.toNat : Int))) :: an 4 [])))), ⟨lv + 1, L, E⟩, [], E⟩ [] (by first | (simp -implicitDefEqProofs [GOver.cs, g0, q13, q14, hg16, q13, q14]; done) | simp -implicitDefEqProofs [GOver.cs, g0, q13, q14, hg16, q13, q14, hg16n]) claims_nil ?_
                        refine satO_nil (by simp) ?_
                        refine ⟨⟨an 1 (.ptr (lv + 1) i2 0 :: an 1 (.int .i64 x10 :: an 43 (.bool (decide (126 < (x12.toNat : Int))) :: an 4 []))), ⟨lv + 1, L, E⟩, [], E⟩, weak_tmps ?_, n, by omega, (decide (126 < (x12.toNat : Int))), L, hA, h, rfl⟩
                        (try simp only [an, List.map_cons, List.map_nil]); repeat (first | exact VLeL.nil | refine VLeL.cons (by first | exact VLe.refl _ | exact VLe.any _ | exact VLe.nil _ _ | exact VLe.full _ _ | (refine VLe.agg' ?_; repeat (first | exact VLeL.nil | refine VLeL.cons (by first | exact VLe.refl _ | exact VLe.any _ | exact VLe.nil _ _) ?_))) ?_)
                    · rintro σ0 σ hw ⟨k, hk, x11, L, hA, h, rfl⟩
                      rcases k with _ | n
                      · simp [go_ref30_formed_J2] at h
                      · rw [go_ref30_formed_J2] at h
                        refine sat_weak hw ?_
                        repeat refine sat_seq ?_
                        refine sat_cond rfl (fun hb => ?_) (fun hb => ?_)
                        · have h := ite_t hb h
                          repeat refine sat_seq ?_
                          refine satO_reg ?_
                          have g0 := hA.get (k := 0) rfl
                          refine satO_step 1 [] ⟨an 1 (.ptr (lv + 1) i2 0 :: .bool false :: .int .i64 x10 :: an 43 (.bool x11 :: an 4 [])), ⟨lv + 1, L, E⟩, [], E⟩ [] (by simp -implicitDefEqProofs [GOver.cs, g0]) claims_nil ?_
                          refine satO_nil (by simp) ?_
                          repeat refine sat_seq ?_
                          refine sat_ret ?_
                          have g0 := hA.get (k := 0) rfl
                          refine ends (v := .bool false) (by simp [resultsV, resL, resV, tupOf, Try.f50, pLoad, g0, GOver.cs]) rfl rfl ?_
                          injection h with h
                          subst h
                          exact (.keep _ (by simp [V.kin, V.kinL, GOver.cs]))
                        · have h := ite_f hb h
                          repeat refine sat_seq ?_
                          refine sat_skip ?_
                          repeat refine sat_seq ?_
                          refine satO_reg ?_
                          have g0 := hA.get (k := 0) rfl
                          refine satO_step 3 [] ⟨an 1 (.ptr (lv + 1) i2 0 :: an 1 (.int .i64 (IntKind.i64.wrap (x10 + 1)) :: an 30 (.int .i64 x10 :: .int .i64 (IntKind.i64.wrap (x10 + 1)) :: an 11 (.bool x11 :: an 4 [])))), ⟨lv + 1, L, E⟩, [], E⟩ [] (by simp -implicitDefEqProofs [GOver.cs, g0]) claims_nil ?_
                          refine satO_nil (by simp) ?_
                          refine ⟨n, ⟨an 1 (.ptr (lv + 1) i2 0 :: an 1 (.int .i64 (IntKind.i64.wrap (x10 + 1)) :: an 48 [])), ⟨lv + 1, L, E⟩, [], E⟩, weak_tmps ?_, ⟨(IntKind.i64.wrap (x10 + 1)), L, by omega, hA, h, rfl⟩, by omega⟩
                          (try simp only [an, List.map_cons, List.map_nil]); repeat (first | exact VLeL.nil | refine VLeL.cons (by first | exact VLe.refl _ | exact VLe.any _ | exact VLe.nil _ _ | exact VLe.full _ _ | (refine VLe.agg' ?_; repeat (first | exact VLeL.nil | refine VLeL.cons (by first | exact VLe.refl _ | exact VLe.any _ | exact VLe.nil _ _) ?_))) ?_)
                  · have h := ite_f hb h
                    repeat refine sat_seq ?_
                    refine sat_exit ?_
                    repeat refine sat_seq ?_
                    refine satO_reg ?_
                    have g0 := hA.get (k := 0) rfl
                    refine satO_step 5 [] ⟨an 1 (.ptr (lv + 1) i2 0 :: .bool (decide ((a0.name.length : Int) ≤ 60)) :: .int .i64 x10 :: an 25 (.int .i64 x10 :: .ptr (lv + 1) i2 2 :: .str a0.name :: .int .i64 (a0.name.length : Int) :: .bool (decide (x10 < (a0.name.length : Int))) :: an 14 (.ptr (lv + 1) i2 2 :: .str a0.name :: .int .i64 (a0.name.length : Int) :: .bool (decide ((a0.name.length : Int) ≤ 60)) :: []))), ⟨lv + 1, L, E⟩, [], E⟩ [] (by simp -implicitDefEqProofs [GOver.cs, g0]) claims_nil ?_
                    refine satO_nil (by simp) ?_
                    repeat refine sat_seq ?_
                    refine sat_ret ?_
                    have g0 := hA.get (k := 0) rfl
                    refine ends (v := .bool (decide ((a0.name.length : Int) ≤ 60))) (by simp [resultsV, resL, resV, tupOf, Try.f50, pLoad, g0, GOver.cs]) rfl rfl ?_
                    injection h with h
                    subst h
                    exact (.keep _ (by simp [V.kin, V.kinL, GOver.cs]))
            · have h := ite_f hb h
              repeat refine sat_seq ?_
              refine sat_skip ?_
              repeat refine sat_seq ?_
              refine satO_reg ?_
              have g0 := hA.get (k := 0) rfl
              refine satO_step 1 [] ⟨an 1 (.ptr (lv + 1) i2 0 :: .bool false :: an 10 (.bool x3 :: .ptr (lv + 1) i2 1 :: .int .u8 a0.kind :: .bool (a0.kind == 1) :: .bool (a0.kind == 1) :: an 4 (.bool (a0.kind == 2) :: .bool (a0.kind == 2) :: an 3 (.bool (a0.kind == 3) :: .bool (a0.kind == 3) :: an 23 [])))), ⟨lv + 1, L, E⟩, [], E⟩ [] (by simp -implicitDefEqProofs [GOver.cs, g0]) claims_nil ?_
              refine satO_nil (by simp) ?_
              repeat refine sat_seq ?_
              refine sat_ret ?_
              have g0 := hA.get (k := 0) rfl
              refine ends (v := .bool false) (by simp [resultsV, resL, resV, tupOf, Try.f50, pLoad, g0, GOver.cs]) rfl rfl ?_
              injection h with h
              subst h
              exact (.keep _ (by simp [V.kin, V.kinL, GOver.cs]))
end Go.Proofs

namespace Go.Proofs
open Go Go.Ab
set_option maxRecDepth 10000
set_option maxHeartbeats 1000000
set_option linter.unusedSimpArgs false
set_option linter.unusedVariables false
theorem go_ref30_Formed_ok (n : Nat) (a0 : List GOver) (r : Int) (h : go_ref30_Formed n a0 = some r) : PCall Try.prog 34 [.sl 3 (a0.map GOver.el) false] (.int .i64 r) := by
  rcases n with _ | n
  · simp [go_ref30_Formed] at h
  rw [go_ref30_Formed] at h
  refine pcall_of Try.func34 rfl Try.ntmps34 (fun _ _ => Try.call34 _ _) fun lv E => ?_
  simp only [List.length_cons, List.length_nil, Nat.reduceAdd, Nat.reduceSub, List.replicate, List.cons_append, List.nil_append]
  have hA := AccG.nil (lv + 1)
  generalize ([] : List (Option AObj)) = L at hA ⊢
  repeat refine sat_seq ?_
  refine satO_reg ?_
  refine satO_step 1 [] ⟨.sl 3 (a0.map GOver.el) false :: an 1 (.int .i64 0 :: an 16 []), ⟨lv + 1, L, E⟩, [], E⟩ [] (by simp -implicitDefEqProofs []) claims_nil ?_
  refine satO_nil (by simp) ?_
  repeat refine sat_seq ?_
  refine satO_reg ?_
  refine satO_step 3 [] ⟨.sl 3 (a0.map GOver.el) false :: an 1 (.int .i64 0 :: an 1 (.sl 3 (a0.map GOver.el) false :: .int .i64 (a0.length : Int) :: .bool (decide (60 < (a0.length : Int))) :: an 12 [])), ⟨lv + 1, L, E⟩, [], E⟩ [] (by simp -implicitDefEqProofs []) claims_nil ?_
  refine satO_nil (by simp) ?_
  repeat refine sat_seq ?_
  refine sat_cond rfl (fun hb => ?_) (fun hb => ?_)
  · have h := ite_t hb h
    repeat refine sat_seq ?_
    refine satO_reg ?_
    refine satO_step 1 [] ⟨.sl 3 (a0.map GOver.el) false :: an 1 (.int .i64 4 :: an 1 (.sl 3 (a0.map GOver.el) false :: .int .i64 (a0.length : Int) :: .bool (decide (60 < (a0.length : Int))) :: an 12 [])), ⟨lv + 1, L, E⟩, [], E⟩ [] (by simp -implicitDefEqProofs []) claims_nil ?_
    refine satO_nil (by simp) ?_
    repeat refine sat_seq ?_
    refine sat_ret ?_
    refine ends (v := .int .i64 4) (by simp [resultsV, resL, resV, tupOf, Try.f34, pLoad]) rfl rfl ?_
    injection h with h
    subst h
    exact (.keep _ (by simp [V.kin, V.kinL]))
  · have h := ite_f hb h
    repeat refine sat_seq ?_
    refine sat_skip ?_
    repeat refine sat_seq ?_
    refine satO_reg ?_
    refine satO_step 1 [] ⟨.sl 3 (a0.map GOver.el) false :: an 1 (.int .i64 0 :: .int .i64 0 :: .sl 3 (a0.map GOver.el) false :: .int .i64 (a0.length : Int) :: .bool (decide (60 < (a0.length : Int))) :: an 12 []), ⟨lv + 1, L, E⟩, [], E⟩ [] (by simp -implicitDefEqProofs []) claims_nil ?_
    refine satO_nil (by simp) ?_
    repeat refine sat_seq ?_
    refine sat_block ?_
    repeat refine sat_seq ?_
    refine sat_loop (fun k σ => ∃ (x1 : Int) (L : List (Option AObj)), k ≤ n ∧ AccG (lv + 1) L [] [] ∧ go_ref30_Formed_L1 k a0 x1 = some r ∧ σ = ⟨.sl 3 (a0.map GOver.el) false :: an 2 (.int .i64 x1 :: an 15 []), ⟨lv + 1, L, E⟩, [], E⟩) n ⟨.sl 3 (a0.map GOver.el) false :: an 2 (.int .i64 0 :: an 15 []), ⟨lv + 1, L, E⟩, [], E⟩ (weak_tmps ?_) ⟨0, L, Nat.le_refl _, hA, h, rfl⟩ ?_
    · (try simp only [an, List.map_cons, List.map_nil]); repeat (first | exact VLeL.nil | refine VLeL.cons (by first | exact VLe.refl _ | exact VLe.any _ | exact VLe.nil _ _ | exact VLe.full _ _ | (refine VLe.agg' ?_; repeat (first | exact VLeL.nil | refine VLeL.cons (by first | exact VLe.refl _ | exact VLe.any _ | exact VLe.nil _ _) ?_))) ?_)
    · rintro k σ ⟨x1, L, hk, hA, h, rfl⟩
      rcases k with _ | n
      · simp [go_ref30_Formed_L1] at h
      · rw [go_ref30_Formed_L1] at h
        repeat refine sat_seq ?_
        refine satO_reg ?_
        refine satO_step 4 [] ⟨.sl 3 (a0.map GOver.el) false :: an 2 (.int .i64 x1 :: an 3 (.int .i64 x1 :: .sl 3 (a0.map GOver.el) false :: .int .i64 (a0.length : Int) :: .bool (decide (x1 < (a0.length : Int))) :: an 8 [])), ⟨lv + 1, L, E⟩, [], E⟩ [] (by simp -implicitDefEqProofs []) claims_nil ?_
        refine satO_nil (by simp) ?_
        repeat refine sat_seq ?_
        refine sat_cond rfl (fun hb => ?_) (fun hb => ?_)
        · have h := ite_t hb h
          repeat refine sat_seq ?_
          refine sat_skip ?_
          repeat refine sat_seq ?_
          refine sat_block ?_
          repeat refine sat_seq ?_
          refine satO_reg ?_
          obtain ⟨x2, q3, h⟩ := bnd_hi h
          obtain ⟨q3, q4⟩ := ix_some q3
          obtain ⟨y5, q6, h⟩ := bnd_hi h
          refine satO_step 6 [(.bool y5, none)] ⟨.sl 3 (a0.map GOver.el) false :: an 2 (.int .i64 x1 :: an 3 (.int .i64 x1 :: .sl 3 (a0.map GOver.el) false :: .int .i64 (a0.length : Int) :: .bool (decide (x1 < (a0.length : Int))) :: an 2 (.sl 3 (a0.map GOver.el) false :: .int .i64 x1 :: .ref x2.cs 0 :: .agg x2.cs :: .bool y5 :: .bool (!y5) :: []))), ⟨lv + 1, L, E⟩, [], E⟩ [⟨50, [.agg x2.cs], ⟨lv + 1, L, E⟩, .bool y5, ⟨lv + 1, L, E⟩⟩] (by simp -implicitDefEqProofs [GOver.cs, q3, q4, GOver.el_cs]) (claims_cons (go_ref30_formed_ok _ _ _ q6 _) claims_nil) ?_
          refine satO_nil (by simp) ?_
          repeat refine sat_seq ?_
          refine sat_cond rfl (fun hb => ?_) (fun hb => ?_)
          · have h := ite_t hb h
            repeat refine sat_seq ?_
            refine satO_reg ?_
            refine satO_step 1 [] ⟨.sl 3 (a0.map GOver.el) false :: an 1 (.int .i64 8 :: .int .i64 x1 :: an 3 (.int .i64 x1 :: .sl 3 (a0.map GOver.el) false :: .int .i64 (a0.length : Int) :: .bool (decide (x1 < (a0.length : Int))) :: an 2 (.sl 3 (a0.map GOver.el) false :: .int .i64 x1 :: .ref x2.cs 0 :: .agg x2.cs :: .bool y5 :: .bool (!y5) :: []))), ⟨lv + 1, L, E⟩, [], E⟩ [] (by simp -implicitDefEqProofs [GOver.cs]) claims_nil ?_
            refine satO_nil (by simp) ?_
            repeat refine sat_seq ?_
            refine sat_ret ?_
            refine ends (v := .int .i64 8) (by simp [resultsV, resL, resV, tupOf, Try.f34, pLoad, GOver.cs]) rfl rfl ?_
            injection h with h
            subst h
            exact (.keep _ (by simp [V.kin, V.kinL, GOver.cs]))
          · have h := ite_f hb h
            repeat refine sat_seq ?_
            refine sat_skip ?_
            repeat refine sat_seq ?_
            refine satO_reg ?_
            refine satO_step 3 [] ⟨.sl 3 (a0.map GOver.el) false :: an 2 (.int .i64 (IntKind.i64.wrap (x1 + 1)) :: an 3 (.int .i64 x1 :: .sl 3 (a0.map GOver.el) false :: .int .i64 (a0.length : Int) :: .bool (decide (x1 < (a0.length : Int))) :: .int .i64 x1 :: .int .i64 (IntKind.i64.wrap (x1 + 1)) :: .sl 3 (a0.map GOver.el) false :: .int .i64 x1 :: .ref x2.cs 0 :: .agg x2.cs :: .bool y5 :: .bool (!y5) :: [])), ⟨lv + 1, L, E⟩, [], E⟩ [] (by simp -implicitDefEqProofs [GOver.cs]) claims_nil ?_
            refine satO_nil (by simp) ?_
            refine ⟨n, ⟨.sl 3 (a0.map GOver.el) false :: an 2 (.int .i64 (IntKind.i64.wrap (x1 + 1)) :: an 15 []), ⟨lv + 1, L, E⟩, [], E⟩, weak_tmps ?_, ⟨(IntKind.i64.wrap (x1 + 1)), L, by omega, hA, h, rfl⟩, by omega⟩
            (try simp only [an, List.map_cons, List.map_nil]); repeat (first | exact VLeL.nil | refine VLeL.cons (by first | exact VLe.refl _ | exact VLe.any _ | exact VLe.nil _ _ | exact VLe.full _ _ | (refine VLe.agg' ?_; repeat (first | exact VLeL.nil | refine VLeL.cons (by first | exact VLe.refl _ | exact VLe.any _ | exact VLe.nil _ _) ?_))) ?_)
        · have h := ite_f hb h
          repeat refine sat_seq ?_
          refine sat_exit ?_
          repeat refine sat_seq ?_
          refine satO_reg ?_
          refine satO_step 1 [] ⟨.sl 3 (a0.map GOver.el) false :: an 1 (.int .i64 0 :: .int .i64 x1 :: an 3 (.int .i64 x1 :: .sl 3 (a0.map GOver.el) false :: .int .i64 (a0.length : Int) :: .bool (decide (x1 < (a0.length : Int))) :: an 8 [])), ⟨lv + 1, L, E⟩, [], E⟩ [] (by simp -implicitDefEqProofs [GOver.cs]) claims_nil ?_
          refine satO_nil (by simp) ?_
          repeat refine sat_seq ?_
          refine sat_ret ?_
          refine ends (v := .int .i64 0) (by simp [resultsV, resL, resV, tupOf, Try.f34, pLoad, GOver.cs]) rfl rfl ?_
          injection h with h
          subst h
          exact (.keep _ (by simp [V.kin, V.kinL, GOver.cs]))
end Go.Proofs

namespace Go.Proofs
open Go Go.Ab
set_option maxRecDepth 10000
set_option maxHeartbeats 1000000
set_option linter.unusedSimpArgs false
set_option linter.unusedVariables false
theorem go_ref27_Find_ok (n : Nat) (a0 : List GNode) (a1 : List UInt8) (r : Int × Int) (h : go_ref27_Find n a0 a1 = some r) : PCall Try.prog 8 [.sl 13 (a0.map GNode.el) false, .str a1] (.tup [.int .i64 r.1, .int .i64 r.2]) := by
  rcases n with _ | n
  · simp [go_ref27_Find] at h
  rw [go_ref27_Find] at h
  refine pcall_of Try.func8 rfl Try.ntmps8 (fun _ _ => Try.call8 _ _) fun lv E => ?_
  simp only [List.length_cons, List.length_nil, Nat.reduceAdd, Nat.reduceSub, List.replicate, List.cons_append, List.nil_append]
  have hA := AccG.nil (lv + 1)
  generalize ([] : List (Option AObj)) = L at hA ⊢
  repeat refine sat_seq ?_
  refine satO_reg ?_
  refine satO_step 2 [] ⟨.sl 13 (a0.map GNode.el) false :: .str a1 :: an 2 (.int .i64 0 :: .int .i64 0 :: an 15 []), ⟨lv + 1, L, E⟩, [], E⟩ [] (by simp -implicitDefEqProofs []) claims_nil ?_
  refine satO_nil (by simp) ?_
  repeat refine sat_seq ?_
  refine satO_reg ?_
  refine satO_step 1 [] ⟨.sl 13 (a0.map GNode.el) false :: .str a1 :: an 2 (.int .i64 0 :: .int .i64 0 :: .int .i64 0 :: an 14 []), ⟨lv + 1, L, E⟩, [], E⟩ [] (by simp -implicitDefEqProofs []) claims_nil ?_
  refine satO_nil (by simp) ?_
  repeat refine sat_seq ?_
  refine sat_block ?_
  repeat refine sat_seq ?_
  refine sat_loop (fun k σ => ∃ (x1 : Int) (L : List (Option AObj)), k ≤ n ∧ AccG (lv + 1) L [] [] ∧ go_ref27_Find_L1 k a0 a1 x1 = some r ∧ σ = ⟨.sl 13 (a0.map GNode.el) false :: .str a1 :: an 4 (.int .i64 x1 :: an 14 []), ⟨lv + 1, L, E⟩, [], E⟩) n ⟨.sl 13 (a0.map GNode.el) false :: .str a1 :: an 4 (.int .i64 0 :: an 14 []), ⟨lv + 1, L, E⟩, [], E⟩ (weak_tmps ?_) ⟨0, L, Nat.le_refl _, hA, h, rfl⟩ ?_
  · (try simp only [an, List.map_cons, List.map_nil]); repeat (first | exact VLeL.nil | refine VLeL.cons (by first | exact VLe.refl _ | exact VLe.any _ | exact VLe.nil _ _ | exact VLe.full _ _ | (refine VLe.agg' ?_; repeat (first | exact VLeL.nil | refine VLeL.cons (by first | exact VLe.refl _ | exact VLe.any _ | exact VLe.nil _ _) ?_))) ?_)
  · rintro k σ ⟨x1, L, hk, hA, h, rfl⟩
    rcases k with _ | n
    · simp [go_ref27_Find_L1] at h
    · rw [go_ref27_Find_L1] at h
      repeat refine sat_seq ?_
      refine satO_reg ?_
      refine satO_step 4 [] ⟨.sl 13 (a0.map GNode.el) false :: .str a1 :: an 4 (.int .i64 x1 :: .int .i64 x1 :: .sl 13 (a0.map GNode.el) false :: .int .i64 (a0.length : Int) :: .bool (decide (x1 < (a0.length : Int))) :: an 10 []), ⟨lv + 1, L, E⟩, [], E⟩ [] (by simp -implicitDefEqProofs []) claims_nil ?_
      refine satO_nil (by simp) ?_
      repeat refine sat_seq ?_
      refine sat_cond rfl (fun hb => ?_) (fun hb => ?_)
      · have h := ite_t hb h
        repeat refine sat_seq ?_
        refine sat_skip ?_
        repeat refine sat_seq ?_
        refine sat_block ?_
        repeat refine sat_seq ?_
        refine satO_reg ?_
        obtain ⟨x2, q3, h⟩ := bnd_hi h
        obtain ⟨q3, q4⟩ := ix_some q3
        refine satO_step 7 [] ⟨.sl 13 (a0.map GNode.el) false :: .str a1 :: an 4 (.int .i64 x1 :: .int .i64 x1 :: .sl 13 (a0.map GNode.el) false :: .int .i64 (a0.length : Int) :: .bool (decide (x1 < (a0.length : Int))) :: an 2 (.sl 13 (a0.map GNode.el) false :: .int .i64 x1 :: .ref x2.cs 0 :: .ref x2.cs 0 :: .str x2.path :: .str a1 :: .bool (x2.path == a1) :: an 1 [])), ⟨lv + 1, L, E⟩, [], E⟩ [] (by simp -implicitDefEqProofs [GNode.cs, q3, q4, GNode.el_cs]) claims_nil ?_
        refine satO_nil (by simp) ?_
        repeat refine sat_seq ?_
        refine sat_cond rfl (fun hb => ?_) (fun hb => ?_)
        · have h := ite_t hb h
          repeat refine sat_seq ?_
          refine satO_reg ?_
          refine satO_step 3 [] ⟨.sl 13 (a0.map GNode.el) false :: .str a1 :: an 2 (.int .i64 x1 :: .int .i64 0 :: .int .i64 x1 :: .int .i64 x1 :: .sl 13 (a0.map GNode.el) false :: .int .i64 (a0.length : Int) :: .bool (decide (x1 < (a0.length : Int))) :: an 2 (.sl 13 (a0.map GNode.el) false :: .int .i64 x1 :: .ref x2.cs 0 :: .ref x2.cs 0 :: .str x2.path :: .str a1 :: .bool (x2.path == a1) :: .int .i64 x1 :: [])), ⟨lv + 1, L, E⟩, [], E⟩ [] (by simp -implicitDefEqProofs [GNode.cs]) claims_nil ?_
          refine satO_nil (by simp) ?_
          repeat refine sat_seq ?_
          refine sat_ret ?_
          refine ends (v := .tup [.int .i64 x1, .int .i64 0]) (by simp [resultsV, resL, resV, tupOf, Try.f8, pLoad, GNode.cs]) rfl rfl ?_
          injection h with h
          subst h
          exact .keep _ (by simp [V.kin, V.kinL, GNode.cs])
        · have h := ite_f hb h
          repeat refine sat_seq ?_
          refine sat_skip ?_
          repeat refine sat_seq ?_
          refine satO_reg ?_
          refine satO_step 3 [] ⟨.sl 13 (a0.map GNode.el) false :: .str a1 :: an 4 (.int .i64 (IntKind.i64.wrap (x1 + 1)) :: .int .i64 x1 :: .sl 13 (a0.map GNode.el) false :: .int .i64 (a0.length : Int) :: .bool (decide (x1 < (a0.length : Int))) :: .int .i64 x1 :: .int .i64 (IntKind.i64.wrap (x1 + 1)) :: .sl 13 (a0.map GNode.el) false :: .int .i64 x1 :: .ref x2.cs 0 :: .ref x2.cs 0 :: .str x2.path :: .str a1 :: .bool (x2.path == a1) :: an 1 []), ⟨lv + 1, L, E⟩, [], E⟩ [] (by simp -implicitDefEqProofs [GNode.cs]) claims_nil ?_
          refine satO_nil (by simp) ?_
          refine ⟨n, ⟨.sl 13 (a0.map GNode.el) false :: .str a1 :: an 4 (.int .i64 (IntKind.i64.wrap (x1 + 1)) :: an 14 []), ⟨lv + 1, L, E⟩, [], E⟩, weak_tmps ?_, ⟨(IntKind.i64.wrap (x1 + 1)), L, by omega, hA, h, rfl⟩, by omega⟩
          (try simp only [an, List.map_cons, List.map_nil]); repeat (first | exact VLeL.nil | refine VLeL.cons (by first | exact VLe.refl _ | exact VLe.any _ | exact VLe.nil _ _ | exact VLe.full _ _ | (refine VLe.agg' ?_; repeat (first | exact VLeL.nil | refine VLeL.cons (by first | exact VLe.refl _ | exact VLe.any _ | exact VLe.nil _ _) ?_))) ?_)
      · have h := ite_f hb h
        repeat refine sat_seq ?_
        refine sat_exit ?_
        repeat refine sat_seq ?_
        refine satO_reg ?_
        refine satO_step 2 [] ⟨.sl 13 (a0.map GNode.el) false :: .str a1 :: an 2 (.int .i64 0 :: .int .i64 6 :: .int .i64 x1 :: .int .i64 x1 :: .sl 13 (a0.map GNode.el) false :: .int .i64 (a0.length : Int) :: .bool (decide (x1 < (a0.length : Int))) :: an 10 []), ⟨lv + 1, L, E⟩, [], E⟩ [] (by simp -implicitDefEqProofs [GNode.cs]) claims_nil ?_
        refine satO_nil (by simp) ?_
        repeat refine sat_seq ?_
        refine sat_ret ?_
        refine ends (v := .tup [.int .i64 0, .int .i64 6]) (by simp [resultsV, resL, resV, tupOf, Try.f8, pLoad, GNode.cs]) rfl rfl ?_
        injection h with h
        subst h
        exact .keep _ (by simp [V.kin, V.kinL, GNode.cs])
end Go.Proofs

namespace Go.Proofs
open Go Go.Ab
set_option maxRecDepth 10000
set_option maxHeartbeats 1000000
set_option linter.unusedSimpArgs false
set_option linter.unusedVariables false
theorem go_ref30_Attach_ok (n : Nat) (a0 : List GNode) (a1 : List GOver) (r : (List Bool) × Int) (h : go_ref30_Attach n a0 a1 = some r) : PCall Try.prog 16 [.sl 13 (a0.map GNode.el) false, .sl 3 (a1.map GOver.el) false] (.tup [.sl 1 (r.1.map V.bool) false, .int .i64 r.2]) := by
  rcases n with _ | n
  · simp [go_ref30_Attach] at h
  rw [go_ref30_Attach] at h
  refine pcall_of Try.func16 rfl Try.ntmps16 (fun _ _ => Try.call16 _ _) fun lv E => ?_
  simp only [List.length_cons, List.length_nil, Nat.reduceAdd, Nat.reduceSub, List.replicate, List.cons_append, List.nil_append]
  have hA := AccG.nil (lv + 1)
  generalize ([] : List (Option AObj)) = L at hA ⊢
  repeat refine sat_seq ?_
  refine satO_reg ?_
  refine satO_step 2 [] ⟨.sl 13 (a0.map GNode.el) false :: .sl 3 (a1.map GOver.el) false :: an 2 (.nils :: .int .i64 0 :: an 31 []), ⟨lv + 1, L, E⟩, [], E⟩ [] (by simp -implicitDefEqProofs []) claims_nil ?_
  refine satO_nil (by simp) ?_
  repeat refine sat_seq ?_
  refine satO_reg ?_
  obtain ⟨y1, q2, h⟩ := bnd_hi h
  refine satO_step 3 [(.int .i64 y1, none)] ⟨.sl 13 (a0.map GNode.el) false :: .sl 3 (a1.map GOver.el) false :: an 2 (.nils :: .int .i64 0 :: an 4 (.sl 3 (a1.map GOver.el) false :: .int .i64 y1 :: .bool (!(y1 == 0)) :: an 24 [])), ⟨lv + 1, L, E⟩, [], E⟩ [⟨34, [.sl 3 (a1.map GOver.el) false], ⟨lv + 1, L, E⟩, .int .i64 y1, ⟨lv + 1, L, E⟩⟩] (by simp -implicitDefEqProofs []) (claims_cons (go_ref30_Formed_ok _ _ _ q2 _) claims_nil) ?_
  refine satO_nil (by simp) ?_
  repeat refine sat_seq ?_
  refine sat_cond rfl (fun hb => ?_) (fun hb => ?_)
  · have h := ite_t hb h
    repeat refine sat_seq ?_
    refine satO_reg ?_
    obtain ⟨y3, q4, h⟩ := bnd_hi h
    refine satO_step 4 [(.int .i64 y3, none)] ⟨.sl 13 (a0.map GNode.el) false :: .sl 3 (a1.map GOver.el) false :: an 2 (.nils :: .int .i64 y3 :: an 4 (.sl 3 (a1.map GOver.el) false :: .int .i64 y1 :: .bool (!(y1 == 0)) :: .sl 3 (a1.map GOver.el) false :: .int .i64 y3 :: an 22 [])), ⟨lv + 1, L, E⟩, [], E⟩ [⟨34, [.sl 3 (a1.map GOver.el) false], ⟨lv + 1, L, E⟩, .int .i64 y3, ⟨lv + 1, L, E⟩⟩] (by simp -implicitDefEqProofs []) (claims_cons (go_ref30_Formed_ok _ _ _ q4 _) claims_nil) ?_
    refine satO_nil (by simp) ?_
    repeat refine sat_seq ?_
    refine sat_ret ?_
    refine ends (v := .tup [.nils, .int .i64 y3]) (by simp [resultsV, resL, resV, tupOf, Try.f16, pLoad]) rfl rfl ?_
    injection h with h
    subst h
    exact VS.tup' (.cons (.nil _ _) (.cons (.keep _ (by simp [V.kin, V.kinL])) .nil))
  · have h := ite_f hb h
    repeat refine sat_seq ?_
    refine sat_skip ?_
    repeat refine sat_seq ?_
    refine satO_reg ?_
    refine satO_step 1 [] ⟨.sl 13 (a0.map GNode.el) false :: .sl 3 (a1.map GOver.el) false :: an 2 (.nils :: .int .i64 0 :: .nils :: an 3 (.sl 3 (a1.map GOver.el) false :: .int .i64 y1 :: .bool (!(y1 == 0)) :: an 24 [])), ⟨lv + 1, L, E⟩, [], E⟩ [] (by simp -implicitDefEqProofs []) claims_nil ?_
    refine satO_nil (by simp) ?_
    repeat refine sat_seq ?_
    refine satO_reg ?_
    refine satO_step 1 [] ⟨.sl 13 (a0.map GNode.el) false :: .sl 3 (a1.map GOver.el) false :: an 2 (.nils :: .int .i64 0 :: .nils :: .int .i64 0 :: an 2 (.sl 3 (a1.map GOver.el) false :: .int .i64 y1 :: .bool (!(y1 == 0)) :: an 24 [])), ⟨lv + 1, L, E⟩, [], E⟩ [] (by simp -implicitDefEqProofs []) claims_nil ?_
    refine satO_nil (by simp) ?_
    repeat refine sat_seq ?_
    refine sat_block ?_
    repeat refine sat_seq ?_
    have hA := hA.cons 4 1
    refine sat_loop (fun k σ => ∃ (x8 : Int) (v6 : V) (l7 : List Bool) (L : List (Option AObj)), k ≤ n ∧ AccG (lv + 1) L [⟨4, 1, v6, l7.map V.bool⟩] [] ∧ go_ref30_Attach_L1 k a0 a1 l7 x8 = some r ∧ σ = ⟨.sl 13 (a0.map GNode.el) false :: .sl 3 (a1.map GOver.el) false :: an 4 (v6 :: .int .i64 x8 :: an 29 []), ⟨lv + 1, L, E⟩, [], E⟩) n ⟨.sl 13 (a0.map GNode.el) false :: .sl 3 (a1.map GOver.el) false :: an 4 (.nils :: .int .i64 0 :: an 29 []), ⟨lv + 1, L, E⟩, [], E⟩ (weak_tmps ?_) ⟨0, .nils, ([]), L, Nat.le_refl _, hA, h, rfl⟩ ?_
    · (try simp only [an, List.map_cons, List.map_nil]); repeat (first | exact VLeL.nil | refine VLeL.cons (by first | exact VLe.refl _ | exact VLe.any _ | exact VLe.nil _ _ | exact VLe.full _ _ | (refine VLe.agg' ?_; repeat (first | exact VLeL.nil | refine VLeL.cons (by first | exact VLe.refl _ | exact VLe.any _ | exact VLe.nil _ _) ?_))) ?_)
    · rintro k σ ⟨x8, v6, l7, L, hk, hA, h, rfl⟩
      rcases k with _ | n
      · simp [go_ref30_Attach_L1] at h
      · rw [go_ref30_Attach_L1] at h
        repeat refine sat_seq ?_
        refine satO_reg ?_
        obtain ⟨w0a, w0b, w0c⟩ := hA.whole (j := 0) rfl
        refine satO_step 4 [] ⟨.sl 13 (a0.map GNode.el) false :: .sl 3 (a1.map GOver.el) false :: an 4 (v6 :: .int .i64 x8 :: an 7 (.int .i64 x8 :: .sl 3 (a1.map GOver.el) false :: .int .i64 (a1.length : Int) :: .bool (decide (x8 < (a1.length : Int))) :: an 18 [])), ⟨lv + 1, L, E⟩, [], E⟩ [] (by simp -implicitDefEqProofs [w0a, w0b, w0c]) claims_nil ?_
        refine satO_nil (by simp) ?_
        repeat refine sat_seq ?_
        refine sat_cond rfl (fun hb => ?_) (fun hb => ?_)
        · have h := ite_t hb h
          repeat refine sat_seq ?_
          refine sat_skip ?_
          repeat refine sat_seq ?_
          refine sat_block ?_
          repeat refine sat_seq ?_
          refine satO_reg ?_
          obtain ⟨x9, q10, h⟩ := bnd_hi h
          obtain ⟨q10, q11⟩ := ix_some q10
          obtain ⟨y12, q13, h⟩ := bnd_hi h
          obtain ⟨w0a, w0b, w0c⟩ := hA.whole (j := 0) rfl
          refine satO_step 12 [(.tup [.int .i64 y12.1, .int .i64 y12.2], none)] ⟨.sl 13 (a0.map GNode.el) false :: .sl 3 (a1.map GOver.el) false :: an 4 (v6 :: .int .i64 x8 :: .int .i64 y12.1 :: .int .i64 y12.2 :: an 5 (.int .i64 x8 :: .sl 3 (a1.map GOver.el) false :: .int .i64 (a1.length : Int) :: .bool (decide (x8 < (a1.length : Int))) :: an 2 (.tup [.int .i64 y12.1, .int .i64 y12.2] :: .sl 13 (a0.map GNode.el) false :: .sl 3 (a1.map GOver.el) false :: .int .i64 x8 :: .ref x9.cs 0 :: .ref x9.cs 0 :: .str x9.path :: .tup [.int .i64 y12.1, .int .i64 y12.2] :: .int .i64 y12.1 :: .int .i64 y12.2 :: an 6 []))), ⟨lv + 1, L, E⟩, [], E⟩ [⟨8, [.sl 13 (a0.map GNode.el) false, .str x9.path], ⟨lv + 1, L, E⟩, .tup [.int .i64 y12.1, .int .i64 y12.2], ⟨lv + 1, L, E⟩⟩] (by simp -implicitDefEqProofs [GOver.cs, w0a, w0b, w0c, q10, q11, GOver.el_cs]) (claims_cons (go_ref27_Find_ok _ _ _ _ q13 _) claims_nil) ?_
          refine satO_nil (by simp) ?_
          repeat refine sat_seq ?_
          refine satO_reg ?_
          obtain ⟨w0a, w0b, w0c⟩ := hA.whole (j := 0) rfl
          refine satO_step 4 [] ⟨.sl 13 (a0.map GNode.el) false :: .sl 3 (a1.map GOver.el) false :: an 4 (v6 :: .int .i64 x8 :: .int .i64 y12.1 :: .int .i64 y12.2 :: an 5 (.int .i64 x8 :: .sl 3 (a1.map GOver.el) false :: .int .i64 (a1.length : Int) :: .bool (decide (x8 < (a1.length : Int))) :: an 2 (.tup [.int .i64 y12.1, .int .i64 y12.2] :: .sl 13 (a0.map GNode.el) false :: .sl 3 (a1.map GOver.el) false :: .int .i64 x8 :: .ref x9.cs 0 :: .ref x9.cs 0 :: .str x9.path :: .tup [.int .i64 y12.1, .int .i64 y12.2] :: .int .i64 y12.1 :: .int .i64 y12.2 :: v6 :: .int .i64 y12.2 :: .bool (y12.2 == 0) :: .sl 1 [.bool (y12.2 == 0)] true :: an 2 []))), ⟨lv + 1, L, E⟩, [], E⟩ [] (by simp -implicitDefEqProofs [GOver.cs, w0a, w0b, w0c]) claims_nil ?_
          obtain ⟨l14, q15, h⟩ := bnd_hi h
          obtain ⟨q15, q16⟩ := ext_some q15
          obtain ⟨v17, L, q18, hA⟩ := hA.push (j := 0) rfl [.bool (y12.2 == 0)] (by simpa using q15) E
          refine satO_step 1 [] ⟨.sl 13 (a0.map GNode.el) false :: .sl 3 (a1.map GOver.el) false :: an 4 (v6 :: .int .i64 x8 :: .int .i64 y12.1 :: .int .i64 y12.2 :: an 5 (.int .i64 x8 :: .sl 3 (a1.map GOver.el) false :: .int .i64 (a1.length : Int) :: .bool (decide (x8 < (a1.length : Int))) :: an 2 (.tup [.int .i64 y12.1, .int .i64 y12.2] :: .sl 13 (a0.map GNode.el) false :: .sl 3 (a1.map GOver.el) false :: .int .i64 x8 :: .ref x9.cs 0 :: .ref x9.cs 0 :: .str x9.path :: .tup [.int .i64 y12.1, .int .i64 y12.2] :: .int .i64 y12.1 :: .int .i64 y12.2 :: v6 :: .int .i64 y12.2 :: .bool (y12.2 == 0) :: .sl 1 [.bool (y12.2 == 0)] true :: v17 :: an 1 []))), ⟨lv + 1, L, E⟩, [], E⟩ [] (by simp -implicitDefEqProofs [q18]) claims_nil ?_
          have hA : AccG (lv + 1) L [⟨4, 1, v17, l14.map V.bool⟩] [] := by rw [q16]; simpa using hA
          obtain ⟨w0a, w0b, w0c⟩ := hA.whole (j := 0) rfl
          refine satO_step 1 [] ⟨.sl 13 (a0.map GNode.el) false :: .sl 3 (a1.map GOver.el) false :: an 4 (v17 :: .int .i64 x8 :: .int .i64 y12.1 :: .int .i64 y12.2 :: an 5 (.int .i64 x8 :: .sl 3 (a1.map GOver.el) false :: .int .i64 (a1.length : Int) :: .bool (decide (x8 < (a1.length : Int))) :: an 2 (.tup [.int .i64 y12.1, .int .i64 y12.2] :: .sl 13 (a0.map GNode.el) false :: .sl 3 (a1.map GOver.el) false :: .int .i64 x8 :: .ref x9.cs 0 :: .ref x9.cs 0 :: .str x9.path :: .tup [.int .i64 y12.1, .int .i64 y12.2] :: .int .i64 y12.1 :: .int .i64 y12.2 :: v6 :: .int .i64 y12.2 :: .bool (y12.2 == 0) :: .sl 1 [.bool (y12.2 == 0)] true :: v17 :: an 1 []))), ⟨lv + 1, L, E⟩, [], E⟩ [] (by simp -implicitDefEqProofs [GOver.cs, w0a, w0b, w0c]) claims_nil ?_
          refine satO_nil (by simp) ?_
          repeat refine sat_seq ?_
          refine satO_reg ?_
          obtain ⟨w0a, w0b, w0c⟩ := hA.whole (j := 0) rfl
          refine satO_step 3 [] ⟨.sl 13 (a0.map GNode.el) false :: .sl 3 (a1.map GOver.el) false :: an 4 (v17 :: .int .i64 (IntKind.i64.wrap (x8 + 1)) :: .int .i64 y12.1 :: .int .i64 y12.2 :: an 5 (.int .i64 x8 :: .sl 3 (a1.map GOver.el) false :: .int .i64 (a1.length : Int) :: .bool (decide (x8 < (a1.length : Int))) :: .int .i64 x8 :: .int .i64 (IntKind.i64.wrap (x8 + 1)) :: .tup [.int .i64 y12.1, .int .i64 y12.2] :: .sl 13 (a0.map GNode.el) false :: .sl 3 (a1.map GOver.el) false :: .int .i64 x8 :: .ref x9.cs 0 :: .ref x9.cs 0 :: .str x9.path :: .tup [.int .i64 y12.1, .int .i64 y12.2] :: .int .i64 y12.1 :: .int .i64 y12.2 :: v6 :: .int .i64 y12.2 :: .bool (y12.2 == 0) :: .sl 1 [.bool (y12.2 == 0)] true :: v17 :: an 1 [])), ⟨lv + 1, L, E⟩, [], E⟩ [] (by simp -implicitDefEqProofs [GOver.cs, w0a, w0b, w0c]) claims_nil ?_
          refine satO_nil (by simp) ?_
          refine ⟨n, ⟨.sl 13 (a0.map GNode.el) false :: .sl 3 (a1.map GOver.el) false :: an 4 (v17 :: .int .i64 (IntKind.i64.wrap (x8 + 1)) :: an 29 []), ⟨lv + 1, L, E⟩, [], E⟩, weak_tmps ?_, ⟨(IntKind.i64.wrap (x8 + 1)), v17, l14, L, by omega, hA, h, rfl⟩, by omega⟩
          (try simp only [an, List.map_cons, List.map_nil]); repeat (first | exact VLeL.nil | refine VLeL.cons (by first | exact VLe.refl _ | exact VLe.any _ | exact VLe.nil _ _ | exact VLe.full _ _ | (refine VLe.agg' ?_; repeat (first | exact VLeL.nil | refine VLeL.cons (by first | exact VLe.refl _ | exact VLe.any _ | exact VLe.nil _ _) ?_))) ?_)
        · have h := ite_f hb h
          repeat refine sat_seq ?_
          refine sat_exit ?_
          repeat refine sat_seq ?_
          refine satO_reg ?_
          obtain ⟨w0a, w0b, w0c⟩ := hA.whole (j := 0) rfl
          refine satO_step 3 [] ⟨.sl 13 (a0.map GNode.el) false :: .sl 3 (a1.map GOver.el) false :: an 2 (v6 :: .int .i64 0 :: v6 :: .int .i64 x8 :: an 7 (.int .i64 x8 :: .sl 3 (a1.map GOver.el) false :: .int .i64 (a1.length : Int) :: .bool (decide (x8 < (a1.length : Int))) :: an 17 (v6 :: []))), ⟨lv + 1, L, E⟩, [], E⟩ [] (by simp -implicitDefEqProofs [GOver.cs, w0a, w0b, w0c]) claims_nil ?_
          refine satO_nil (by simp) ?_
          repeat refine sat_seq ?_
          refine sat_ret ?_
          obtain ⟨w0a, w0b, w0c⟩ := hA.whole (j := 0) rfl
          refine ends (v := .tup [v6, .int .i64 0]) (by simp [resultsV, resL, resV, tupOf, Try.f16, pLoad, w0a, w0b, w0c, GOver.cs]) rfl rfl ?_
          injection h with h
          subst h
          exact VS.tup' (.cons (hA.shut (j := 0) rfl (by simp [V.kin, V.kinL, GOver.cs])) (.cons (.keep _ (by simp [V.kin, V.kinL, GOver.cs])) .nil))
end Go.Proofs

namespace Go.Proofs
open Go Go.Ab
set_option maxRecDepth 10000
set_option maxHeartbeats 1000000
set_option linter.unusedSimpArgs false
set_option linter.unusedVariables false
theorem go_gambrellaw30_OverrideAttaches_ok (n : Nat) (a0 : List GNode) (a1 : List GOver) (r : Bool) (h : go_gambrellaw30_OverrideAttaches n a0 a1 = some r) : PCall Try.prog 4 [.sl 13 (a0.map GNode.el) false, .sl 3 (a1.map GOver.el) false] (.bool r) := by
  rcases n with _ | n
  · simp [go_gambrellaw30_OverrideAttaches] at h
  rw [go_gambrellaw30_OverrideAttaches] at h
  refine pcall_of Try.func4 rfl Try.ntmps4 (fun _ _ => Try.call4 _ _) fun lv E => ?_
  simp only [List.length_cons, List.length_nil, Nat.reduceAdd, Nat.reduceSub, List.replicate, List.cons_append, List.nil_append]
  have hA := AccG.nil (lv + 1)
  generalize ([] : List (Option AObj)) = L at hA ⊢
  repeat refine sat_seq ?_
  refine satO_reg ?_
  refine satO_step 1 [] ⟨.sl 13 (a0.map GNode.el) false :: .sl 3 (a1.map GOver.el) false :: an 2 (.bool false :: an 48 []), ⟨lv + 1, L, E⟩, [], E⟩ [] (by simp -implicitDefEqProofs []) claims_nil ?_
  refine satO_nil (by simp) ?_
  repeat refine sat_seq ?_
  refine sat_meet (fun σ => ∃ (k : Nat), k ≤ n ∧ ∃ (x1 : Bool) (L : List (Option AObj)), AccG (lv + 1) L [] [] ∧ go_gambrellaw30_OverrideAttaches_J1 k a0 a1 x1 = some r ∧ σ = ⟨.sl 13 (a0.map GNode.el) false :: .sl 3 (a1.map GOver.el) false :: an 13 (.bool x1 :: an 37 []), ⟨lv + 1, L, E⟩, [], E⟩) ?_ ?_
  · refine satO_reg ?_
    obtain ⟨y2, q3, h⟩ := bnd_hi h
    rcases Bool.eq_false_or_eq_true y2 with hg4 | hg5
    · have h := ite_t hg4 h
      have hg4n := hg4
      try simp at hg4n
      refine satO_step 6 [(.bool y2, none)] ⟨.sl 13 (a0.map GNode.el) false :: .sl 3 (a1.map GOver.el) false :: an 2 (.bool false :: an 5 (.sl 13 (a0.map GNode.el) false :: .bool y2 :: .bool y2 :: .tup [] :: .tup [] :: .bool true :: an 37 [])), ⟨lv + 1, L, E⟩, [], E⟩ [⟨6, [.sl 13 (a0.map GNode.el) false], ⟨lv + 1, L, E⟩, .bool y2, ⟨lv + 1, L, E⟩⟩] (by first | (simp -implicitDefEqProofs [hg4]; done) | simp -implicitDefEqProofs [hg4, hg4n]) (claims_cons (go_ref27_Great_ok _ _ _ q3 _) claims_nil) ?_
      refine satO_nil (by simp) ?_
      refine ⟨⟨.sl 13 (a0.map GNode.el) false :: .sl 3 (a1.map GOver.el) false :: an 13 (.bool true :: an 37 []), ⟨lv + 1, L, E⟩, [], E⟩, weak_tmps ?_, n, by omega, true, L, hA, h, rfl⟩
      (try simp only [an, List.map_cons, List.map_nil]); repeat (first | exact VLeL.nil | refine VLeL.cons (by first | exact VLe.refl _ | exact VLe.any _ | exact VLe.nil _ _ | exact VLe.full _ _ | (refine VLe.agg' ?_; repeat (first | exact VLeL.nil | refine VLeL.cons (by first | exact VLe.refl _ | exact VLe.any _ | exact VLe.nil _ _) ?_))) ?_)
    · have h := ite_f hg5 h
      have hg5n := hg5
      try simp at hg5n
      obtain ⟨y6, q7, h⟩ := bnd_hi h
      refine satO_step 6 [(.bool y2, none), (.bool y6, none)] ⟨.sl 13 (a0.map GNode.el) false :: .sl 3 (a1.map GOver.el) false :: an 2 (.bool false :: an 5 (.sl 13 (a0.map GNode.el) false :: .bool y2 :: .bool y2 :: .sl 3 (a1.map GOver.el) false :: .bool y6 :: .bool y6 :: an 37 [])), ⟨lv + 1, L, E⟩, [], E⟩ [⟨6, [.sl 13 (a0.map GNode.el) false], ⟨lv + 1, L, E⟩, .bool y2, ⟨lv + 1, L, E⟩⟩, ⟨14, [.sl 3 (a1.map GOver.el) false], ⟨lv + 1, L, E⟩, .bool y6, ⟨lv + 1, L, E⟩⟩] (by first | (simp -implicitDefEqProofs [hg5]; done) | simp -implicitDefEqProofs [hg5, hg5n]) (claims_cons (go_ref27_Great_ok _ _ _ q3 _) (claims_cons (go_ref30_Great_ok _ _ _ q7 _) claims_nil)) ?_
      refine satO_nil (by simp) ?_
      refine ⟨⟨.sl 13 (a0.map GNode.el) false :: .sl 3 (a1.map GOver.el) false :: an 13 (.bool y6 :: an 37 []), ⟨lv + 1, L, E⟩, [], E⟩, weak_tmps ?_, n, by omega, y6, L, hA, h, rfl⟩
      (try simp only [an, List.map_cons, List.map_nil]); repeat (first | exact VLeL.nil | refine VLeL.cons (by first | exact VLe.refl _ | exact VLe.any _ | exact VLe.nil _ _ | exact VLe.full _ _ | (refine VLe.agg' ?_; repeat (first | exact VLeL.nil | refine VLeL.cons (by first | exact VLe.refl _ | exact VLe.any _ | exact VLe.nil _ _) ?_))) ?_)
  · rintro σ0 σ hw ⟨k, hk, x1, L, hA, h, rfl⟩
    rcases k with _ | n
    · simp [go_gambrellaw30_OverrideAttaches_J1] at h
    · rw [go_gambrellaw30_OverrideAttaches_J1] at h
      refine sat_weak hw ?_
      repeat refine sat_seq ?_
      refine sat_cond rfl (fun hb => ?_) (fun hb => ?_)
      · have h := ite_t hb h
        repeat refine sat_seq ?_
        refine satO_reg ?_
        refine satO_step 1 [] ⟨.sl 13 (a0.map GNode.el) false :: .sl 3 (a1.map GOver.el) false :: an 2 (.bool true :: an 10 (.bool x1 :: an 37 [])), ⟨lv + 1, L, E⟩, [], E⟩ [] (by simp -implicitDefEqProofs []) claims_nil ?_
        refine satO_nil (by simp) ?_
        repeat refine sat_seq ?_
        refine sat_ret ?_
        refine ends (v := .bool true) (by simp [resultsV, resL, resV, tupOf, Try.f4, pLoad]) rfl rfl ?_
        injection h with h
        subst h
        exact (.keep _ (by simp [V.kin, V.kinL]))
      · have h := ite_f hb h
        repeat refine sat_seq ?_
        refine sat_skip ?_
        repeat refine sat_seq ?_
        refine satO_reg ?_
        obtain ⟨y8, q9, h⟩ := bnd_hi h
        refine satO_step 8 [(.tup [.sl 1 (y8.1.map V.bool) false, .int .i64 y8.2], none)] ⟨.sl 13 (a0.map GNode.el) false :: .sl 3 (a1.map GOver.el) false :: an 3 (.sl 1 (y8.1.map V.bool) false :: .int .i64 y8.2 :: an 8 (.bool x1 :: .tup [.sl 1 (y8.1.map V.bool) false, .int .i64 y8.2] :: .sl 13 (a0.map GNode.el) false :: .sl 3 (a1.map GOver.el) false :: .tup [.sl 1 (y8.1.map V.bool) false, .int .i64 y8.2] :: .sl 1 (y8.1.map V.bool) false :: .int .i64 y8.2 :: an 31 [])), ⟨lv + 1, L, E⟩, [], E⟩ [⟨15, [.sl 13 (a0.map GNode.el) false, .sl 3 (a1.map GOver.el) false], ⟨lv + 1, L, E⟩, .tup [.sl 1 (y8.1.map V.bool) false, .int .i64 y8.2], ⟨lv + 1, L, E⟩⟩] (by simp -implicitDefEqProofs []) (claims_cons (go_override_Attach_ok _ _ _ _ q9 _) claims_nil) ?_
        refine satO_nil (by simp) ?_
        repeat refine sat_seq ?_
        refine satO_reg ?_
        obtain ⟨y10, q11, h⟩ := bnd_hi h
        refine satO_step 8 [(.tup [.sl 1 (y10.1.map V.bool) false, .int .i64 y10.2], none)] ⟨.sl 13 (a0.map GNode.el) false :: .sl 3 (a1.map GOver.el) false :: an 3 (.sl 1 (y8.1.map V.bool) false :: .int .i64 y8.2 :: .sl 1 (y10.1.map V.bool) false :: .int .i64 y10.2 :: an 6 (.bool x1 :: .tup [.sl 1 (y8.1.map V.bool) false, .int .i64 y8.2] :: .sl 13 (a0.map GNode.el) false :: .sl 3 (a1.map GOver.el) false :: .tup [.sl 1 (y8.1.map V.bool) false, .int .i64 y8.2] :: .sl 1 (y8.1.map V.bool) false :: .int .i64 y8.2 :: .tup [.sl 1 (y10.1.map V.bool) false, .int .i64 y10.2] :: .sl 13 (a0.map GNode.el) false :: .sl 3 (a1.map GOver.el) false :: .tup [.sl 1 (y10.1.map V.bool) false, .int .i64 y10.2] :: .sl 1 (y10.1.map V.bool) false :: .int .i64 y10.2 :: an 25 [])), ⟨lv + 1, L, E⟩, [], E⟩ [⟨16, [.sl 13 (a0.map GNode.el) false, .sl 3 (a1.map GOver.el) false], ⟨lv + 1, L, E⟩, .tup [.sl 1 (y10.1.map V.bool) false, .int .i64 y10.2], ⟨lv + 1, L, E⟩⟩] (by simp -implicitDefEqProofs []) (claims_cons (go_ref30_Attach_ok _ _ _ _ q11 _) claims_nil) ?_
        refine satO_nil (by simp) ?_
        repeat refine sat_seq ?_
        refine sat_meet (fun σ => ∃ (k : Nat), k ≤ n ∧ ∃ (x12 : Bool) (L : List (Option AObj)), AccG (lv + 1) L [] [] ∧ go_gambrellaw30_OverrideAttaches_J2 k y8 y10 x12 = some r ∧ σ = ⟨an 5 (.sl 1 (y8.1.map V.bool) false :: an 1 (.sl 1 (y10.1.map V.bool) false :: an 29 (.bool x12 :: an 15 []))), ⟨lv + 1, L, E⟩, [], E⟩) ?_ ?_
        · refine satO_reg ?_
          rcases Bool.eq_false_or_eq_true (!((y8.1.length : Int) == (y10.1.length : Int))) with hg13 | hg14
          · have h := ite_t hg13 h
            have hg13n := hg13
            try simp at hg13n
            refine satO_step 10 [] ⟨.sl 13 (a0.map GNode.el) false :: .sl 3 (a1.map GOver.el) false :: an 3 (.sl 1 (y8.1.map V.bool) false :: .int .i64 y8.2 :: .sl 1 (y10.1.map V.bool) false :: .int .i64 y10.2 :: an 6 (.bool x1 :: .tup [.sl 1 (y8.1.map V.bool) false, .int .i64 y8.2] :: .sl 13 (a0.map GNode.el) false :: .sl 3 (a1.map GOver.el) false :: .tup [.sl 1 (y8.1.map V.bool) false, .int .i64 y8.2] :: .sl 1 (y8.1.map V.bool) false :: .int .i64 y8.2 :: .tup [.sl 1 (y10.1.map V.bool) false, .int .i64 y10.2] :: .sl 13 (a0.map GNode.el) false :: .sl 3 (a1.map GOver.el) false :: .tup [.sl 1 (y10.1.map V.bool) false, .int .i64 y10.2] :: .sl 1 (y10.1.map V.bool) false :: .int .i64 y10.2 :: .sl 1 (y8.1.map V.bool) false :: .int .i64 (y8.1.length : Int) :: .sl 1 (y10.1.map V.bool) false :: .int .i64 (y10.1.length : Int) :: .bool (!((y8.1.length : Int) == (y10.1.length : Int))) :: .bool (!((y8.1.length : Int) == (y10.1.length : Int))) :: .tup [] :: .tup [] :: .tup [] :: .bool true :: an 15 [])), ⟨lv + 1, L, E⟩, [], E⟩ [] (by first | (simp -implicitDefEqProofs [hg13]; done) | simp -implicitDefEqProofs [hg13, hg13n]) claims_nil ?_
            refine satO_nil (by simp) ?_
            refine ⟨⟨an 5 (.sl 1 (y8.1.map V.bool) false :: an 1 (.sl 1 (y10.1.map V.bool) false :: an 29 (.bool true :: an 15 []))), ⟨lv + 1, L, E⟩, [], E⟩, weak_tmps ?_, n, by omega, true, L, hA, h, rfl⟩
            (try simp only [an, List.map_cons, List.map_nil]); repeat (first | exact VLeL.nil | refine VLeL.cons (by first | exact VLe.refl _ | exact VLe.any _ | exact VLe.nil _ _ | exact VLe.full _ _ | (refine VLe.agg' ?_; repeat (first | exact VLeL.nil | refine VLeL.cons (by first | exact VLe.refl _ | exact VLe.any _ | exact VLe.nil _ _) ?_))) ?_)
          · have h := ite_f hg14 h
            have hg14n := hg14
            try simp at hg14n
            refine satO_step 10 [] ⟨.sl 13 (a0.map GNode.el) false :: .sl 3 (a1.map GOver.el) false :: an 3 (.sl 1 (y8.1.map V.bool) false :: .int .i64 y8.2 :: .sl 1 (y10.1.map V.bool) false :: .int .i64 y10.2 :: an 6 (.bool x1 :: .tup [.sl 1 (y8.1.map V.bool) false, .int .i64 y8.2] :: .sl 13 (a0.map GNode.el) false :: .sl 3 (a1.map GOver.el) false :: .tup [.sl 1 (y8.1.map V.bool) false, .int .i64 y8.2] :: .sl 1 (y8.1.map V.bool) false :: .int .i64 y8.2 :: .tup [.sl 1 (y10.1.map V.bool) false, .int .i64 y10.2] :: .sl 13 (a0.map GNode.el) false :: .sl 3 (a1.map GOver.el) false :: .tup [.sl 1 (y10.1.map V.bool) false, .int .i64 y10.2] :: .sl 1 (y10.1.map V.bool) false :: .int .i64 y10.2 :: .sl 1 (y8.1.map V.bool) false :: .int .i64 (y8.1.length : Int) :: .sl 1 (y10.1.map V.bool) false :: .int .i64 (y10.1.length : Int) :: .bool (!((y8.1.length : Int) == (y10.1.length : Int))) :: .bool (!((y8.1.length : Int) == (y10.1.length : Int))) :: .int .i64 y8.2 :: .int .i64 y10.2 :: .bool (!(y8.2 == y10.2)) :: .bool (!(y8.2 == y10.2)) :: an 15 [])), ⟨lv + 1, L, E⟩, [], E⟩ [] (by first | (simp -implicitDefEqProofs [hg14]; done) | simp -implicitDefEqProofs [hg14, hg14n]) claims_nil ?_
            refine satO_nil (by simp) ?_
            refine ⟨⟨an 5 (.sl 1 (y8.1.map V.bool) false :: an 1 (.sl 1 (y10.1.map V.bool) false :: an 29 (.bool (!(y8.2 == y10.2)) :: an 15 []))), ⟨lv + 1, L, E⟩, [], E⟩, weak_tmps ?_, n, by omega, (!(y8.2 == y10.2)), L, hA, h, rfl⟩
            (try simp only [an, List.map_cons, List.map_nil]); repeat (first | exact VLeL.nil | refine VLeL.cons (by first | exact VLe.refl _ | exact VLe.any _ | exact VLe.nil _ _ | exact VLe.full _ _ | (refine VLe.agg' ?_; repeat (first | exact VLeL.nil | refine VLeL.cons (by first | exact VLe.refl _ | exact VLe.any _ | exact VLe.nil _ _) ?_))) ?_)
        · rintro σ0 σ hw ⟨k, hk, x12, L, hA, h, rfl⟩
          rcases k with _ | n
          · simp [go_gambrellaw30_OverrideAttaches_J2] at h
          · rw [go_gambrellaw30_OverrideAttaches_J2] at h
            refine sat_weak hw ?_
            repeat refine sat_seq ?_
            refine sat_cond rfl (fun hb => ?_) (fun hb => ?_)
            · have h := ite_t hb h
              repeat refine sat_seq ?_
              refine satO_reg ?_
              refine satO_step 1 [] ⟨an 4 (.bool false :: .sl 1 (y8.1.map V.bool) false :: an 1 (.sl 1 (y10.1.map V.bool) false :: an 29 (.bool x12 :: an 15 []))), ⟨lv + 1, L, E⟩, [], E⟩ [] (by simp -implicitDefEqProofs []) claims_nil ?_
              refine satO_nil (by simp) ?_
              repeat refine sat_seq ?_
              refine sat_ret ?_
              refine ends (v := .bool false) (by simp [resultsV, resL, resV, tupOf, Try.f4, pLoad]) rfl rfl ?_
              injection h with h
              subst h
              exact (.keep _ (by simp [V.kin, V.kinL]))
            · have h := ite_f hb h
              repeat refine sat_seq ?_
              refine sat_skip ?_
              repeat refine sat_seq ?_
              refine satO_reg ?_
              refine satO_step 1 [] ⟨an 5 (.sl 1 (y8.1.map V.bool) false :: an 1 (.sl 1 (y10.1.map V.bool) false :: an 1 (.int .i64 0 :: an 27 (.bool x12 :: an 15 [])))), ⟨lv + 1, L, E⟩, [], E⟩ [] (by simp -implicitDefEqProofs []) claims_nil ?_
              refine satO_nil (by simp) ?_
              repeat refine sat_seq ?_
              refine sat_block ?_
              repeat refine sat_seq ?_
              refine sat_loop (fun k σ => ∃ (x15 : Int) (L : List (Option AObj)), k ≤ n ∧ AccG (lv + 1) L [] [] ∧ go_gambrellaw30_OverrideAttaches_L1 k y8 y10 x15 = some r ∧ σ = ⟨an 5 (.sl 1 (y8.1.map V.bool) false :: an 1 (.sl 1 (y10.1.map V.bool) false :: an 1 (.int .i64 x15 :: an 43 []))), ⟨lv + 1, L, E⟩, [], E⟩) n ⟨an 5 (.sl 1 (y8.1.map V.bool) false :: an 1 (.sl 1 (y10.1.map V.bool) false :: an 1 (.int .i64 0 :: an 43 []))), ⟨lv + 1, L, E⟩, [], E⟩ (weak_tmps ?_) ⟨0, L, Nat.le_refl _, hA, h, rfl⟩ ?_
              · (try simp only [an, List.map_cons, List.map_nil]); repeat (first | exact VLeL.nil | refine VLeL.cons (by first | exact VLe.refl _ | exact VLe.any _ | exact VLe.nil _ _ | exact VLe.full _ _ | (refine VLe.agg' ?_; repeat (first | exact VLeL.nil | refine VLeL.cons (by first | exact VLe.refl _ | exact VLe.any _ | exact VLe.nil _ _) ?_))) ?_)
              · rintro k σ ⟨x15, L, hk, hA, h, rfl⟩
                rcases k with _ | n
                · simp [go_gambrellaw30_OverrideAttaches_L1] at h
                · rw [go_gambrellaw30_OverrideAttaches_L1] at h
                  repeat refine sat_seq ?_
                  refine satO_reg ?_
                  refine satO_step 4 [] ⟨an 5 (.sl 1 (y8.1.map V.bool) false :: an 1 (.sl 1 (y10.1.map V.bool) false :: an 1 (.int .i64 x15 :: an 28 (.int .i64 x15 :: .sl 1 (y8.1.map V.bool) false :: .int .i64 (y8.1.length : Int) :: .bool (decide (x15 < (y8.1.length : Int))) :: an 11 [])))), ⟨lv + 1, L, E⟩, [], E⟩ [] (by simp -implicitDefEqProofs []) claims_nil ?_
                  refine satO_nil (by simp) ?_
                  repeat refine sat_seq ?_
                  refine sat_cond rfl (fun hb => ?_) (fun hb => ?_)
                  · have h := ite_t hb h
                    repeat refine sat_seq ?_
                    refine sat_skip ?_
                    repeat refine sat_seq ?_
                    refine sat_block ?_
                    repeat refine sat_seq ?_
                    obtain ⟨x16, q17, h⟩ := bnd_hi h
                    obtain ⟨q17, q18⟩ := ix_some q17
                    obtain ⟨x19, q20, h⟩ := bnd_hi h
                    obtain ⟨q20, q21⟩ := ix_some q20
                    refine satO_drw (by kernel_rfl) (by kernel_rfl) [] ⟨an 5 (.sl 1 (y8.1.map V.bool) false :: an 1 (.sl 1 (y10.1.map V.bool) false :: an 1 (.int .i64 x15 :: an 28 (.int .i64 x15 :: .sl 1 (y8.1.map V.bool) false :: .int .i64 (y8.1.length : Int) :: .bool (decide (x15 < (y8.1.length : Int))) :: an 2 (.sl 1 (y8.1.map V.bool) false :: .int .i64 x15 :: .ref [.bool x16] 0 :: .bool x16 :: .sl 1 (y10.1.map V.bool) false :: .int .i64 x15 :: .ref [.bool x19] 0 :: .bool x19 :: .bool (!(x16 == x19)) :: []))))), ⟨lv + 1, L, E⟩, [], E⟩ [] (by simp -implicitDefEqProofs [q17, q18, q20, q21]) claims_nil ?_
                    repeat refine sat_seq ?_
                    refine sat_cond rfl (fun hb => ?_) (fun hb => ?_)
                    · have h := ite_t hb h
                      repeat refine sat_seq ?_
                      refine satO_reg ?_
                      refine satO_step 1 [] ⟨an 4 (.bool false :: .sl 1 (y8.1.map V.bool) false :: an 1 (.sl 1 (y10.1.map V.bool) false :: an 1 (.int .i64 x15 :: an 28 (.int .i64 x15 :: .sl 1 (y8.1.map V.bool) false :: .int .i64 (y8.1.length : Int) :: .bool (decide (x15 < (y8.1.length : Int))) :: an 2 (.sl 1 (y8.1.map V.bool) false :: .int .i64 x15 :: .ref [.bool x16] 0 :: .bool x16 :: .sl 1 (y10.1.map V.bool) false :: .int .i64 x15 :: .ref [.bool x19] 0 :: .bool x19 :: .bool (!(x16 == x19)) :: []))))), ⟨lv + 1, L, E⟩, [], E⟩ [] (by simp -implicitDefEqProofs []) claims_nil ?_
                      refine satO_nil (by simp) ?_
                      repeat refine sat_seq ?_
                      refine sat_ret ?_
                      refine ends (v := .bool false) (by simp [resultsV, resL, resV, tupOf, Try.f4, pLoad]) rfl rfl ?_
                      injection h with h
                      subst h
                      exact (.keep _ (by simp [V.kin, V.kinL]))
                    · have h := ite_f hb h
                      repeat refine sat_seq ?_
                      refine sat_skip ?_
                      repeat refine sat_seq ?_
                      refine satO_reg ?_
                      refine satO_step 3 [] ⟨an 5 (.sl 1 (y8.1.map V.bool) false :: an 1 (.sl 1 (y10.1.map V.bool) false :: an 1 (.int .i64 (IntKind.i64.wrap (x15 + 1)) :: an 28 (.int .i64 x15 :: .sl 1 (y8.1.map V.bool) false :: .int .i64 (y8.1.length : Int) :: .bool (decide (x15 < (y8.1.length : Int))) :: .int .i64 x15 :: .int .i64 (IntKind.i64.wrap (x15 + 1)) :: .sl 1 (y8.1.map V.bool) false :: .int .i64 x15 :: .ref [.bool x16] 0 :: .bool x16 :: .sl 1 (y10.1.map V.bool) false :: .int .i64 x15 :: .ref [.bool x19] 0 :: .bool x19 :: .bool (!(x16 == x19)) :: [])))), ⟨lv + 1, L, E⟩, [], E⟩ [] (by simp -implicitDefEqProofs []) claims_nil ?_
                      refine satO_nil (by simp) ?_
                      refine ⟨n, ⟨an 5 (.sl 1 (y8.1.map V.bool) false :: an 1 (.sl 1 (y10.1.map V.bool) false :: an 1 (.int .i64 (IntKind.i64.wrap (x15 + 1)) :: an 43 []))), ⟨lv + 1, L, E⟩, [], E⟩, weak_tmps ?_, ⟨(IntKind.i64.wrap (x15 + 1)), L, by omega, hA, h, rfl⟩, by omega⟩
                      (try simp only [an, List.map_cons, List.map_nil]); repeat (first | exact VLeL.nil | refine VLeL.cons (by first | exact VLe.refl _ | exact VLe.any _ | exact VLe.nil _ _ | exact VLe.full _ _ | (refine VLe.agg' ?_; repeat (first | exact VLeL.nil | refine VLeL.cons (by first | exact VLe.refl _ | exact VLe.any _ | exact VLe.nil _ _) ?_))) ?_)
                  · have h := ite_f hb h
                    repeat refine sat_seq ?_
                    refine sat_exit ?_
                    repeat refine sat_seq ?_
                    refine satO_reg ?_
                    refine satO_step 1 [] ⟨an 4 (.bool true :: .sl 1 (y8.1.map V.bool) false :: an 1 (.sl 1 (y10.1.map V.bool) false :: an 1 (.int .i64 x15 :: an 28 (.int .i64 x15 :: .sl 1 (y8.1.map V.bool) false :: .int .i64 (y8.1.length : Int) :: .bool (decide (x15 < (y8.1.length : Int))) :: an 11 [])))), ⟨lv + 1, L, E⟩, [], E⟩ [] (by simp -implicitDefEqProofs []) claims_nil ?_
                    refine satO_nil (by simp) ?_
                    repeat refine sat_seq ?_
                    refine sat_ret ?_
                    refine ends (v := .bool true) (by simp [resultsV, resL, resV, tupOf, Try.f4, pLoad]) rfl rfl ?_
                    injection h with h
                    subst h
                    exact (.keep _ (by simp [V.kin, V.kinL]))
end Go.Proofs
