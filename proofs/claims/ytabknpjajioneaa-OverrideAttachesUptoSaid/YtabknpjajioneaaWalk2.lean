/-
  The Go functions compute what their Lean functions do, by a program of this repo.
-/
import Derived.Test.YtabknpjajioneaaFns
import Derived.Test.YtabknpjajioneaaFacts
import Derived.Test.YtabknpjajioneaaAbSimp
import Derived.Lib.Bytealg
import Derived.Laws.Externs
import Derived.KernelRfl
import Derived.Test.YtabknpjajioneaaWalk0
import Derived.Test.YtabknpjajioneaaWalk1
import Derived.Test.YtabknpjajioneaaHand
namespace Go.Proofs
open Go Go.Ab
set_option maxRecDepth 10000
set_option maxHeartbeats 1000000
set_option linter.unusedSimpArgs false
set_option linter.unusedVariables false
theorem go_override_formed_ok (n : Nat) (a0 : List GOver) (r : Int) (h : go_override_formed n a0 = some r) : PCall Try.prog 33 [.sl 3 (a0.map GOver.el) false] (.int .i64 r) := by
  rcases n with _ | n
  · simp [go_override_formed] at h
  rw [go_override_formed] at h
  refine pcall_of Try.func33 rfl Try.ntmps33 (fun _ _ => Try.call33 _ _) fun lv E => ?_
  simp only [List.length_cons, List.length_nil, Nat.reduceAdd, Nat.reduceSub, List.replicate, List.cons_append, List.nil_append]
  have hA := AccG.nil (lv + 1)
  generalize ([] : List (Option AObj)) = L at hA ⊢
  repeat refine sat_seq ?_
  refine satO_reg ?_
  refine satO_step 1 [] ⟨.sl 3 (a0.map GOver.el) false :: an 1 (.int .i64 0 :: an 59 []), ⟨lv + 1, L, E⟩, [], E⟩ [] (by simp -implicitDefEqProofs []) claims_nil ?_
  refine satO_nil (by simp) ?_
  repeat refine sat_seq ?_
  refine satO_reg ?_
  refine satO_step 3 [] ⟨.sl 3 (a0.map GOver.el) false :: an 1 (.int .i64 0 :: an 4 (.sl 3 (a0.map GOver.el) false :: .int .i64 (a0.length : Int) :: .bool (decide (60 < (a0.length : Int))) :: an 52 [])), ⟨lv + 1, L, E⟩, [], E⟩ [] (by simp -implicitDefEqProofs []) claims_nil ?_
  refine satO_nil (by simp) ?_
  repeat refine sat_seq ?_
  refine sat_cond rfl (fun hb => ?_) (fun hb => ?_)
  · have h := ite_t hb h
    repeat refine sat_seq ?_
    refine satO_reg ?_
    refine satO_step 1 [] ⟨.sl 3 (a0.map GOver.el) false :: an 1 (.int .i64 4 :: an 4 (.sl 3 (a0.map GOver.el) false :: .int .i64 (a0.length : Int) :: .bool (decide (60 < (a0.length : Int))) :: an 52 [])), ⟨lv + 1, L, E⟩, [], E⟩ [] (by simp -implicitDefEqProofs []) claims_nil ?_
    refine satO_nil (by simp) ?_
    repeat refine sat_seq ?_
    refine sat_ret ?_
    refine ends (v := .int .i64 4) (by simp [resultsV, resL, resV, tupOf, Try.f33, pLoad]) rfl rfl ?_
    injection h with h
    subst h
    exact (.keep _ (by simp [V.kin, V.kinL]))
  · have h := ite_f hb h
    repeat refine sat_seq ?_
    refine sat_skip ?_
    repeat refine sat_seq ?_
    refine satO_reg ?_
    refine satO_step 3 [] ⟨.sl 3 (a0.map GOver.el) false :: an 1 (.int .i64 0 :: an 4 (.sl 3 (a0.map GOver.el) false :: .int .i64 (a0.length : Int) :: .bool (decide (60 < (a0.length : Int))) :: .sl 3 (a0.map GOver.el) false :: .int .i64 (a0.length : Int) :: .int .i64 0 :: an 49 [])), ⟨lv + 1, L, E⟩, [], E⟩ [] (by simp -implicitDefEqProofs []) claims_nil ?_
    refine satO_nil (by simp) ?_
    repeat refine sat_seq ?_
    refine sat_block ?_
    repeat refine sat_seq ?_
    refine sat_loop (fun k σ => ∃ (x1 : Int) (L : List (Option AObj)), k ≤ n ∧ AccG (lv + 1) L [] [] ∧ go_override_formed_L1 k a0 x1 = some r ∧ σ = ⟨an 10 (.sl 3 (a0.map GOver.el) false :: .int .i64 (a0.length : Int) :: .int .i64 x1 :: an 49 []), ⟨lv + 1, L, E⟩, [], E⟩) n ⟨an 10 (.sl 3 (a0.map GOver.el) false :: .int .i64 (a0.length : Int) :: .int .i64 0 :: an 49 []), ⟨lv + 1, L, E⟩, [], E⟩ (weak_tmps ?_) ⟨0, L, Nat.le_refl _, hA, h, rfl⟩ ?_
    · (try simp only [an, List.map_cons, List.map_nil]); repeat (first | exact VLeL.nil | refine VLeL.cons (by first | exact VLe.refl _ | exact VLe.any _ | exact VLe.nil _ _ | exact VLe.full _ _ | (refine VLe.agg' ?_; repeat (first | exact VLeL.nil | refine VLeL.cons (by first | exact VLe.refl _ | exact VLe.any _ | exact VLe.nil _ _) ?_))) ?_)
    · rintro k σ ⟨x1, L, hk, hA, h, rfl⟩
      rcases k with _ | n
      · simp [go_override_formed_L1] at h
      · rw [go_override_formed_L1] at h
        repeat refine sat_seq ?_
        refine satO_reg ?_
        refine satO_step 1 [] ⟨an 10 (.sl 3 (a0.map GOver.el) false :: .int .i64 (a0.length : Int) :: .int .i64 x1 :: .bool (decide (x1 < (a0.length : Int))) :: an 48 []), ⟨lv + 1, L, E⟩, [], E⟩ [] (by simp -implicitDefEqProofs []) claims_nil ?_
        refine satO_nil (by simp) ?_
        repeat refine sat_seq ?_
        refine sat_cond rfl (fun hb => ?_) (fun hb => ?_)
        · have h := ite_t hb h
          repeat refine sat_seq ?_
          refine sat_skip ?_
          repeat refine sat_seq ?_
          refine sat_block ?_
          repeat refine sat_seq ?_
          refine satO_reg ?_
          obtain ⟨x2, q3, h⟩ := bnd_hi h
          obtain ⟨q3, q4⟩ := ix_some q3
          refine satO_step 2 [] ⟨an 10 (.sl 3 (a0.map GOver.el) false :: .int .i64 (a0.length : Int) :: .int .i64 x1 :: .bool (decide (x1 < (a0.length : Int))) :: .ref x2.cs 0 :: .agg x2.cs :: an 46 []), ⟨lv + 1, L, E⟩, [], E⟩ [] (by simp -implicitDefEqProofs [GOver.cs, q3, q4, GOver.el_cs]) claims_nil ?_
          refine satO_step 1 [] ⟨an 4 (.ptr (lv + 1) L.length 0 :: an 5 (.sl 3 (a0.map GOver.el) false :: .int .i64 (a0.length : Int) :: .int .i64 x1 :: .bool (decide (x1 < (a0.length : Int))) :: .ref x2.cs 0 :: .agg x2.cs :: an 46 [])), ⟨lv + 1, (L ++ [some (.cells [.str ([]), .int .u8 0, .str ([])])]), E⟩, [], E⟩ [] (by simp -implicitDefEqProofs [GOver.cs]) claims_nil ?_
          have hA : AccG (lv + 1) (L ++ [some (.cells [.str ([]), .int .u8 0, .str ([])])]) [] [(L.length, .cells [.str ([]), .int .u8 0, .str ([])])] := hA.obj _
          generalize L.length = i6 at hA ⊢
          generalize (L ++ [some (.cells [.str ([]), .int .u8 0, .str ([])])]) = L at hA ⊢
          have g0 := hA.get (k := 0) rfl
          refine satO_step 1 [] ⟨an 4 (.ptr (lv + 1) i6 0 :: an 5 (.sl 3 (a0.map GOver.el) false :: .int .i64 (a0.length : Int) :: .int .i64 x1 :: .bool (decide (x1 < (a0.length : Int))) :: .ref x2.cs 0 :: .agg x2.cs :: an 46 [])), ⟨lv + 1, (L.set i6 (some (.cells x2.cs))), E⟩, [], E⟩ [] (by simp -implicitDefEqProofs [GOver.cs, g0]) claims_nil ?_
          have hA : AccG (lv + 1) (L.set i6 (some (.cells x2.cs))) [] [(i6, .cells x2.cs)] := hA.upd (k := 0) rfl _
          generalize (L.set i6 (some (.cells x2.cs))) = L at hA ⊢
          refine satO_nil (by simp) ?_
          repeat refine sat_seq ?_
          refine sat_meet (fun σ => ∃ (k : Nat), k ≤ n ∧ ∃ (x7 : Bool) (L : List (Option AObj)), AccG (lv + 1) L [] [(i6, .cells x2.cs)] ∧ go_override_formed_J1 k a0 x1 x2 x7 = some r ∧ σ = ⟨an 4 (.ptr (lv + 1) i6 0 :: .bool x7 :: an 4 (.sl 3 (a0.map GOver.el) false :: .int .i64 (a0.length : Int) :: .int .i64 x1 :: an 49 [])), ⟨lv + 1, L, E⟩, [], E⟩) ?_ ?_
          · refine satO_reg ?_
            obtain ⟨y8, q9, h⟩ := bnd_hi h
            rcases Bool.eq_false_or_eq_true (y8 == 0) with hg10 | hg11
            · have h := ite_t hg10 h
              have hg10n := hg10
              try simp at hg10n
              have g0 := hA.get (k := 0) rfl
              refine satO_step 10 [(.int .i64 y8, none)] ⟨an 4 (.ptr (lv + 1) i6 0 :: .bool (!(x2.path == ([]))) :: an 4 (.sl 3 (a0.map GOver.el) false :: .int .i64 (a0.length : Int) :: .int .i64 x1 :: .bool (decide (x1 < (a0.length : Int))) :: .ref x2.cs 0 :: .agg x2.cs :: .ptr (lv + 1) i6 0 :: .str x2.path :: .int .i64 y8 :: .bool (y8 == 0) :: .bool (y8 == 0) :: .ptr (lv + 1) i6 0 :: .str x2.path :: .bool (!(x2.path == ([]))) :: .bool (!(x2.path == ([]))) :: an 37 [])), ⟨lv + 1, L, E⟩, [], E⟩ [⟨46, [.str x2.path], ⟨lv + 1, L, E⟩, .int .i64 y8, ⟨lv + 1, L, E⟩⟩] (by first | (simp -implicitDefEqProofs [GOver.cs, g0, hg10]; done) | simp -implicitDefEqProofs [GOver.cs, g0, hg10, hg10n]) (claims_cons (go_label_Check_ok _ _ _ q9 _) claims_nil) ?_
              refine satO_nil (by simp) ?_
              refine ⟨⟨an 4 (.ptr (lv + 1) i6 0 :: .bool (!(x2.path == ([]))) :: an 4 (.sl 3 (a0.map GOver.el) false :: .int .i64 (a0.length : Int) :: .int .i64 x1 :: an 49 [])), ⟨lv + 1, L, E⟩, [], E⟩, weak_tmps ?_, n, by omega, (!(x2.path == ([]))), L, hA, h, rfl⟩
              (try simp only [an, List.map_cons, List.map_nil]); repeat (first | exact VLeL.nil | refine VLeL.cons (by first | exact VLe.refl _ | exact VLe.any _ | exact VLe.nil _ _ | exact VLe.full _ _ | (refine VLe.agg' ?_; repeat (first | exact VLeL.nil | refine VLeL.cons (by first | exact VLe.refl _ | exact VLe.any _ | exact VLe.nil _ _) ?_))) ?_)
            · have h := ite_f hg11 h
              have hg11n := hg11
              try simp at hg11n
              have g0 := hA.get (k := 0) rfl
              refine satO_step 10 [(.int .i64 y8, none)] ⟨an 4 (.ptr (lv + 1) i6 0 :: .bool false :: an 4 (.sl 3 (a0.map GOver.el) false :: .int .i64 (a0.length : Int) :: .int .i64 x1 :: .bool (decide (x1 < (a0.length : Int))) :: .ref x2.cs 0 :: .agg x2.cs :: .ptr (lv + 1) i6 0 :: .str x2.path :: .int .i64 y8 :: .bool (y8 == 0) :: .bool (y8 == 0) :: .tup [] :: .tup [] :: .tup [] :: .bool false :: an 37 [])), ⟨lv + 1, L, E⟩, [], E⟩ [⟨46, [.str x2.path], ⟨lv + 1, L, E⟩, .int .i64 y8, ⟨lv + 1, L, E⟩⟩] (by first | (simp -implicitDefEqProofs [GOver.cs, g0, hg11]; done) | simp -implicitDefEqProofs [GOver.cs, g0, hg11, hg11n]) (claims_cons (go_label_Check_ok _ _ _ q9 _) claims_nil) ?_
              refine satO_nil (by simp) ?_
              refine ⟨⟨an 4 (.ptr (lv + 1) i6 0 :: .bool false :: an 4 (.sl 3 (a0.map GOver.el) false :: .int .i64 (a0.length : Int) :: .int .i64 x1 :: an 49 [])), ⟨lv + 1, L, E⟩, [], E⟩, weak_tmps ?_, n, by omega, false, L, hA, h, rfl⟩
              (try simp only [an, List.map_cons, List.map_nil]); repeat (first | exact VLeL.nil | refine VLeL.cons (by first | exact VLe.refl _ | exact VLe.any _ | exact VLe.nil _ _ | exact VLe.full _ _ | (refine VLe.agg' ?_; repeat (first | exact VLeL.nil | refine VLeL.cons (by first | exact VLe.refl _ | exact VLe.any _ | exact VLe.nil _ _) ?_))) ?_)
          · rintro σ0 σ hw ⟨k, hk, x7, L, hA, h, rfl⟩
            rcases k with _ | n
            · simp [go_override_formed_J1] at h
            · rw [go_override_formed_J1] at h
              refine sat_weak hw ?_
              repeat refine sat_seq ?_
              refine satO_reg ?_
              have g0 := hA.get (k := 0) rfl
              refine satO_step 2 [] ⟨an 4 (.ptr (lv + 1) i6 0 :: .bool x7 :: an 4 (.sl 3 (a0.map GOver.el) false :: .int .i64 (a0.length : Int) :: .int .i64 x1 :: an 12 (.ptr (lv + 1) i6 1 :: .int .u8 x2.kind :: an 35 []))), ⟨lv + 1, L, E⟩, [], E⟩ [] (by simp -implicitDefEqProofs [GOver.cs, g0]) claims_nil ?_
              refine satO_nil (by simp) ?_
              repeat refine sat_seq ?_
              refine sat_block ?_
              repeat refine sat_seq ?_
              refine satO_reg ?_
              have g0 := hA.get (k := 0) rfl
              refine satO_step 2 [] ⟨an 4 (.ptr (lv + 1) i6 0 :: .bool x7 :: an 4 (.sl 3 (a0.map GOver.el) false :: .int .i64 (a0.length : Int) :: .int .i64 x1 :: an 12 (.ptr (lv + 1) i6 1 :: .int .u8 x2.kind :: .bool (x2.kind == 1) :: .bool (x2.kind == 1) :: an 33 []))), ⟨lv + 1, L, E⟩, [], E⟩ [] (by simp -implicitDefEqProofs [GOver.cs, g0]) claims_nil ?_
              refine satO_nil (by simp) ?_
              repeat refine sat_seq ?_
              refine sat_meet (fun σ => ∃ (k : Nat), k ≤ n ∧ ∃ (x12 : Bool) (L : List (Option AObj)), AccG (lv + 1) L [] [] ∧ go_override_formed_J2 k a0 x1 x12 = some r ∧ σ = ⟨an 5 (.bool x12 :: an 4 (.sl 3 (a0.map GOver.el) false :: .int .i64 (a0.length : Int) :: .int .i64 x1 :: an 49 [])), ⟨lv + 1, L, E⟩, [], E⟩) ?_ ?_
              · refine sat_cond rfl (fun hb => ?_) (fun hb => ?_)
                · have h := ite_t hb h
                  repeat refine sat_seq ?_
                  refine sat_meet (fun σ => ∃ (k : Nat), k ≤ n ∧ ∃ (x13 : Bool) (L : List (Option AObj)), AccG (lv + 1) L [] [] ∧ go_override_formed_J3 k a0 x1 x13 = some r ∧ σ = ⟨an 5 (.bool x13 :: an 4 (.sl 3 (a0.map GOver.el) false :: .int .i64 (a0.length : Int) :: .int .i64 x1 :: an 49 [])), ⟨lv + 1, L, E⟩, [], E⟩) ?_ ?_
                  · refine satO_reg ?_
                    rcases Bool.eq_false_or_eq_true x7 with hg14 | hg15
                    · have h := ite_t hg14 h
                      have hg14n := hg14
                      try simp at hg14n
                      have g0 := hA.get (k := 0) rfl
                      refine satO_step 7 [] ⟨an 4 (.ptr (lv + 1) i6 0 :: .bool (x2.name == ([])) :: an 4 (.sl 3 (a0.map GOver.el) false :: .int .i64 (a0.length : Int) :: .int .i64 x1 :: an 12 (.ptr (lv + 1) i6 1 :: .int .u8 x2.kind :: .bool (x2.kind == 1) :: .bool (x2.kind == 1) :: .bool x7 :: .bool x7 :: .ptr (lv + 1) i6 2 :: .str x2.name :: .bool (x2.name == ([])) :: .bool (x2.name == ([])) :: an 27 []))), ⟨lv + 1, L, E⟩, [], E⟩ [] (by first | (simp -implicitDefEqProofs [GOver.cs, g0, hg14]; done) | simp -implicitDefEqProofs [GOver.cs, g0, hg14, hg14n]) claims_nil ?_
                      refine satO_nil (by simp) ?_
                      have hA : AccG (lv + 1) L [] [] := hA.sel [] (by simp) rfl (.cons _ .slnil)
                      refine ⟨⟨an 5 (.bool (x2.name == ([])) :: an 4 (.sl 3 (a0.map GOver.el) false :: .int .i64 (a0.length : Int) :: .int .i64 x1 :: an 49 [])), ⟨lv + 1, L, E⟩, [], E⟩, weak_tmps ?_, n, by omega, (x2.name == ([])), L, hA, h, rfl⟩
                      (try simp only [an, List.map_cons, List.map_nil]); repeat (first | exact VLeL.nil | refine VLeL.cons (by first | exact VLe.refl _ | exact VLe.any _ | exact VLe.nil _ _ | exact VLe.full _ _ | (refine VLe.agg' ?_; repeat (first | exact VLeL.nil | refine VLeL.cons (by first | exact VLe.refl _ | exact VLe.any _ | exact VLe.nil _ _) ?_))) ?_)
                    · have h := ite_f hg15 h
                      have hg15n := hg15
                      try simp at hg15n
                      have g0 := hA.get (k := 0) rfl
                      refine satO_step 7 [] ⟨an 4 (.ptr (lv + 1) i6 0 :: .bool false :: an 4 (.sl 3 (a0.map GOver.el) false :: .int .i64 (a0.length : Int) :: .int .i64 x1 :: an 12 (.ptr (lv + 1) i6 1 :: .int .u8 x2.kind :: .bool (x2.kind == 1) :: .bool (x2.kind == 1) :: .bool x7 :: .bool x7 :: .tup [] :: .tup [] :: .tup [] :: .bool false :: an 27 []))), ⟨lv + 1, L, E⟩, [], E⟩ [] (by first | (simp -implicitDefEqProofs [GOver.cs, g0, hg15]; done) | simp -implicitDefEqProofs [GOver.cs, g0, hg15, hg15n]) claims_nil ?_
                      refine satO_nil (by simp) ?_
                      have hA : AccG (lv + 1) L [] [] := hA.sel [] (by simp) rfl (.cons _ .slnil)
                      refine ⟨⟨an 5 (.bool false :: an 4 (.sl 3 (a0.map GOver.el) false :: .int .i64 (a0.length : Int) :: .int .i64 x1 :: an 49 [])), ⟨lv + 1, L, E⟩, [], E⟩, weak_tmps ?_, n, by omega, false, L, hA, h, rfl⟩
                      (try simp only [an, List.map_cons, List.map_nil]); repeat (first | exact VLeL.nil | refine VLeL.cons (by first | exact VLe.refl _ | exact VLe.any _ | exact VLe.nil _ _ | exact VLe.full _ _ | (refine VLe.agg' ?_; repeat (first | exact VLeL.nil | refine VLeL.cons (by first | exact VLe.refl _ | exact VLe.any _ | exact VLe.nil _ _) ?_))) ?_)
                  · rintro σ0 σ hw ⟨k, hk, x13, L, hA, h, rfl⟩
                    rcases k with _ | n
                    · simp [go_override_formed_J3] at h
                    · rw [go_override_formed_J3] at h
                      refine ⟨⟨an 5 (.bool x13 :: an 4 (.sl 3 (a0.map GOver.el) false :: .int .i64 (a0.length : Int) :: .int .i64 x1 :: an 49 [])), ⟨lv + 1, L, E⟩, [], E⟩, hw.trans (weak_tmps ?_), n, by omega, x13, L, hA, h, rfl⟩
                      (try simp only [an, List.map_cons, List.map_nil]); repeat (first | exact VLeL.nil | refine VLeL.cons (by first | exact VLe.refl _ | exact VLe.any _ | exact VLe.nil _ _ | exact VLe.full _ _ | (refine VLe.agg' ?_; repeat (first | exact VLeL.nil | refine VLeL.cons (by first | exact VLe.refl _ | exact VLe.any _ | exact VLe.nil _ _) ?_))) ?_)
                · have h := ite_f hb h
                  repeat refine sat_seq ?_
                  refine satO_reg ?_
                  have g0 := hA.get (k := 0) rfl
                  refine satO_step 2 [] ⟨an 4 (.ptr (lv + 1) i6 0 :: .bool x7 :: an 4 (.sl 3 (a0.map GOver.el) false :: .int .i64 (a0.length : Int) :: .int .i64 x1 :: an 12 (.ptr (lv + 1) i6 1 :: .int .u8 x2.kind :: .bool (x2.kind == 1) :: .bool (x2.kind == 1) :: an 6 (.bool (x2.kind == 2) :: .bool (x2.kind == 2) :: an 25 [])))), ⟨lv + 1, L, E⟩, [], E⟩ [] (by simp -implicitDefEqProofs [GOver.cs, g0]) claims_nil ?_
                  refine satO_nil (by simp) ?_
                  repeat refine sat_seq ?_
                  refine sat_meet (fun σ => ∃ (k : Nat), k ≤ n ∧ ∃ (x16 : Bool) (L : List (Option AObj)), AccG (lv + 1) L [] [] ∧ go_override_formed_J4 k a0 x1 x16 = some r ∧ σ = ⟨an 5 (.bool x16 :: an 4 (.sl 3 (a0.map GOver.el) false :: .int .i64 (a0.length : Int) :: .int .i64 x1 :: an 49 [])), ⟨lv + 1, L, E⟩, [], E⟩) ?_ ?_
                  · refine sat_cond rfl (fun hb => ?_) (fun hb => ?_)
                    · have h := ite_t hb h
                      repeat refine sat_seq ?_
                      refine sat_meet (fun σ => ∃ (k : Nat), k ≤ n ∧ ∃ (x17 : Bool) (L : List (Option AObj)), AccG (lv + 1) L [] [] ∧ go_override_formed_J5 k a0 x1 x17 = some r ∧ σ = ⟨an 5 (.bool x17 :: an 4 (.sl 3 (a0.map GOver.el) false :: .int .i64 (a0.length : Int) :: .int .i64 x1 :: an 49 [])), ⟨lv + 1, L, E⟩, [], E⟩) ?_ ?_
                      · refine satO_reg ?_
                        rcases Bool.eq_false_or_eq_true x7 with hg18 | hg21
                        · have h := ite_t hg18 h
                          have hg18n := hg18
                          try simp at hg18n
                          obtain ⟨y19, q20, h⟩ := bnd_hi h
                          have g0 := hA.get (k := 0) rfl
                          refine satO_step 7 [(.bool y19, none)] ⟨an 4 (.ptr (lv + 1) i6 0 :: .bool y19 :: an 4 (.sl 3 (a0.map GOver.el) false :: .int .i64 (a0.length : Int) :: .int .i64 x1 :: an 12 (.ptr (lv + 1) i6 1 :: .int .u8 x2.kind :: .bool (x2.kind == 1) :: .bool (x2.kind == 1) :: an 6 (.bool (x2.kind == 2) :: .bool (x2.kind == 2) :: .bool x7 :: .bool x7 :: .ptr (lv + 1) i6 2 :: .str x2.name :: .bool y19 :: .bool y19 :: an 19 [])))), ⟨lv + 1, L, E⟩, [], E⟩ [⟨47, [.str x2.name], ⟨lv + 1, L, E⟩, .bool y19, ⟨lv + 1, L, E⟩⟩] (by first | (simp -implicitDefEqProofs [GOver.cs, g0, hg18]; done) | simp -implicitDefEqProofs [GOver.cs, g0, hg18, hg18n]) (claims_cons (go_label_Name_ok _ _ _ q20 _) claims_nil) ?_
                          refine satO_nil (by simp) ?_
                          have hA : AccG (lv + 1) L [] [] := hA.sel [] (by simp) rfl (.cons _ .slnil)
                          refine ⟨⟨an 5 (.bool y19 :: an 4 (.sl 3 (a0.map GOver.el) false :: .int .i64 (a0.length : Int) :: .int .i64 x1 :: an 49 [])), ⟨lv + 1, L, E⟩, [], E⟩, weak_tmps ?_, n, by omega, y19, L, hA, h, rfl⟩
                          (try simp only [an, List.map_cons, List.map_nil]); repeat (first | exact VLeL.nil | refine VLeL.cons (by first | exact VLe.refl _ | exact VLe.any _ | exact VLe.nil _ _ | exact VLe.full _ _ | (refine VLe.agg' ?_; repeat (first | exact VLeL.nil | refine VLeL.cons (by first | exact VLe.refl _ | exact VLe.any _ | exact VLe.nil _ _) ?_))) ?_)
                        · have h := ite_f hg21 h
                          have hg21n := hg21
                          try simp at hg21n
                          have g0 := hA.get (k := 0) rfl
                          refine satO_step 7 [] ⟨an 4 (.ptr (lv + 1) i6 0 :: .bool false :: an 4 (.sl 3 (a0.map GOver.el) false :: .int .i64 (a0.length : Int) :: .int .i64 x1 :: an 12 (.ptr (lv + 1) i6 1 :: .int .u8 x2.kind :: .bool (x2.kind == 1) :: .bool (x2.kind == 1) :: an 6 (.bool (x2.kind == 2) :: .bool (x2.kind == 2) :: .bool x7 :: .bool x7 :: .tup [] :: .tup [] :: .tup [] :: .bool false :: an 19 [])))), ⟨lv + 1, L, E⟩, [], E⟩ [] (by first | (simp -implicitDefEqProofs [GOver.cs, g0, hg21]; done) | simp -implicitDefEqProofs [GOver.cs, g0, hg21, hg21n]) claims_nil ?_
                          refine satO_nil (by simp) ?_
                          have hA : AccG (lv + 1) L [] [] := hA.sel [] (by simp) rfl (.cons _ .slnil)
                          refine ⟨⟨an 5 (.bool false :: an 4 (.sl 3 (a0.map GOver.el) false :: .int .i64 (a0.length : Int) :: .int .i64 x1 :: an 49 [])), ⟨lv + 1, L, E⟩, [], E⟩, weak_tmps ?_, n, by omega, false, L, hA, h, rfl⟩
                          (try simp only [an, List.map_cons, List.map_nil]); repeat (first | exact VLeL.nil | refine VLeL.cons (by first | exact VLe.refl _ | exact VLe.any _ | exact VLe.nil _ _ | exact VLe.full _ _ | (refine VLe.agg' ?_; repeat (first | exact VLeL.nil | refine VLeL.cons (by first | exact VLe.refl _ | exact VLe.any _ | exact VLe.nil _ _) ?_))) ?_)
                      · rintro σ0 σ hw ⟨k, hk, x17, L, hA, h, rfl⟩
                        rcases k with _ | n
                        · simp [go_override_formed_J5] at h
                        · rw [go_override_formed_J5] at h
                          refine ⟨⟨an 5 (.bool x17 :: an 4 (.sl 3 (a0.map GOver.el) false :: .int .i64 (a0.length : Int) :: .int .i64 x1 :: an 49 [])), ⟨lv + 1, L, E⟩, [], E⟩, hw.trans (weak_tmps ?_), n, by omega, x17, L, hA, h, rfl⟩
                          (try simp only [an, List.map_cons, List.map_nil]); repeat (first | exact VLeL.nil | refine VLeL.cons (by first | exact VLe.refl _ | exact VLe.any _ | exact VLe.nil _ _ | exact VLe.full _ _ | (refine VLe.agg' ?_; repeat (first | exact VLeL.nil | refine VLeL.cons (by first | exact VLe.refl _ | exact VLe.any _ | exact VLe.nil _ _) ?_))) ?_)
                    · have h := ite_f hb h
                      repeat refine sat_seq ?_
                      refine satO_reg ?_
                      have g0 := hA.get (k := 0) rfl
                      refine satO_step 2 [] ⟨an 4 (.ptr (lv + 1) i6 0 :: .bool x7 :: an 4 (.sl 3 (a0.map GOver.el) false :: .int .i64 (a0.length : Int) :: .int .i64 x1 :: an 12 (.ptr (lv + 1) i6 1 :: .int .u8 x2.kind :: .bool (x2.kind == 1) :: .bool (x2.kind == 1) :: an 6 (.bool (x2.kind == 2) :: .bool (x2.kind == 2) :: an 6 (.bool (x2.kind == 3) :: .bool (x2.kind == 3) :: an 17 []))))), ⟨lv + 1, L, E⟩, [], E⟩ [] (by simp -implicitDefEqProofs [GOver.cs, g0]) claims_nil ?_
                      refine satO_nil (by simp) ?_
                      repeat refine sat_seq ?_
                      refine sat_meet (fun σ => ∃ (k : Nat), k ≤ n ∧ ∃ (x22 : Bool) (L : List (Option AObj)), AccG (lv + 1) L [] [] ∧ go_override_formed_J6 k a0 x1 x22 = some r ∧ σ = ⟨an 5 (.bool x22 :: an 4 (.sl 3 (a0.map GOver.el) false :: .int .i64 (a0.length : Int) :: .int .i64 x1 :: an 49 [])), ⟨lv + 1, L, E⟩, [], E⟩) ?_ ?_
                      · refine sat_cond rfl (fun hb => ?_) (fun hb => ?_)
                        · have h := ite_t hb h
                          repeat refine sat_seq ?_
                          refine satO_reg ?_
                          have g0 := hA.get (k := 0) rfl
                          refine satO_step 1 [] ⟨an 4 (.ptr (lv + 1) i6 0 :: .bool x7 :: .fn 48 [] [] :: an 3 (.sl 3 (a0.map GOver.el) false :: .int .i64 (a0.length : Int) :: .int .i64 x1 :: an 12 (.ptr (lv + 1) i6 1 :: .int .u8 x2.kind :: .bool (x2.kind == 1) :: .bool (x2.kind == 1) :: an 6 (.bool (x2.kind == 2) :: .bool (x2.kind == 2) :: an 6 (.bool (x2.kind == 3) :: .bool (x2.kind == 3) :: an 17 []))))), ⟨lv + 1, L, E⟩, [], E⟩ [] (by simp -implicitDefEqProofs [GOver.cs, g0]) claims_nil ?_
                          refine satO_nil (by simp) ?_
                          repeat refine sat_seq ?_
                          refine sat_meet (fun σ => ∃ (k : Nat), k ≤ n ∧ ∃ (x23 : Bool) (L : List (Option AObj)), AccG (lv + 1) L [] [] ∧ go_override_formed_J7 k a0 x1 x23 = some r ∧ σ = ⟨an 5 (.bool x23 :: an 4 (.sl 3 (a0.map GOver.el) false :: .int .i64 (a0.length : Int) :: .int .i64 x1 :: an 49 [])), ⟨lv + 1, L, E⟩, [], E⟩) ?_ ?_
                          · refine satO_reg ?_
                            rcases Bool.eq_false_or_eq_true x7 with hg24 | hg29
                            · have h := ite_t hg24 h
                              have hg24n := hg24
                              try simp at hg24n
                              rcases Bool.eq_false_or_eq_true (decide ((x2.name.length : Int) ≤ 60)) with hg25 | hg28
                              · have h := ite_t hg25 h
                                have hg25n := hg25
                                try simp at hg25n
                                obtain ⟨y26, q27, h⟩ := bnd_hi h
                                have g0 := hA.get (k := 0) rfl
                                refine satO_step 15 [(.int .i64 y26, none)] ⟨an 4 (.ptr (lv + 1) i6 0 :: .bool (decide (y26 < 0)) :: .fn 48 [] [] :: an 3 (.sl 3 (a0.map GOver.el) false :: .int .i64 (a0.length : Int) :: .int .i64 x1 :: an 12 (.ptr (lv + 1) i6 1 :: .int .u8 x2.kind :: .bool (x2.kind == 1) :: .bool (x2.kind == 1) :: an 6 (.bool (x2.kind == 2) :: .bool (x2.kind == 2) :: an 6 (.bool (x2.kind == 3) :: .bool (x2.kind == 3) :: .bool x7 :: .bool x7 :: .ptr (lv + 1) i6 2 :: .str x2.name :: .int .i64 (x2.name.length : Int) :: .bool (decide ((x2.name.length : Int) ≤ 60)) :: .bool (decide ((x2.name.length : Int) ≤ 60)) :: .bool (decide ((x2.name.length : Int) ≤ 60)) :: .ptr (lv + 1) i6 2 :: .str x2.name :: .fn 48 [] [] :: .int .i64 y26 :: .bool (decide (y26 < 0)) :: .bool (decide (y26 < 0)) :: an 3 []))))), ⟨lv + 1, L, E⟩, [], E⟩ [⟨49, [.str x2.name, .fn 48 [] []], ⟨lv + 1, L, E⟩, .int .i64 y26, ⟨lv + 1, L, E⟩⟩] (by first | (simp -implicitDefEqProofs [GOver.cs, g0, hg24, hg25]; done) | simp -implicitDefEqProofs [GOver.cs, g0, hg24, hg25, hg24n, hg25n]) (claims_cons (go_strings_IndexFunc__override_formed_1_ok _ _ _ q27 _) claims_nil) ?_
                                refine satO_nil (by simp) ?_
                                have hA : AccG (lv + 1) L [] [] := hA.sel [] (by simp) rfl (.cons _ .slnil)
                                refine ⟨⟨an 5 (.bool (decide (y26 < 0)) :: an 4 (.sl 3 (a0.map GOver.el) false :: .int .i64 (a0.length : Int) :: .int .i64 x1 :: an 49 [])), ⟨lv + 1, L, E⟩, [], E⟩, weak_tmps ?_, n, by omega, (decide (y26 < 0)), L, hA, h, rfl⟩
                                (try simp only [an, List.map_cons, List.map_nil]); repeat (first | exact VLeL.nil | refine VLeL.cons (by first | exact VLe.refl _ | exact VLe.any _ | exact VLe.nil _ _ | exact VLe.full _ _ | (refine VLe.agg' ?_; repeat (first | exact VLeL.nil | refine VLeL.cons (by first | exact VLe.refl _ | exact VLe.any _ | exact VLe.nil _ _) ?_))) ?_)
                              · have h := ite_f hg28 h
                                have hg28n := hg28
                                try simp at hg28n
                                have g0 := hA.get (k := 0) rfl
                                refine satO_step 15 [] ⟨an 4 (.ptr (lv + 1) i6 0 :: .bool false :: .fn 48 [] [] :: an 3 (.sl 3 (a0.map GOver.el) false :: .int .i64 (a0.length : Int) :: .int .i64 x1 :: an 12 (.ptr (lv + 1) i6 1 :: .int .u8 x2.kind :: .bool (x2.kind == 1) :: .bool (x2.kind == 1) :: an 6 (.bool (x2.kind == 2) :: .bool (x2.kind == 2) :: an 6 (.bool (x2.kind == 3) :: .bool (x2.kind == 3) :: .bool x7 :: .bool x7 :: .ptr (lv + 1) i6 2 :: .str x2.name :: .int .i64 (x2.name.length : Int) :: .bool (decide ((x2.name.length : Int) ≤ 60)) :: .bool (decide ((x2.name.length : Int) ≤ 60)) :: .bool (decide ((x2.name.length : Int) ≤ 60)) :: .tup [] :: .tup [] :: .tup [] :: .tup [] :: .tup [] :: .bool false :: an 3 []))))), ⟨lv + 1, L, E⟩, [], E⟩ [] (by first | (simp -implicitDefEqProofs [GOver.cs, g0, hg24, hg28]; done) | simp -implicitDefEqProofs [GOver.cs, g0, hg24, hg28, hg24n, hg28n]) claims_nil ?_
                                refine satO_nil (by simp) ?_
                                have hA : AccG (lv + 1) L [] [] := hA.sel [] (by simp) rfl (.cons _ .slnil)
                                refine ⟨⟨an 5 (.bool false :: an 4 (.sl 3 (a0.map GOver.el) false :: .int .i64 (a0.length : Int) :: .int .i64 x1 :: an 49 [])), ⟨lv + 1, L, E⟩, [], E⟩, weak_tmps ?_, n, by omega, false, L, hA, h, rfl⟩
                                (try simp only [an, List.map_cons, List.map_nil]); repeat (first | exact VLeL.nil | refine VLeL.cons (by first | exact VLe.refl _ | exact VLe.any _ | exact VLe.nil _ _ | exact VLe.full _ _ | (refine VLe.agg' ?_; repeat (first | exact VLeL.nil | refine VLeL.cons (by first | exact VLe.refl _ | exact VLe.any _ | exact VLe.nil _ _) ?_))) ?_)
                            · have h := ite_f hg29 h
                              have hg29n := hg29
                              try simp at hg29n
                              have g0 := hA.get (k := 0) rfl
                              refine satO_step 15 [] ⟨an 4 (.ptr (lv + 1) i6 0 :: .bool false :: .fn 48 [] [] :: an 3 (.sl 3 (a0.map GOver.el) false :: .int .i64 (a0.length : Int) :: .int .i64 x1 :: an 12 (.ptr (lv + 1) i6 1 :: .int .u8 x2.kind :: .bool (x2.kind == 1) :: .bool (x2.kind == 1) :: an 6 (.bool (x2.kind == 2) :: .bool (x2.kind == 2) :: an 6 (.bool (x2.kind == 3) :: .bool (x2.kind == 3) :: .bool x7 :: .bool x7 :: .tup [] :: .tup [] :: .tup [] :: .tup [] :: .bool false :: .bool false :: .tup [] :: .tup [] :: .tup [] :: .tup [] :: .tup [] :: .bool false :: an 3 []))))), ⟨lv + 1, L, E⟩, [], E⟩ [] (by first | (simp -implicitDefEqProofs [GOver.cs, g0, hg29]; done) | simp -implicitDefEqProofs [GOver.cs, g0, hg29, hg29n]) claims_nil ?_
                              refine satO_nil (by simp) ?_
                              have hA : AccG (lv + 1) L [] [] := hA.sel [] (by simp) rfl (.cons _ .slnil)
                              refine ⟨⟨an 5 (.bool false :: an 4 (.sl 3 (a0.map GOver.el) false :: .int .i64 (a0.length : Int) :: .int .i64 x1 :: an 49 [])), ⟨lv + 1, L, E⟩, [], E⟩, weak_tmps ?_, n, by omega, false, L, hA, h, rfl⟩
                              (try simp only [an, List.map_cons, List.map_nil]); repeat (first | exact VLeL.nil | refine VLeL.cons (by first | exact VLe.refl _ | exact VLe.any _ | exact VLe.nil _ _ | exact VLe.full _ _ | (refine VLe.agg' ?_; repeat (first | exact VLeL.nil | refine VLeL.cons (by first | exact VLe.refl _ | exact VLe.any _ | exact VLe.nil _ _) ?_))) ?_)
                          · rintro σ0 σ hw ⟨k, hk, x23, L, hA, h, rfl⟩
                            rcases k with _ | n
                            · simp [go_override_formed_J7] at h
                            · rw [go_override_formed_J7] at h
                              refine ⟨⟨an 5 (.bool x23 :: an 4 (.sl 3 (a0.map GOver.el) false :: .int .i64 (a0.length : Int) :: .int .i64 x1 :: an 49 [])), ⟨lv + 1, L, E⟩, [], E⟩, hw.trans (weak_tmps ?_), n, by omega, x23, L, hA, h, rfl⟩
                              (try simp only [an, List.map_cons, List.map_nil]); repeat (first | exact VLeL.nil | refine VLeL.cons (by first | exact VLe.refl _ | exact VLe.any _ | exact VLe.nil _ _ | exact VLe.full _ _ | (refine VLe.agg' ?_; repeat (first | exact VLeL.nil | refine VLeL.cons (by first | exact VLe.refl _ | exact VLe.any _ | exact VLe.nil _ _) ?_))) ?_)
                        · have h := ite_f hb h
                          repeat refine sat_seq ?_
                          refine satO_reg ?_
                          have g0 := hA.get (k := 0) rfl
                          refine satO_step 1 [] ⟨an 4 (.ptr (lv + 1) i6 0 :: .bool false :: an 4 (.sl 3 (a0.map GOver.el) false :: .int .i64 (a0.length : Int) :: .int .i64 x1 :: an 12 (.ptr (lv + 1) i6 1 :: .int .u8 x2.kind :: .bool (x2.kind == 1) :: .bool (x2.kind == 1) :: an 6 (.bool (x2.kind == 2) :: .bool (x2.kind == 2) :: an 6 (.bool (x2.kind == 3) :: .bool (x2.kind == 3) :: an 17 []))))), ⟨lv + 1, L, E⟩, [], E⟩ [] (by simp -implicitDefEqProofs [GOver.cs, g0]) claims_nil ?_
                          refine satO_nil (by simp) ?_
                          have hA : AccG (lv + 1) L [] [] := hA.sel [] (by simp) rfl (.cons _ .slnil)
                          refine ⟨⟨an 5 (.bool false :: an 4 (.sl 3 (a0.map GOver.el) false :: .int .i64 (a0.length : Int) :: .int .i64 x1 :: an 49 [])), ⟨lv + 1, L, E⟩, [], E⟩, weak_tmps ?_, n, by omega, false, L, hA, h, rfl⟩
                          (try simp only [an, List.map_cons, List.map_nil]); repeat (first | exact VLeL.nil | refine VLeL.cons (by first | exact VLe.refl _ | exact VLe.any _ | exact VLe.nil _ _ | exact VLe.full _ _ | (refine VLe.agg' ?_; repeat (first | exact VLeL.nil | refine VLeL.cons (by first | exact VLe.refl _ | exact VLe.any _ | exact VLe.nil _ _) ?_))) ?_)
                      · rintro σ0 σ hw ⟨k, hk, x22, L, hA, h, rfl⟩
                        rcases k with _ | n
                        · simp [go_override_formed_J6] at h
                        · rw [go_override_formed_J6] at h
                          refine ⟨⟨an 5 (.bool x22 :: an 4 (.sl 3 (a0.map GOver.el) false :: .int .i64 (a0.length : Int) :: .int .i64 x1 :: an 49 [])), ⟨lv + 1, L, E⟩, [], E⟩, hw.trans (weak_tmps ?_), n, by omega, x22, L, hA, h, rfl⟩
                          (try simp only [an, List.map_cons, List.map_nil]); repeat (first | exact VLeL.nil | refine VLeL.cons (by first | exact VLe.refl _ | exact VLe.any _ | exact VLe.nil _ _ | exact VLe.full _ _ | (refine VLe.agg' ?_; repeat (first | exact VLeL.nil | refine VLeL.cons (by first | exact VLe.refl _ | exact VLe.any _ | exact VLe.nil _ _) ?_))) ?_)
                  · rintro σ0 σ hw ⟨k, hk, x16, L, hA, h, rfl⟩
                    rcases k with _ | n
                    · simp [go_override_formed_J4] at h
                    · rw [go_override_formed_J4] at h
                      refine ⟨⟨an 5 (.bool x16 :: an 4 (.sl 3 (a0.map GOver.el) false :: .int .i64 (a0.length : Int) :: .int .i64 x1 :: an 49 [])), ⟨lv + 1, L, E⟩, [], E⟩, hw.trans (weak_tmps ?_), n, by omega, x16, L, hA, h, rfl⟩
                      (try simp only [an, List.map_cons, List.map_nil]); repeat (first | exact VLeL.nil | refine VLeL.cons (by first | exact VLe.refl _ | exact VLe.any _ | exact VLe.nil _ _ | exact VLe.full _ _ | (refine VLe.agg' ?_; repeat (first | exact VLeL.nil | refine VLeL.cons (by first | exact VLe.refl _ | exact VLe.any _ | exact VLe.nil _ _) ?_))) ?_)
              · rintro σ0 σ hw ⟨k, hk, x12, L, hA, h, rfl⟩
                rcases k with _ | n
                · simp [go_override_formed_J2] at h
                · rw [go_override_formed_J2] at h
                  refine sat_weak hw ?_
                  repeat refine sat_seq ?_
                  refine satO_reg ?_
                  refine satO_step 2 [] ⟨an 5 (.bool x12 :: an 4 (.sl 3 (a0.map GOver.el) false :: .int .i64 (a0.length : Int) :: .int .i64 x1 :: an 46 (.bool x12 :: .bool (!x12) :: an 1 []))), ⟨lv + 1, L, E⟩, [], E⟩ [] (by simp -implicitDefEqProofs [GOver.cs]) claims_nil ?_
                  refine satO_nil (by simp) ?_
                  repeat refine sat_seq ?_
                  refine sat_cond rfl (fun hb => ?_) (fun hb => ?_)
                  · have h := ite_t hb h
                    repeat refine sat_seq ?_
                    refine satO_reg ?_
                    refine satO_step 1 [] ⟨an 2 (.int .i64 8 :: an 2 (.bool x12 :: an 4 (.sl 3 (a0.map GOver.el) false :: .int .i64 (a0.length : Int) :: .int .i64 x1 :: an 46 (.bool x12 :: .bool (!x12) :: an 1 [])))), ⟨lv + 1, L, E⟩, [], E⟩ [] (by simp -implicitDefEqProofs [GOver.cs]) claims_nil ?_
                    refine satO_nil (by simp) ?_
                    repeat refine sat_seq ?_
                    refine sat_ret ?_
                    refine ends (v := .int .i64 8) (by simp [resultsV, resL, resV, tupOf, Try.f33, pLoad, GOver.cs]) rfl rfl ?_
                    injection h with h
                    subst h
                    exact (.keep _ (by simp [V.kin, V.kinL, GOver.cs]))
                  · have h := ite_f hb h
                    repeat refine sat_seq ?_
                    refine sat_skip ?_
                    repeat refine sat_seq ?_
                    refine satO_reg ?_
                    refine satO_step 2 [] ⟨an 5 (.bool x12 :: an 4 (.sl 3 (a0.map GOver.el) false :: .int .i64 (a0.length : Int) :: .int .i64 (IntKind.i64.wrap (x1 + 1)) :: an 46 (.bool x12 :: .bool (!x12) :: .int .i64 (IntKind.i64.wrap (x1 + 1)) :: []))), ⟨lv + 1, L, E⟩, [], E⟩ [] (by simp -implicitDefEqProofs [GOver.cs]) claims_nil ?_
                    refine satO_nil (by simp) ?_
                    refine ⟨n, ⟨an 10 (.sl 3 (a0.map GOver.el) false :: .int .i64 (a0.length : Int) :: .int .i64 (IntKind.i64.wrap (x1 + 1)) :: an 49 []), ⟨lv + 1, L, E⟩, [], E⟩, weak_tmps ?_, ⟨(IntKind.i64.wrap (x1 + 1)), L, by omega, hA, h, rfl⟩, by omega⟩
                    (try simp only [an, List.map_cons, List.map_nil]); repeat (first | exact VLeL.nil | refine VLeL.cons (by first | exact VLe.refl _ | exact VLe.any _ | exact VLe.nil _ _ | exact VLe.full _ _ | (refine VLe.agg' ?_; repeat (first | exact VLeL.nil | refine VLeL.cons (by first | exact VLe.refl _ | exact VLe.any _ | exact VLe.nil _ _) ?_))) ?_)
        · have h := ite_f hb h
          repeat refine sat_seq ?_
          refine sat_exit ?_
          repeat refine sat_seq ?_
          refine satO_reg ?_
          refine satO_step 1 [] ⟨an 2 (.int .i64 0 :: an 7 (.sl 3 (a0.map GOver.el) false :: .int .i64 (a0.length : Int) :: .int .i64 x1 :: .bool (decide (x1 < (a0.length : Int))) :: an 48 [])), ⟨lv + 1, L, E⟩, [], E⟩ [] (by simp -implicitDefEqProofs [GOver.cs]) claims_nil ?_
          refine satO_nil (by simp) ?_
          repeat refine sat_seq ?_
          refine sat_ret ?_
          refine ends (v := .int .i64 0) (by simp [resultsV, resL, resV, tupOf, Try.f33, pLoad, GOver.cs]) rfl rfl ?_
          injection h with h
          subst h
          exact (.keep _ (by simp [V.kin, V.kinL, GOver.cs]))
end Go.Proofs

namespace Go.Proofs
open Go Go.Ab
set_option maxRecDepth 10000
set_option maxHeartbeats 1000000
set_option linter.unusedSimpArgs false
set_option linter.unusedVariables false
theorem go_override_Attach_ok (n : Nat) (a0 : List GNode) (a1 : List GOver) (r : (List Bool) × Int) (h : go_override_Attach n a0 a1 = some r) : PCall Try.prog 15 [.sl 13 (a0.map GNode.el) false, .sl 3 (a1.map GOver.el) false] (.tup [.sl 1 (r.1.map V.bool) false, .int .i64 r.2]) := by
  rcases n with _ | n
  · simp [go_override_Attach] at h
  rw [go_override_Attach] at h
  refine pcall_of Try.func15 rfl Try.ntmps15 (fun _ _ => Try.call15 _ _) fun lv E => ?_
  simp only [List.length_cons, List.length_nil, Nat.reduceAdd, Nat.reduceSub, List.replicate, List.cons_append, List.nil_append]
  have hA := AccG.nil (lv + 1)
  generalize ([] : List (Option AObj)) = L at hA ⊢
  repeat refine sat_seq ?_
  refine satO_reg ?_
  refine satO_step 2 [] ⟨.sl 13 (a0.map GNode.el) false :: .sl 3 (a1.map GOver.el) false :: an 2 (.nils :: .int .i64 0 :: an 38 []), ⟨lv + 1, L, E⟩, [], E⟩ [] (by simp -implicitDefEqProofs []) claims_nil ?_
  refine satO_nil (by simp) ?_
  repeat refine sat_seq ?_
  refine satO_reg ?_
  obtain ⟨y1, q2, h⟩ := bnd_hi h
  refine satO_step 3 [(.int .i64 y1, none)] ⟨.sl 13 (a0.map GNode.el) false :: .sl 3 (a1.map GOver.el) false :: an 2 (.nils :: .int .i64 0 :: .int .i64 y1 :: an 6 (.sl 3 (a1.map GOver.el) false :: .int .i64 y1 :: an 29 [])), ⟨lv + 1, L, E⟩, [], E⟩ [⟨33, [.sl 3 (a1.map GOver.el) false], ⟨lv + 1, L, E⟩, .int .i64 y1, ⟨lv + 1, L, E⟩⟩] (by simp -implicitDefEqProofs []) (claims_cons (go_override_formed_ok _ _ _ q2 _) claims_nil) ?_
  refine satO_nil (by simp) ?_
  repeat refine sat_seq ?_
  refine satO_reg ?_
  refine satO_step 2 [] ⟨.sl 13 (a0.map GNode.el) false :: .sl 3 (a1.map GOver.el) false :: an 2 (.nils :: .int .i64 0 :: .int .i64 y1 :: an 6 (.sl 3 (a1.map GOver.el) false :: .int .i64 y1 :: .int .i64 y1 :: .bool (!(y1 == 0)) :: an 27 [])), ⟨lv + 1, L, E⟩, [], E⟩ [] (by simp -implicitDefEqProofs []) claims_nil ?_
  refine satO_nil (by simp) ?_
  repeat refine sat_seq ?_
  refine sat_cond rfl (fun hb => ?_) (fun hb => ?_)
  · have h := ite_t hb h
    repeat refine sat_seq ?_
    refine satO_reg ?_
    refine satO_step 3 [] ⟨.sl 13 (a0.map GNode.el) false :: .sl 3 (a1.map GOver.el) false :: an 2 (.nils :: .int .i64 y1 :: .int .i64 y1 :: an 6 (.sl 3 (a1.map GOver.el) false :: .int .i64 y1 :: .int .i64 y1 :: .bool (!(y1 == 0)) :: .int .i64 y1 :: an 26 [])), ⟨lv + 1, L, E⟩, [], E⟩ [] (by simp -implicitDefEqProofs []) claims_nil ?_
    refine satO_nil (by simp) ?_
    repeat refine sat_seq ?_
    refine sat_ret ?_
    refine ends (v := .tup [.nils, .int .i64 y1]) (by simp [resultsV, resL, resV, tupOf, Try.f15, pLoad]) rfl rfl ?_
    injection h with h
    subst h
    exact VS.tup' (.cons (.nil _ _) (.cons (.keep _ (by simp [V.kin, V.kinL])) .nil))
  · have h := ite_f hb h
    repeat refine sat_seq ?_
    refine sat_skip ?_
    repeat refine sat_seq ?_
    refine satO_reg ?_
    refine satO_step 1 [] ⟨.sl 13 (a0.map GNode.el) false :: .sl 3 (a1.map GOver.el) false :: an 2 (.nils :: .int .i64 0 :: .int .i64 y1 :: an 6 (.sl 3 (a1.map GOver.el) false :: .int .i64 y1 :: .int .i64 y1 :: .bool (!(y1 == 0)) :: an 1 (.map (lv + 1) L.length :: an 25 []))), ⟨lv + 1, (L ++ [some (.map [])]), E⟩, [], E⟩ [] (by simp -implicitDefEqProofs []) claims_nil ?_
    have hA : AccG (lv + 1) (L ++ [some (.map [])]) [] [(L.length, .map (([] : List (List UInt8 × Bool)).map fun p => (.str p.1, V.bool p.2)))] := hA.obj _
    generalize L.length = i4 at hA ⊢
    generalize (L ++ [some (.map [])]) = L at hA ⊢
    have g0 := hA.get (k := 0) rfl
    refine satO_step 1 [] ⟨.sl 13 (a0.map GNode.el) false :: .sl 3 (a1.map GOver.el) false :: an 2 (.nils :: .int .i64 0 :: .int .i64 y1 :: .map (lv + 1) i4 :: an 5 (.sl 3 (a1.map GOver.el) false :: .int .i64 y1 :: .int .i64 y1 :: .bool (!(y1 == 0)) :: an 1 (.map (lv + 1) i4 :: an 25 []))), ⟨lv + 1, L, E⟩, [], E⟩ [] (by simp -implicitDefEqProofs [g0]) claims_nil ?_
    refine satO_nil (by simp) ?_
    repeat refine sat_seq ?_
    refine satO_reg ?_
    have g0 := hA.get (k := 0) rfl
    refine satO_step 3 [] ⟨.sl 13 (a0.map GNode.el) false :: .sl 3 (a1.map GOver.el) false :: an 2 (.nils :: .int .i64 0 :: .int .i64 y1 :: .map (lv + 1) i4 :: an 5 (.sl 3 (a1.map GOver.el) false :: .int .i64 y1 :: .int .i64 y1 :: .bool (!(y1 == 0)) :: an 1 (.map (lv + 1) i4 :: .sl 13 (a0.map GNode.el) false :: .int .i64 (a0.length : Int) :: .int .i64 0 :: an 22 []))), ⟨lv + 1, L, E⟩, [], E⟩ [] (by simp -implicitDefEqProofs [g0]) claims_nil ?_
    refine satO_nil (by simp) ?_
    repeat refine sat_seq ?_
    refine sat_block ?_
    repeat refine sat_seq ?_
    refine sat_loop (fun k σ => ∃ (x5 : List (List UInt8 × Bool)) (x6 : Int) (L : List (Option AObj)), k ≤ n ∧ AccG (lv + 1) L [] [(i4, .map (x5.map fun p => (.str p.1, V.bool p.2)))] ∧ go_override_Attach_L1 k a0 a1 x5 x6 = some r ∧ σ = ⟨an 1 (.sl 3 (a1.map GOver.el) false :: an 5 (.map (lv + 1) i4 :: an 11 (.sl 13 (a0.map GNode.el) false :: .int .i64 (a0.length : Int) :: .int .i64 x6 :: an 22 []))), ⟨lv + 1, L, E⟩, [], E⟩) n ⟨an 1 (.sl 3 (a1.map GOver.el) false :: an 5 (.map (lv + 1) i4 :: an 11 (.sl 13 (a0.map GNode.el) false :: .int .i64 (a0.length : Int) :: .int .i64 0 :: an 22 []))), ⟨lv + 1, L, E⟩, [], E⟩ (weak_tmps ?_) ⟨([] : List (List UInt8 × Bool)), 0, L, Nat.le_refl _, hA, h, rfl⟩ ?_
    · (try simp only [an, List.map_cons, List.map_nil]); repeat (first | exact VLeL.nil | refine VLeL.cons (by first | exact VLe.refl _ | exact VLe.any _ | exact VLe.nil _ _ | exact VLe.full _ _ | (refine VLe.agg' ?_; repeat (first | exact VLeL.nil | refine VLeL.cons (by first | exact VLe.refl _ | exact VLe.any _ | exact VLe.nil _ _) ?_))) ?_)
    · rintro k σ ⟨x5, x6, L, hk, hA, h, rfl⟩
      rcases k with _ | n
      · simp [go_override_Attach_L1] at h
      · rw [go_override_Attach_L1] at h
        repeat refine sat_seq ?_
        refine satO_reg ?_
        have g0 := hA.get (k := 0) rfl
        refine satO_step 1 [] ⟨an 1 (.sl 3 (a1.map GOver.el) false :: an 5 (.map (lv + 1) i4 :: an 11 (.sl 13 (a0.map GNode.el) false :: .int .i64 (a0.length : Int) :: .int .i64 x6 :: .bool (decide (x6 < (a0.length : Int))) :: an 21 []))), ⟨lv + 1, L, E⟩, [], E⟩ [] (by simp -implicitDefEqProofs [g0]) claims_nil ?_
        refine satO_nil (by simp) ?_
        repeat refine sat_seq ?_
        refine sat_cond rfl (fun hb => ?_) (fun hb => ?_)
        · have h := ite_t hb h
          repeat refine sat_seq ?_
          refine sat_skip ?_
          repeat refine sat_seq ?_
          refine sat_block ?_
          repeat refine sat_seq ?_
          refine satO_reg ?_
          obtain ⟨x7, q8, h⟩ := bnd_hi h
          obtain ⟨q8, q9⟩ := ix_some q8
          have g0 := hA.get (k := 0) rfl
          refine satO_step 2 [] ⟨an 1 (.sl 3 (a1.map GOver.el) false :: an 5 (.map (lv + 1) i4 :: an 11 (.sl 13 (a0.map GNode.el) false :: .int .i64 (a0.length : Int) :: .int .i64 x6 :: .bool (decide (x6 < (a0.length : Int))) :: .ref x7.cs 0 :: .agg x7.cs :: an 19 []))), ⟨lv + 1, L, E⟩, [], E⟩ [] (by simp -implicitDefEqProofs [GNode.cs, g0, q8, q9, GNode.el_cs]) claims_nil ?_
          refine satO_step 1 [] ⟨an 1 (.sl 3 (a1.map GOver.el) false :: an 5 (.map (lv + 1) i4 :: an 1 (.ptr (lv + 1) L.length 0 :: an 9 (.sl 13 (a0.map GNode.el) false :: .int .i64 (a0.length : Int) :: .int .i64 x6 :: .bool (decide (x6 < (a0.length : Int))) :: .ref x7.cs 0 :: .agg x7.cs :: an 19 [])))), ⟨lv + 1, (L ++ [some (.cells [.str ([]), .str ([]), .nils, .int .u8 0, .int .i64 0, .int .i64 0, .int .i64 0, .int .i64 0, .int .i64 0, .int .i64 0, .str ([]), .int .i64 0, .bool false])]), E⟩, [], E⟩ [] (by simp -implicitDefEqProofs [GNode.cs]) claims_nil ?_
          have hA : AccG (lv + 1) (L ++ [some (.cells [.str ([]), .str ([]), .nils, .int .u8 0, .int .i64 0, .int .i64 0, .int .i64 0, .int .i64 0, .int .i64 0, .int .i64 0, .str ([]), .int .i64 0, .bool false])]) [] [(L.length, .cells [.str ([]), .str ([]), .nils, .int .u8 0, .int .i64 0, .int .i64 0, .int .i64 0, .int .i64 0, .int .i64 0, .int .i64 0, .str ([]), .int .i64 0, .bool false]), (i4, .map (x5.map fun p => (.str p.1, V.bool p.2)))] := hA.obj _
          generalize L.length = i11 at hA ⊢
          generalize (L ++ [some (.cells [.str ([]), .str ([]), .nils, .int .u8 0, .int .i64 0, .int .i64 0, .int .i64 0, .int .i64 0, .int .i64 0, .int .i64 0, .str ([]), .int .i64 0, .bool false])]) = L at hA ⊢
          have g0 := hA.get (k := 0) rfl
          have g1 := hA.get (k := 1) rfl
          refine satO_step 1 [] ⟨an 1 (.sl 3 (a1.map GOver.el) false :: an 5 (.map (lv + 1) i4 :: an 1 (.ptr (lv + 1) i11 0 :: an 9 (.sl 13 (a0.map GNode.el) false :: .int .i64 (a0.length : Int) :: .int .i64 x6 :: .bool (decide (x6 < (a0.length : Int))) :: .ref x7.cs 0 :: .agg x7.cs :: an 19 [])))), ⟨lv + 1, (L.set i11 (some (.cells x7.cs))), E⟩, [], E⟩ [] (by simp -implicitDefEqProofs [GNode.cs, g0, g1]) claims_nil ?_
          have hA : AccG (lv + 1) (L.set i11 (some (.cells x7.cs))) [] [(i11, .cells x7.cs), (i4, .map (x5.map fun p => (.str p.1, V.bool p.2)))] := hA.upd (k := 0) rfl _
          generalize (L.set i11 (some (.cells x7.cs))) = L at hA ⊢
          refine satO_nil (by simp) ?_
          repeat refine sat_seq ?_
          refine satO_reg ?_
          have g0 := hA.get (k := 0) rfl
          have g1 := hA.get (k := 1) rfl
          refine satO_step 3 [] ⟨an 1 (.sl 3 (a1.map GOver.el) false :: an 5 (.map (lv + 1) i4 :: an 1 (.ptr (lv + 1) i11 0 :: an 9 (.sl 13 (a0.map GNode.el) false :: .int .i64 (a0.length : Int) :: .int .i64 x6 :: .bool (decide (x6 < (a0.length : Int))) :: .ref x7.cs 0 :: .agg x7.cs :: .map (lv + 1) i4 :: .ptr (lv + 1) i11 0 :: .str x7.path :: an 16 [])))), ⟨lv + 1, L, E⟩, [], E⟩ [] (by simp -implicitDefEqProofs [GNode.cs, g0, g1]) claims_nil ?_
          have g1 := hA.get (k := 1) rfl
          have q12 := update_str (P := Try.prog) (lv := lv + 1) (E := E) (f := V.bool) Try.underlying78 Try.underlying9 g1 x7.path true (y := .bool true) (by first | rfl | simp)
          refine satO_step 1 [] ⟨an 1 (.sl 3 (a1.map GOver.el) false :: an 5 (.map (lv + 1) i4 :: an 1 (.ptr (lv + 1) i11 0 :: an 9 (.sl 13 (a0.map GNode.el) false :: .int .i64 (a0.length : Int) :: .int .i64 x6 :: .bool (decide (x6 < (a0.length : Int))) :: .ref x7.cs 0 :: .agg x7.cs :: .map (lv + 1) i4 :: .ptr (lv + 1) i11 0 :: .str x7.path :: an 16 [])))), ⟨lv + 1, (L.set i4 (some (.map ((mput x5 x7.path true).map fun p => (.str p.1, V.bool p.2))))), E⟩, [], E⟩ [] (by simp -implicitDefEqProofs [q12]) claims_nil ?_
          have hA : AccG (lv + 1) (L.set i4 (some (.map ((mput x5 x7.path true).map fun p => (.str p.1, V.bool p.2))))) [] [(i11, .cells x7.cs), (i4, .map ((mput x5 x7.path true).map fun p => (.str p.1, V.bool p.2)))] := hA.upd (k := 1) rfl _
          generalize (L.set i4 (some (.map ((mput x5 x7.path true).map fun p => (.str p.1, V.bool p.2))))) = L at hA ⊢
          refine satO_nil (by simp) ?_
          repeat refine sat_seq ?_
          refine satO_reg ?_
          have g0 := hA.get (k := 0) rfl
          have g1 := hA.get (k := 1) rfl
          refine satO_step 2 [] ⟨an 1 (.sl 3 (a1.map GOver.el) false :: an 5 (.map (lv + 1) i4 :: an 1 (.ptr (lv + 1) i11 0 :: an 9 (.sl 13 (a0.map GNode.el) false :: .int .i64 (a0.length : Int) :: .int .i64 (IntKind.i64.wrap (x6 + 1)) :: .bool (decide (x6 < (a0.length : Int))) :: .ref x7.cs 0 :: .agg x7.cs :: .map (lv + 1) i4 :: .ptr (lv + 1) i11 0 :: .str x7.path :: .int .i64 (IntKind.i64.wrap (x6 + 1)) :: an 15 [])))), ⟨lv + 1, L, E⟩, [], E⟩ [] (by simp -implicitDefEqProofs [GNode.cs, g0, g1]) claims_nil ?_
          refine satO_nil (by simp) ?_
          have hA : AccG (lv + 1) L [] [(i4, .map ((mput x5 x7.path true).map fun p => (.str p.1, V.bool p.2)))] := hA.sel [] (by simp) rfl (.cons _ (.cons_cons _ .slnil))
          refine ⟨n, ⟨an 1 (.sl 3 (a1.map GOver.el) false :: an 5 (.map (lv + 1) i4 :: an 11 (.sl 13 (a0.map GNode.el) false :: .int .i64 (a0.length : Int) :: .int .i64 (IntKind.i64.wrap (x6 + 1)) :: an 22 []))), ⟨lv + 1, L, E⟩, [], E⟩, weak_tmps ?_, ⟨(mput x5 x7.path true), (IntKind.i64.wrap (x6 + 1)), L, by omega, hA, h, rfl⟩, by omega⟩
          (try simp only [an, List.map_cons, List.map_nil]); repeat (first | exact VLeL.nil | refine VLeL.cons (by first | exact VLe.refl _ | exact VLe.any _ | exact VLe.nil _ _ | exact VLe.full _ _ | (refine VLe.agg' ?_; repeat (first | exact VLeL.nil | refine VLeL.cons (by first | exact VLe.refl _ | exact VLe.any _ | exact VLe.nil _ _) ?_))) ?_)
        · have h := ite_f hb h
          repeat refine sat_seq ?_
          refine sat_exit ?_
          repeat refine sat_seq ?_
          refine satO_reg ?_
          have g0 := hA.get (k := 0) rfl
          refine satO_step 1 [] ⟨an 1 (.sl 3 (a1.map GOver.el) false :: an 5 (.map (lv + 1) i4 :: an 2 (.nils :: an 8 (.sl 13 (a0.map GNode.el) false :: .int .i64 (a0.length : Int) :: .int .i64 x6 :: .bool (decide (x6 < (a0.length : Int))) :: an 21 [])))), ⟨lv + 1, L, E⟩, [], E⟩ [] (by simp -implicitDefEqProofs [GNode.cs, g0]) claims_nil ?_
          refine satO_nil (by simp) ?_
          repeat refine sat_seq ?_
          refine satO_reg ?_
          have g0 := hA.get (k := 0) rfl
          refine satO_step 3 [] ⟨an 1 (.sl 3 (a1.map GOver.el) false :: an 5 (.map (lv + 1) i4 :: an 2 (.nils :: an 8 (.sl 13 (a0.map GNode.el) false :: .int .i64 (a0.length : Int) :: .int .i64 x6 :: .bool (decide (x6 < (a0.length : Int))) :: an 6 (.sl 3 (a1.map GOver.el) false :: .int .i64 (a1.length : Int) :: .int .i64 0 :: an 12 []))))), ⟨lv + 1, L, E⟩, [], E⟩ [] (by simp -implicitDefEqProofs [GNode.cs, g0]) claims_nil ?_
          refine satO_nil (by simp) ?_
          repeat refine sat_seq ?_
          refine sat_block ?_
          repeat refine sat_seq ?_
          have hA := hA.cons 4 1
          refine sat_loop (fun k σ => ∃ (x16 : Int) (v14 : V) (l15 : List Bool) (L : List (Option AObj)), k ≤ n ∧ AccG (lv + 1) L [⟨4, 1, v14, l15.map V.bool⟩] [(i4, .map (x5.map fun p => (.str p.1, V.bool p.2)))] ∧ go_override_Attach_L2 k a1 x5 l15 x16 = some r ∧ σ = ⟨an 7 (.map (lv + 1) i4 :: an 2 (v14 :: an 18 (.sl 3 (a1.map GOver.el) false :: .int .i64 (a1.length : Int) :: .int .i64 x16 :: an 12 []))), ⟨lv + 1, L, E⟩, [], E⟩) n ⟨an 7 (.map (lv + 1) i4 :: an 2 (.nils :: an 18 (.sl 3 (a1.map GOver.el) false :: .int .i64 (a1.length : Int) :: .int .i64 0 :: an 12 []))), ⟨lv + 1, L, E⟩, [], E⟩ (weak_tmps ?_) ⟨0, .nils, ([]), L, Nat.le_refl _, hA, h, rfl⟩ ?_
          · (try simp only [an, List.map_cons, List.map_nil]); repeat (first | exact VLeL.nil | refine VLeL.cons (by first | exact VLe.refl _ | exact VLe.any _ | exact VLe.nil _ _ | exact VLe.full _ _ | (refine VLe.agg' ?_; repeat (first | exact VLeL.nil | refine VLeL.cons (by first | exact VLe.refl _ | exact VLe.any _ | exact VLe.nil _ _) ?_))) ?_)
          · rintro k σ ⟨x16, v14, l15, L, hk, hA, h, rfl⟩
            rcases k with _ | n
            · simp [go_override_Attach_L2] at h
            · rw [go_override_Attach_L2] at h
              repeat refine sat_seq ?_
              refine satO_reg ?_
              have g0 := hA.get (k := 0) rfl
              obtain ⟨w0a, w0b, w0c⟩ := hA.whole (j := 0) rfl
              refine satO_step 1 [] ⟨an 7 (.map (lv + 1) i4 :: an 2 (v14 :: an 18 (.sl 3 (a1.map GOver.el) false :: .int .i64 (a1.length : Int) :: .int .i64 x16 :: .bool (decide (x16 < (a1.length : Int))) :: an 11 []))), ⟨lv + 1, L, E⟩, [], E⟩ [] (by simp -implicitDefEqProofs [GNode.cs, g0, w0a, w0b, w0c]) claims_nil ?_
              refine satO_nil (by simp) ?_
              repeat refine sat_seq ?_
              refine sat_cond rfl (fun hb => ?_) (fun hb => ?_)
              · have h := ite_t hb h
                repeat refine sat_seq ?_
                refine sat_skip ?_
                repeat refine sat_seq ?_
                refine sat_block ?_
                repeat refine sat_seq ?_
                refine satO_reg ?_
                obtain ⟨x17, q18, h⟩ := bnd_hi h
                obtain ⟨q18, q19⟩ := ix_some q18
                have g0 := hA.get (k := 0) rfl
                obtain ⟨w0a, w0b, w0c⟩ := hA.whole (j := 0) rfl
                refine satO_step 2 [] ⟨an 7 (.map (lv + 1) i4 :: an 2 (v14 :: an 18 (.sl 3 (a1.map GOver.el) false :: .int .i64 (a1.length : Int) :: .int .i64 x16 :: .bool (decide (x16 < (a1.length : Int))) :: .ref x17.cs 0 :: .agg x17.cs :: an 9 []))), ⟨lv + 1, L, E⟩, [], E⟩ [] (by simp -implicitDefEqProofs [GNode.cs, GOver.cs, g0, w0a, w0b, w0c, q18, q19, GOver.el_cs]) claims_nil ?_
                refine satO_step 1 [] ⟨an 7 (.map (lv + 1) i4 :: an 2 (v14 :: an 1 (.ptr (lv + 1) L.length 0 :: an 16 (.sl 3 (a1.map GOver.el) false :: .int .i64 (a1.length : Int) :: .int .i64 x16 :: .bool (decide (x16 < (a1.length : Int))) :: .ref x17.cs 0 :: .agg x17.cs :: an 9 [])))), ⟨lv + 1, (L ++ [some (.cells [.str ([]), .int .u8 0, .str ([])])]), E⟩, [], E⟩ [] (by simp -implicitDefEqProofs [GNode.cs, GOver.cs]) claims_nil ?_
                have hA : AccG (lv + 1) (L ++ [some (.cells [.str ([]), .int .u8 0, .str ([])])]) [⟨4, 1, v14, l15.map V.bool⟩] [(L.length, .cells [.str ([]), .int .u8 0, .str ([])]), (i4, .map (x5.map fun p => (.str p.1, V.bool p.2)))] := hA.obj _
                generalize L.length = i21 at hA ⊢
                generalize (L ++ [some (.cells [.str ([]), .int .u8 0, .str ([])])]) = L at hA ⊢
                have g0 := hA.get (k := 0) rfl
                have g1 := hA.get (k := 1) rfl
                obtain ⟨w0a, w0b, w0c⟩ := hA.whole (j := 0) rfl
                refine satO_step 1 [] ⟨an 7 (.map (lv + 1) i4 :: an 2 (v14 :: an 1 (.ptr (lv + 1) i21 0 :: an 16 (.sl 3 (a1.map GOver.el) false :: .int .i64 (a1.length : Int) :: .int .i64 x16 :: .bool (decide (x16 < (a1.length : Int))) :: .ref x17.cs 0 :: .agg x17.cs :: an 9 [])))), ⟨lv + 1, (L.set i21 (some (.cells x17.cs))), E⟩, [], E⟩ [] (by simp -implicitDefEqProofs [GNode.cs, GOver.cs, g0, g1, w0a, w0b, w0c]) claims_nil ?_
                have hA : AccG (lv + 1) (L.set i21 (some (.cells x17.cs))) [⟨4, 1, v14, l15.map V.bool⟩] [(i21, .cells x17.cs), (i4, .map (x5.map fun p => (.str p.1, V.bool p.2)))] := hA.upd (k := 0) rfl _
                generalize (L.set i21 (some (.cells x17.cs))) = L at hA ⊢
                refine satO_nil (by simp) ?_
                repeat refine sat_seq ?_
                refine satO_reg ?_
                have g23 := hA.get (k := 1) rfl
                have q22 := lookup_str (P := Try.prog) (H := ⟨lv + 1, L, E⟩) (l := lv + 1) (i := i4) (m := x5) (f := V.bool) Try.underlying78 Try.underlying9 Try.zeroV4 (by simp [Heap.get, g23]) x17.path false (by first | rfl | simp)
                have g0 := hA.get (k := 0) rfl
                have g1 := hA.get (k := 1) rfl
                obtain ⟨w0a, w0b, w0c⟩ := hA.whole (j := 0) rfl
                refine satO_step 6 [] ⟨an 7 (.map (lv + 1) i4 :: an 2 (v14 :: an 1 (.ptr (lv + 1) i21 0 :: an 16 (.sl 3 (a1.map GOver.el) false :: .int .i64 (a1.length : Int) :: .int .i64 x16 :: .bool (decide (x16 < (a1.length : Int))) :: .ref x17.cs 0 :: .agg x17.cs :: v14 :: .map (lv + 1) i4 :: .ptr (lv + 1) i21 0 :: .str x17.path :: .bool ((mget x5 x17.path).getD false) :: .sl 1 [.bool ((mget x5 x17.path).getD false)] true :: an 3 [])))), ⟨lv + 1, L, E⟩, [], E⟩ [] (by simp -implicitDefEqProofs [GNode.cs, GOver.cs, g0, g1, w0a, w0b, w0c, q22.1]) claims_nil ?_
                obtain ⟨l24, q25, h⟩ := bnd_hi h
                obtain ⟨q25, q26⟩ := ext_some q25
                obtain ⟨v27, L, q28, hA⟩ := hA.push (j := 0) rfl [.bool ((mget x5 x17.path).getD false)] (by simpa using q25) E
                refine satO_step 1 [] ⟨an 7 (.map (lv + 1) i4 :: an 2 (v14 :: an 1 (.ptr (lv + 1) i21 0 :: an 16 (.sl 3 (a1.map GOver.el) false :: .int .i64 (a1.length : Int) :: .int .i64 x16 :: .bool (decide (x16 < (a1.length : Int))) :: .ref x17.cs 0 :: .agg x17.cs :: v14 :: .map (lv + 1) i4 :: .ptr (lv + 1) i21 0 :: .str x17.path :: .bool ((mget x5 x17.path).getD false) :: .sl 1 [.bool ((mget x5 x17.path).getD false)] true :: v27 :: an 2 [])))), ⟨lv + 1, L, E⟩, [], E⟩ [] (by simp -implicitDefEqProofs [q28]) claims_nil ?_
                have hA : AccG (lv + 1) L [⟨4, 1, v27, l24.map V.bool⟩] [(i21, .cells x17.cs), (i4, .map (x5.map fun p => (.str p.1, V.bool p.2)))] := by rw [q26]; simpa using hA
                have g0 := hA.get (k := 0) rfl
                have g1 := hA.get (k := 1) rfl
                obtain ⟨w0a, w0b, w0c⟩ := hA.whole (j := 0) rfl
                refine satO_step 1 [] ⟨an 7 (.map (lv + 1) i4 :: an 2 (v27 :: an 1 (.ptr (lv + 1) i21 0 :: an 16 (.sl 3 (a1.map GOver.el) false :: .int .i64 (a1.length : Int) :: .int .i64 x16 :: .bool (decide (x16 < (a1.length : Int))) :: .ref x17.cs 0 :: .agg x17.cs :: v14 :: .map (lv + 1) i4 :: .ptr (lv + 1) i21 0 :: .str x17.path :: .bool ((mget x5 x17.path).getD false) :: .sl 1 [.bool ((mget x5 x17.path).getD false)] true :: v27 :: an 2 [])))), ⟨lv + 1, L, E⟩, [], E⟩ [] (by simp -implicitDefEqProofs [GNode.cs, GOver.cs, g0, g1, w0a, w0b, w0c]) claims_nil ?_
                refine satO_nil (by simp) ?_
                repeat refine sat_seq ?_
                refine satO_reg ?_
                have g0 := hA.get (k := 0) rfl
                have g1 := hA.get (k := 1) rfl
                obtain ⟨w0a, w0b, w0c⟩ := hA.whole (j := 0) rfl
                refine satO_step 2 [] ⟨an 7 (.map (lv + 1) i4 :: an 2 (v27 :: an 1 (.ptr (lv + 1) i21 0 :: an 16 (.sl 3 (a1.map GOver.el) false :: .int .i64 (a1.length : Int) :: .int .i64 (IntKind.i64.wrap (x16 + 1)) :: .bool (decide (x16 < (a1.length : Int))) :: .ref x17.cs 0 :: .agg x17.cs :: v14 :: .map (lv + 1) i4 :: .ptr (lv + 1) i21 0 :: .str x17.path :: .bool ((mget x5 x17.path).getD false) :: .sl 1 [.bool ((mget x5 x17.path).getD false)] true :: v27 :: .int .i64 (IntKind.i64.wrap (x16 + 1)) :: an 1 [])))), ⟨lv + 1, L, E⟩, [], E⟩ [] (by simp -implicitDefEqProofs [GNode.cs, GOver.cs, g0, g1, w0a, w0b, w0c]) claims_nil ?_
                refine satO_nil (by simp) ?_
                have hA : AccG (lv + 1) L [⟨4, 1, v27, l24.map V.bool⟩] [(i4, .map (x5.map fun p => (.str p.1, V.bool p.2)))] := hA.sel [0] (by simp) rfl (.cons _ (.cons_cons _ .slnil))
                refine ⟨n, ⟨an 7 (.map (lv + 1) i4 :: an 2 (v27 :: an 18 (.sl 3 (a1.map GOver.el) false :: .int .i64 (a1.length : Int) :: .int .i64 (IntKind.i64.wrap (x16 + 1)) :: an 12 []))), ⟨lv + 1, L, E⟩, [], E⟩, weak_tmps ?_, ⟨(IntKind.i64.wrap (x16 + 1)), v27, l24, L, by omega, hA, h, rfl⟩, by omega⟩
                (try simp only [an, List.map_cons, List.map_nil]); repeat (first | exact VLeL.nil | refine VLeL.cons (by first | exact VLe.refl _ | exact VLe.any _ | exact VLe.nil _ _ | exact VLe.full _ _ | (refine VLe.agg' ?_; repeat (first | exact VLeL.nil | refine VLeL.cons (by first | exact VLe.refl _ | exact VLe.any _ | exact VLe.nil _ _) ?_))) ?_)
              · have h := ite_f hb h
                repeat refine sat_seq ?_
                refine sat_exit ?_
                repeat refine sat_seq ?_
                refine satO_reg ?_
                have g0 := hA.get (k := 0) rfl
                obtain ⟨w0a, w0b, w0c⟩ := hA.whole (j := 0) rfl
                refine satO_step 3 [] ⟨an 4 (v14 :: .int .i64 0 :: an 1 (.map (lv + 1) i4 :: an 2 (v14 :: an 18 (.sl 3 (a1.map GOver.el) false :: .int .i64 (a1.length : Int) :: .int .i64 x16 :: .bool (decide (x16 < (a1.length : Int))) :: an 10 (v14 :: []))))), ⟨lv + 1, L, E⟩, [], E⟩ [] (by simp -implicitDefEqProofs [GNode.cs, GOver.cs, g0, w0a, w0b, w0c]) claims_nil ?_
                refine satO_nil (by simp) ?_
                repeat refine sat_seq ?_
                refine sat_ret ?_
                have g0 := hA.get (k := 0) rfl
                obtain ⟨w0a, w0b, w0c⟩ := hA.whole (j := 0) rfl
                refine ends (v := .tup [v14, .int .i64 0]) (by simp [resultsV, resL, resV, tupOf, Try.f15, pLoad, g0, w0a, w0b, w0c, GNode.cs, GOver.cs]) rfl rfl ?_
                injection h with h
                subst h
                exact VS.tup' (.cons (hA.shut (j := 0) rfl (by simp [V.kin, V.kinL, GNode.cs, GOver.cs])) (.cons (.keep _ (by simp [V.kin, V.kinL, GNode.cs, GOver.cs])) .nil))
end Go.Proofs

namespace Go.Proofs
open Go Go.Ab
set_option maxRecDepth 10000
set_option maxHeartbeats 1000000
set_option linter.unusedSimpArgs false
set_option linter.unusedVariables false
theorem go_ref02_Cut_ok (n : Nat) (a0 : List UInt8) (r : (List (List UInt8))) (h : go_ref02_Cut n a0 = some r) : PCall Try.prog 80 [.str a0] (.sl 1 (r.map V.str) false) := by
  rcases n with _ | n
  · simp [go_ref02_Cut] at h
  rw [go_ref02_Cut] at h
  refine pcall_of Try.func80 rfl Try.ntmps80 (fun _ _ => Try.call80 _ _) fun lv E => ?_
  simp only [List.length_cons, List.length_nil, Nat.reduceAdd, Nat.reduceSub, List.replicate, List.cons_append, List.nil_append]
  have hA := AccG.nil (lv + 1)
  generalize ([] : List (Option AObj)) = L at hA ⊢
  repeat refine sat_seq ?_
  refine satO_reg ?_
  refine satO_step 1 [] ⟨.str a0 :: an 1 (.nils :: an 31 []), ⟨lv + 1, L, E⟩, [], E⟩ [] (by simp -implicitDefEqProofs []) claims_nil ?_
  refine satO_nil (by simp) ?_
  repeat refine sat_seq ?_
  refine satO_reg ?_
  refine satO_step 2 [] ⟨.str a0 :: an 1 (.nils :: an 3 (.str a0 :: .bool (a0 == ([])) :: an 26 [])), ⟨lv + 1, L, E⟩, [], E⟩ [] (by simp -implicitDefEqProofs []) claims_nil ?_
  refine satO_nil (by simp) ?_
  repeat refine sat_seq ?_
  refine sat_cond rfl (fun hb => ?_) (fun hb => ?_)
  · have h := ite_t hb h
    repeat refine sat_seq ?_
    refine satO_reg ?_
    refine satO_step 1 [] ⟨.str a0 :: an 1 (.nils :: an 3 (.str a0 :: .bool (a0 == ([])) :: an 26 [])), ⟨lv + 1, L, E⟩, [], E⟩ [] (by simp -implicitDefEqProofs []) claims_nil ?_
    refine satO_nil (by simp) ?_
    repeat refine sat_seq ?_
    refine sat_ret ?_
    refine ends (v := .nils) (by simp [resultsV, resL, resV, tupOf, Try.f80, pLoad]) rfl rfl ?_
    injection h with h
    subst h
    exact (.nil _ _)
  · have h := ite_f hb h
    repeat refine sat_seq ?_
    refine sat_skip ?_
    repeat refine sat_seq ?_
    refine satO_reg ?_
    refine satO_step 1 [] ⟨.str a0 :: an 1 (.nils :: .nils :: an 2 (.str a0 :: .bool (a0 == ([])) :: an 26 [])), ⟨lv + 1, L, E⟩, [], E⟩ [] (by simp -implicitDefEqProofs []) claims_nil ?_
    refine satO_nil (by simp) ?_
    repeat refine sat_seq ?_
    refine satO_reg ?_
    refine satO_step 1 [] ⟨.str a0 :: an 1 (.nils :: .nils :: .int .i64 0 :: an 1 (.str a0 :: .bool (a0 == ([])) :: an 26 [])), ⟨lv + 1, L, E⟩, [], E⟩ [] (by simp -implicitDefEqProofs []) claims_nil ?_
    refine satO_nil (by simp) ?_
    repeat refine sat_seq ?_
    refine satO_reg ?_
    refine satO_step 1 [] ⟨.str a0 :: an 1 (.nils :: .nils :: .int .i64 0 :: .int .i64 0 :: .str a0 :: .bool (a0 == ([])) :: an 26 []), ⟨lv + 1, L, E⟩, [], E⟩ [] (by simp -implicitDefEqProofs []) claims_nil ?_
    refine satO_nil (by simp) ?_
    repeat refine sat_seq ?_
    refine sat_block ?_
    repeat refine sat_seq ?_
    have hA := hA.cons 9 1
    refine sat_loop (fun k σ => ∃ (x4 : Int) (x5 : Int) (v2 : V) (l3 : List (List UInt8)) (L : List (Option AObj)), k ≤ n ∧ AccG (lv + 1) L [⟨9, 1, v2, l3.map V.str⟩] [] ∧ go_ref02_Cut_L1 k a0 l3 x4 x5 = some r ∧ σ = ⟨.str a0 :: an 2 (v2 :: .int .i64 x4 :: .int .i64 x5 :: an 28 []), ⟨lv + 1, L, E⟩, [], E⟩) n ⟨.str a0 :: an 2 (.nils :: .int .i64 0 :: .int .i64 0 :: an 28 []), ⟨lv + 1, L, E⟩, [], E⟩ (weak_tmps ?_) ⟨0, 0, .nils, ([]), L, Nat.le_refl _, hA, h, rfl⟩ ?_
    · (try simp only [an, List.map_cons, List.map_nil]); repeat (first | exact VLeL.nil | refine VLeL.cons (by first | exact VLe.refl _ | exact VLe.any _ | exact VLe.nil _ _ | exact VLe.full _ _ | (refine VLe.agg' ?_; repeat (first | exact VLeL.nil | refine VLeL.cons (by first | exact VLe.refl _ | exact VLe.any _ | exact VLe.nil _ _) ?_))) ?_)
    · rintro k σ ⟨x4, x5, v2, l3, L, hk, hA, h, rfl⟩
      rcases k with _ | n
      · simp [go_ref02_Cut_L1] at h
      · rw [go_ref02_Cut_L1] at h
        repeat refine sat_seq ?_
        refine satO_reg ?_
        obtain ⟨w0a, w0b, w0c⟩ := hA.whole (j := 0) rfl
        refine satO_step 4 [] ⟨.str a0 :: an 2 (v2 :: .int .i64 x4 :: .int .i64 x5 :: an 2 (.int .i64 x5 :: .str a0 :: .int .i64 (a0.length : Int) :: .bool (decide (x5 ≤ (a0.length : Int))) :: an 22 [])), ⟨lv + 1, L, E⟩, [], E⟩ [] (by simp -implicitDefEqProofs [w0a, w0b, w0c]) claims_nil ?_
        refine satO_nil (by simp) ?_
        repeat refine sat_seq ?_
        refine sat_cond rfl (fun hb => ?_) (fun hb => ?_)
        · have h := ite_t hb h
          repeat refine sat_seq ?_
          refine sat_skip ?_
          repeat refine sat_seq ?_
          refine sat_block ?_
          repeat refine sat_seq ?_
          refine sat_meet (fun σ => ∃ (k : Nat), k ≤ n ∧ ∃ (x6 : Bool) (L : List (Option AObj)), AccG (lv + 1) L [⟨9, 1, v2, l3.map V.str⟩] [] ∧ go_ref02_Cut_J1 k a0 l3 x4 x5 x6 = some r ∧ σ = ⟨.str a0 :: an 2 (v2 :: .int .i64 x4 :: .int .i64 x5 :: an 17 (.bool x6 :: an 10 [])), ⟨lv + 1, L, E⟩, [], E⟩) ?_ ?_
          · refine satO_reg ?_
            rcases Bool.eq_false_or_eq_true (x5 == (a0.length : Int)) with hg7 | hg8
            · have h := ite_t hg7 h
              have hg7n := hg7
              try simp at hg7n
              obtain ⟨w0a, w0b, w0c⟩ := hA.whole (j := 0) rfl
              refine satO_step 10 [] ⟨.str a0 :: an 2 (v2 :: .int .i64 x4 :: .int .i64 x5 :: an 2 (.int .i64 x5 :: .str a0 :: .int .i64 (a0.length : Int) :: .bool (decide (x5 ≤ (a0.length : Int))) :: an 2 (.int .i64 x5 :: .str a0 :: .int .i64 (a0.length : Int) :: .bool (x5 == (a0.length : Int)) :: .bool (x5 == (a0.length : Int)) :: .tup [] :: .tup [] :: .tup [] :: .tup [] :: .bool true :: an 10 []))), ⟨lv + 1, L, E⟩, [], E⟩ [] (by first | (simp -implicitDefEqProofs [w0a, w0b, w0c, hg7]; done) | simp -implicitDefEqProofs [w0a, w0b, w0c, hg7, hg7n]) claims_nil ?_
              refine satO_nil (by simp) ?_
              refine ⟨⟨.str a0 :: an 2 (v2 :: .int .i64 x4 :: .int .i64 x5 :: an 17 (.bool true :: an 10 [])), ⟨lv + 1, L, E⟩, [], E⟩, weak_tmps ?_, n, by omega, true, L, hA, h, rfl⟩
              (try simp only [an, List.map_cons, List.map_nil]); repeat (first | exact VLeL.nil | refine VLeL.cons (by first | exact VLe.refl _ | exact VLe.any _ | exact VLe.nil _ _ | exact VLe.full _ _ | (refine VLe.agg' ?_; repeat (first | exact VLeL.nil | refine VLeL.cons (by first | exact VLe.refl _ | exact VLe.any _ | exact VLe.nil _ _) ?_))) ?_)
            · have h := ite_f hg8 h
              have hg8n := hg8
              try simp at hg8n
              obtain ⟨x9, q10, h⟩ := bnd_hi h
              obtain ⟨q10, q11⟩ := ix_some q10
              obtain ⟨w0a, w0b, w0c⟩ := hA.whole (j := 0) rfl
              refine satO_step 10 [] ⟨.str a0 :: an 2 (v2 :: .int .i64 x4 :: .int .i64 x5 :: an 2 (.int .i64 x5 :: .str a0 :: .int .i64 (a0.length : Int) :: .bool (decide (x5 ≤ (a0.length : Int))) :: an 2 (.int .i64 x5 :: .str a0 :: .int .i64 (a0.length : Int) :: .bool (x5 == (a0.length : Int)) :: .bool (x5 == (a0.length : Int)) :: .str a0 :: .int .i64 x5 :: .int .u8 (x9.toNat : Int) :: .bool ((x9.toNat : Int) == 47) :: .bool ((x9.toNat : Int) == 47) :: an 10 []))), ⟨lv + 1, L, E⟩, [], E⟩ [] (by first | (simp -implicitDefEqProofs [w0a, w0b, w0c, hg8, q10, q11]; done) | simp -implicitDefEqProofs [w0a, w0b, w0c, hg8, q10, q11, hg8n]) claims_nil ?_
              refine satO_nil (by simp) ?_
              refine ⟨⟨.str a0 :: an 2 (v2 :: .int .i64 x4 :: .int .i64 x5 :: an 17 (.bool ((x9.toNat : Int) == 47) :: an 10 [])), ⟨lv + 1, L, E⟩, [], E⟩, weak_tmps ?_, n, by omega, ((x9.toNat : Int) == 47), L, hA, h, rfl⟩
              (try simp only [an, List.map_cons, List.map_nil]); repeat (first | exact VLeL.nil | refine VLeL.cons (by first | exact VLe.refl _ | exact VLe.any _ | exact VLe.nil _ _ | exact VLe.full _ _ | (refine VLe.agg' ?_; repeat (first | exact VLeL.nil | refine VLeL.cons (by first | exact VLe.refl _ | exact VLe.any _ | exact VLe.nil _ _) ?_))) ?_)
          · rintro σ0 σ hw ⟨k, hk, x6, L, hA, h, rfl⟩
            rcases k with _ | n
            · simp [go_ref02_Cut_J1] at h
            · rw [go_ref02_Cut_J1] at h
              refine sat_weak hw ?_
              repeat refine sat_seq ?_
              refine sat_meet (fun σ => ∃ (k : Nat), k ≤ n ∧ ∃ (x14 : Int) (v12 : V) (l13 : List (List UInt8)) (L : List (Option AObj)), AccG (lv + 1) L [⟨9, 1, v12, l13.map V.str⟩] [] ∧ go_ref02_Cut_J2 k a0 x5 l13 x14 = some r ∧ σ = ⟨.str a0 :: an 2 (v12 :: .int .i64 x14 :: .int .i64 x5 :: an 28 []), ⟨lv + 1, L, E⟩, [], E⟩) ?_ ?_
              · refine sat_cond rfl (fun hb => ?_) (fun hb => ?_)
                · have h := ite_t hb h
                  repeat refine sat_seq ?_
                  refine satO_reg ?_
                  obtain ⟨x15, q16, h⟩ := bnd_hi h
                  obtain ⟨q16, q17, q18, q19, q20, q21⟩ := sub_some q16
                  obtain ⟨w0a, w0b, w0c⟩ := hA.whole (j := 0) rfl
                  refine satO_step 6 [] ⟨.str a0 :: an 2 (v2 :: .int .i64 x4 :: .int .i64 x5 :: an 17 (.bool x6 :: v2 :: .str a0 :: .int .i64 x4 :: .int .i64 x5 :: .str x15 :: .sl 1 [.str x15] true :: an 4 [])), ⟨lv + 1, L, E⟩, [], E⟩ [] (by simp -implicitDefEqProofs [w0a, w0b, w0c, q16, q17, q18, q19, q20, q21, List.map_take, List.map_drop, Int.max_eq_left]) claims_nil ?_
                  obtain ⟨l22, q23, h⟩ := bnd_hi h
                  obtain ⟨q23, q24⟩ := ext_some q23
                  obtain ⟨v25, L, q26, hA⟩ := hA.push (j := 0) rfl [.str x15] (by simpa using q23) E
                  refine satO_step 1 [] ⟨.str a0 :: an 2 (v2 :: .int .i64 x4 :: .int .i64 x5 :: an 17 (.bool x6 :: v2 :: .str a0 :: .int .i64 x4 :: .int .i64 x5 :: .str x15 :: .sl 1 [.str x15] true :: v25 :: an 3 [])), ⟨lv + 1, L, E⟩, [], E⟩ [] (by simp -implicitDefEqProofs [q26]) claims_nil ?_
                  have hA : AccG (lv + 1) L [⟨9, 1, v25, l22.map V.str⟩] [] := by rw [q24]; simpa using hA
                  obtain ⟨w0a, w0b, w0c⟩ := hA.whole (j := 0) rfl
                  refine satO_step 1 [] ⟨.str a0 :: an 2 (v25 :: .int .i64 x4 :: .int .i64 x5 :: an 17 (.bool x6 :: v2 :: .str a0 :: .int .i64 x4 :: .int .i64 x5 :: .str x15 :: .sl 1 [.str x15] true :: v25 :: an 3 [])), ⟨lv + 1, L, E⟩, [], E⟩ [] (by simp -implicitDefEqProofs [w0a, w0b, w0c]) claims_nil ?_
                  refine satO_nil (by simp) ?_
                  repeat refine sat_seq ?_
                  refine satO_reg ?_
                  obtain ⟨w0a, w0b, w0c⟩ := hA.whole (j := 0) rfl
                  refine satO_step 3 [] ⟨.str a0 :: an 2 (v25 :: .int .i64 (IntKind.i64.wrap (x5 + 1)) :: .int .i64 x5 :: an 17 (.bool x6 :: v2 :: .str a0 :: .int .i64 x4 :: .int .i64 x5 :: .str x15 :: .sl 1 [.str x15] true :: v25 :: .int .i64 x5 :: .int .i64 (IntKind.i64.wrap (x5 + 1)) :: an 1 [])), ⟨lv + 1, L, E⟩, [], E⟩ [] (by simp -implicitDefEqProofs [w0a, w0b, w0c]) claims_nil ?_
                  refine satO_nil (by simp) ?_
                  refine ⟨⟨.str a0 :: an 2 (v25 :: .int .i64 (IntKind.i64.wrap (x5 + 1)) :: .int .i64 x5 :: an 28 []), ⟨lv + 1, L, E⟩, [], E⟩, weak_tmps ?_, n, by omega, (IntKind.i64.wrap (x5 + 1)), v25, l22, L, hA, h, rfl⟩
                  (try simp only [an, List.map_cons, List.map_nil]); repeat (first | exact VLeL.nil | refine VLeL.cons (by first | exact VLe.refl _ | exact VLe.any _ | exact VLe.nil _ _ | exact VLe.full _ _ | (refine VLe.agg' ?_; repeat (first | exact VLeL.nil | refine VLeL.cons (by first | exact VLe.refl _ | exact VLe.any _ | exact VLe.nil _ _) ?_))) ?_)
                · have h := ite_f hb h
                  repeat refine sat_seq ?_
                  refine sat_skip ?_
                  refine ⟨⟨.str a0 :: an 2 (v2 :: .int .i64 x4 :: .int .i64 x5 :: an 28 []), ⟨lv + 1, L, E⟩, [], E⟩, weak_tmps ?_, n, by omega, x4, v2, l3, L, hA, h, rfl⟩
                  (try simp only [an, List.map_cons, List.map_nil]); repeat (first | exact VLeL.nil | refine VLeL.cons (by first | exact VLe.refl _ | exact VLe.any _ | exact VLe.nil _ _ | exact VLe.full _ _ | (refine VLe.agg' ?_; repeat (first | exact VLeL.nil | refine VLeL.cons (by first | exact VLe.refl _ | exact VLe.any _ | exact VLe.nil _ _) ?_))) ?_)
              · rintro σ0 σ hw ⟨k, hk, x14, v12, l13, L, hA, h, rfl⟩
                rcases k with _ | n
                · simp [go_ref02_Cut_J2] at h
                · rw [go_ref02_Cut_J2] at h
                  refine sat_weak hw ?_
                  repeat refine sat_seq ?_
                  refine satO_reg ?_
                  obtain ⟨w0a, w0b, w0c⟩ := hA.whole (j := 0) rfl
                  refine satO_step 3 [] ⟨.str a0 :: an 2 (v12 :: .int .i64 x14 :: .int .i64 (IntKind.i64.wrap (x5 + 1)) :: an 6 (.int .i64 x5 :: .int .i64 (IntKind.i64.wrap (x5 + 1)) :: an 20 [])), ⟨lv + 1, L, E⟩, [], E⟩ [] (by simp -implicitDefEqProofs [w0a, w0b, w0c]) claims_nil ?_
                  refine satO_nil (by simp) ?_
                  refine ⟨n, ⟨.str a0 :: an 2 (v12 :: .int .i64 x14 :: .int .i64 (IntKind.i64.wrap (x5 + 1)) :: an 28 []), ⟨lv + 1, L, E⟩, [], E⟩, weak_tmps ?_, ⟨x14, (IntKind.i64.wrap (x5 + 1)), v12, l13, L, by omega, hA, h, rfl⟩, by omega⟩
                  (try simp only [an, List.map_cons, List.map_nil]); repeat (first | exact VLeL.nil | refine VLeL.cons (by first | exact VLe.refl _ | exact VLe.any _ | exact VLe.nil _ _ | exact VLe.full _ _ | (refine VLe.agg' ?_; repeat (first | exact VLeL.nil | refine VLeL.cons (by first | exact VLe.refl _ | exact VLe.any _ | exact VLe.nil _ _) ?_))) ?_)
        · have h := ite_f hb h
          repeat refine sat_seq ?_
          refine sat_exit ?_
          repeat refine sat_seq ?_
          refine satO_reg ?_
          obtain ⟨w0a, w0b, w0c⟩ := hA.whole (j := 0) rfl
          refine satO_step 2 [] ⟨.str a0 :: an 1 (v2 :: v2 :: .int .i64 x4 :: .int .i64 x5 :: an 2 (.int .i64 x5 :: .str a0 :: .int .i64 (a0.length : Int) :: .bool (decide (x5 ≤ (a0.length : Int))) :: an 21 (v2 :: []))), ⟨lv + 1, L, E⟩, [], E⟩ [] (by simp -implicitDefEqProofs [w0a, w0b, w0c]) claims_nil ?_
          refine satO_nil (by simp) ?_
          repeat refine sat_seq ?_
          refine sat_ret ?_
          obtain ⟨w0a, w0b, w0c⟩ := hA.whole (j := 0) rfl
          refine ends (v := v2) (by simp [resultsV, resL, resV, tupOf, Try.f80, pLoad, w0a, w0b, w0c]) rfl rfl ?_
          injection h with h
          subst h
          exact (hA.shut (j := 0) rfl (by simp [V.kin, V.kinL]))
end Go.Proofs

namespace Go.Proofs
open Go Go.Ab
set_option maxRecDepth 10000
set_option maxHeartbeats 1000000
set_option linter.unusedSimpArgs false
set_option linter.unusedVariables false
theorem go_ref02_letter_ok (n : Nat) (a0 : Int) (r : Bool) (h : go_ref02_letter n a0 = some r) : PCall Try.prog 82 [.int .u8 a0] (.bool r) := by
  rw [go_ref02_letter] at h
  refine pcall_of Try.func82 rfl Try.ntmps82 (fun _ _ => Try.call82 _ _) fun lv E => ?_
  simp only [List.length_cons, List.length_nil, Nat.reduceAdd, Nat.reduceSub, List.replicate, List.cons_append, List.nil_append]
  have hA := AccG.nil (lv + 1)
  generalize ([] : List (Option AObj)) = L at hA ⊢
  repeat refine sat_seq ?_
  refine satO_reg ?_
  refine satO_step 1 [] ⟨.int .u8 a0 :: an 1 (.bool false :: an 6 []), ⟨lv + 1, L, E⟩, [], E⟩ [] (by simp -implicitDefEqProofs []) claims_nil ?_
  refine satO_nil (by simp) ?_
  repeat refine sat_seq ?_
  refine sat_meet (fun σ => ∃ (x1 : Bool) (L : List (Option AObj)), AccG (lv + 1) L [] [] ∧ go_ref02_letter_J1 n x1 = some r ∧ σ = ⟨an 2 (.bool x1 :: an 6 []), ⟨lv + 1, L, E⟩, [], E⟩) ?_ ?_
  · refine satO_reg ?_
    rcases Bool.eq_false_or_eq_true (decide (97 ≤ a0)) with hg2 | hg3
    · have h := ite_t hg2 h
      have hg2n := hg2
      try simp at hg2n
      refine satO_step 7 [] ⟨.int .u8 a0 :: an 1 (.bool (decide (a0 ≤ 122)) :: .int .u8 a0 :: .bool (decide (97 ≤ a0)) :: .bool (decide (97 ≤ a0)) :: .int .u8 a0 :: .bool (decide (a0 ≤ 122)) :: .bool (decide (a0 ≤ 122)) :: []), ⟨lv + 1, L, E⟩, [], E⟩ [] (by first | (simp -implicitDefEqProofs [hg2]; done) | simp -implicitDefEqProofs [hg2, hg2n]) claims_nil ?_
      refine satO_nil (by simp) ?_
      refine ⟨⟨an 2 (.bool (decide (a0 ≤ 122)) :: an 6 []), ⟨lv + 1, L, E⟩, [], E⟩, weak_tmps ?_, (decide (a0 ≤ 122)), L, hA, h, rfl⟩
      (try simp only [an, List.map_cons, List.map_nil]); repeat (first | exact VLeL.nil | refine VLeL.cons (by first | exact VLe.refl _ | exact VLe.any _ | exact VLe.nil _ _ | exact VLe.full _ _ | (refine VLe.agg' ?_; repeat (first | exact VLeL.nil | refine VLeL.cons (by first | exact VLe.refl _ | exact VLe.any _ | exact VLe.nil _ _) ?_))) ?_)
    · have h := ite_f hg3 h
      have hg3n := hg3
      try simp at hg3n
      refine satO_step 7 [] ⟨.int .u8 a0 :: an 1 (.bool false :: .int .u8 a0 :: .bool (decide (97 ≤ a0)) :: .bool (decide (97 ≤ a0)) :: .tup [] :: .tup [] :: .bool false :: []), ⟨lv + 1, L, E⟩, [], E⟩ [] (by first | (simp -implicitDefEqProofs [hg3]; done) | simp -implicitDefEqProofs [hg3, hg3n]) claims_nil ?_
      refine satO_nil (by simp) ?_
      refine ⟨⟨an 2 (.bool false :: an 6 []), ⟨lv + 1, L, E⟩, [], E⟩, weak_tmps ?_, false, L, hA, h, rfl⟩
      (try simp only [an, List.map_cons, List.map_nil]); repeat (first | exact VLeL.nil | refine VLeL.cons (by first | exact VLe.refl _ | exact VLe.any _ | exact VLe.nil _ _ | exact VLe.full _ _ | (refine VLe.agg' ?_; repeat (first | exact VLeL.nil | refine VLeL.cons (by first | exact VLe.refl _ | exact VLe.any _ | exact VLe.nil _ _) ?_))) ?_)
  · rintro σ0 σ hw ⟨x1, L, hA, h, rfl⟩
    rw [go_ref02_letter_J1] at h
    refine sat_weak hw ?_
    repeat refine sat_seq ?_
    refine sat_ret ?_
    refine ends (v := .bool x1) (by simp [resultsV, resL, resV, tupOf, Try.f82, pLoad]) rfl rfl ?_
    injection h with h
    subst h
    exact (.keep _ (by simp [V.kin, V.kinL]))
end Go.Proofs

namespace Go.Proofs
open Go Go.Ab
set_option maxRecDepth 10000
set_option maxHeartbeats 1000000
set_option linter.unusedSimpArgs false
set_option linter.unusedVariables false
theorem go_ref02_digit_ok (n : Nat) (a0 : Int) (r : Bool) (h : go_ref02_digit n a0 = some r) : PCall Try.prog 83 [.int .u8 a0] (.bool r) := by
  rw [go_ref02_digit] at h
  refine pcall_of Try.func83 rfl Try.ntmps83 (fun _ _ => Try.call83 _ _) fun lv E => ?_
  simp only [List.length_cons, List.length_nil, Nat.reduceAdd, Nat.reduceSub, List.replicate, List.cons_append, List.nil_append]
  have hA := AccG.nil (lv + 1)
  generalize ([] : List (Option AObj)) = L at hA ⊢
  repeat refine sat_seq ?_
  refine satO_reg ?_
  refine satO_step 1 [] ⟨.int .u8 a0 :: an 1 (.bool false :: an 6 []), ⟨lv + 1, L, E⟩, [], E⟩ [] (by simp -implicitDefEqProofs []) claims_nil ?_
  refine satO_nil (by simp) ?_
  repeat refine sat_seq ?_
  refine sat_meet (fun σ => ∃ (x1 : Bool) (L : List (Option AObj)), AccG (lv + 1) L [] [] ∧ go_ref02_digit_J1 n x1 = some r ∧ σ = ⟨an 2 (.bool x1 :: an 6 []), ⟨lv + 1, L, E⟩, [], E⟩) ?_ ?_
  · refine satO_reg ?_
    rcases Bool.eq_false_or_eq_true (decide (48 ≤ a0)) with hg2 | hg3
    · have h := ite_t hg2 h
      have hg2n := hg2
      try simp at hg2n
      refine satO_step 7 [] ⟨.int .u8 a0 :: an 1 (.bool (decide (a0 ≤ 57)) :: .int .u8 a0 :: .bool (decide (48 ≤ a0)) :: .bool (decide (48 ≤ a0)) :: .int .u8 a0 :: .bool (decide (a0 ≤ 57)) :: .bool (decide (a0 ≤ 57)) :: []), ⟨lv + 1, L, E⟩, [], E⟩ [] (by first | (simp -implicitDefEqProofs [hg2]; done) | simp -implicitDefEqProofs [hg2, hg2n]) claims_nil ?_
      refine satO_nil (by simp) ?_
      refine ⟨⟨an 2 (.bool (decide (a0 ≤ 57)) :: an 6 []), ⟨lv + 1, L, E⟩, [], E⟩, weak_tmps ?_, (decide (a0 ≤ 57)), L, hA, h, rfl⟩
      (try simp only [an, List.map_cons, List.map_nil]); repeat (first | exact VLeL.nil | refine VLeL.cons (by first | exact VLe.refl _ | exact VLe.any _ | exact VLe.nil _ _ | exact VLe.full _ _ | (refine VLe.agg' ?_; repeat (first | exact VLeL.nil | refine VLeL.cons (by first | exact VLe.refl _ | exact VLe.any _ | exact VLe.nil _ _) ?_))) ?_)
    · have h := ite_f hg3 h
      have hg3n := hg3
      try simp at hg3n
      refine satO_step 7 [] ⟨.int .u8 a0 :: an 1 (.bool false :: .int .u8 a0 :: .bool (decide (48 ≤ a0)) :: .bool (decide (48 ≤ a0)) :: .tup [] :: .tup [] :: .bool false :: []), ⟨lv + 1, L, E⟩, [], E⟩ [] (by first | (simp -implicitDefEqProofs [hg3]; done) | simp -implicitDefEqProofs [hg3, hg3n]) claims_nil ?_
      refine satO_nil (by simp) ?_
      refine ⟨⟨an 2 (.bool false :: an 6 []), ⟨lv + 1, L, E⟩, [], E⟩, weak_tmps ?_, false, L, hA, h, rfl⟩
      (try simp only [an, List.map_cons, List.map_nil]); repeat (first | exact VLeL.nil | refine VLeL.cons (by first | exact VLe.refl _ | exact VLe.any _ | exact VLe.nil _ _ | exact VLe.full _ _ | (refine VLe.agg' ?_; repeat (first | exact VLeL.nil | refine VLeL.cons (by first | exact VLe.refl _ | exact VLe.any _ | exact VLe.nil _ _) ?_))) ?_)
  · rintro σ0 σ hw ⟨x1, L, hA, h, rfl⟩
    rw [go_ref02_digit_J1] at h
    refine sat_weak hw ?_
    repeat refine sat_seq ?_
    refine sat_ret ?_
    refine ends (v := .bool x1) (by simp [resultsV, resL, resV, tupOf, Try.f83, pLoad]) rfl rfl ?_
    injection h with h
    subst h
    exact (.keep _ (by simp [V.kin, V.kinL]))
end Go.Proofs

namespace Go.Proofs
open Go Go.Ab
set_option maxRecDepth 10000
set_option maxHeartbeats 1000000
set_option linter.unusedSimpArgs false
set_option linter.unusedVariables false
theorem go_ref02_Name_ok (n : Nat) (a0 : List UInt8) (r : Bool) (h : go_ref02_Name n a0 = some r) : PCall Try.prog 66 [.str a0] (.bool r) := by
  rcases n with _ | n
  · simp [go_ref02_Name] at h
  rw [go_ref02_Name] at h
  refine pcall_of Try.func66 rfl Try.ntmps66 (fun _ _ => Try.call66 _ _) fun lv E => ?_
  simp only [List.length_cons, List.length_nil, Nat.reduceAdd, Nat.reduceSub, List.replicate, List.cons_append, List.nil_append]
  have hA := AccG.nil (lv + 1)
  generalize ([] : List (Option AObj)) = L at hA ⊢
  repeat refine sat_seq ?_
  refine satO_reg ?_
  refine satO_step 1 [] ⟨.str a0 :: an 1 (.bool false :: an 37 []), ⟨lv + 1, L, E⟩, [], E⟩ [] (by simp -implicitDefEqProofs []) claims_nil ?_
  refine satO_nil (by simp) ?_
  repeat refine sat_seq ?_
  refine satO_reg ?_
  refine satO_step 1 [] ⟨.str a0 :: an 1 (.bool false :: .int .i64 0 :: an 36 []), ⟨lv + 1, L, E⟩, [], E⟩ [] (by simp -implicitDefEqProofs []) claims_nil ?_
  refine satO_nil (by simp) ?_
  repeat refine sat_seq ?_
  refine sat_block ?_
  repeat refine sat_seq ?_
  refine sat_loop (fun k σ => ∃ (x1 : Int) (L : List (Option AObj)), k ≤ n ∧ AccG (lv + 1) L [] [] ∧ go_ref02_Name_L1 k a0 x1 = some r ∧ σ = ⟨.str a0 :: an 2 (.int .i64 x1 :: an 36 []), ⟨lv + 1, L, E⟩, [], E⟩) n ⟨.str a0 :: an 2 (.int .i64 0 :: an 36 []), ⟨lv + 1, L, E⟩, [], E⟩ (weak_tmps ?_) ⟨0, L, Nat.le_refl _, hA, h, rfl⟩ ?_
  · (try simp only [an, List.map_cons, List.map_nil]); repeat (first | exact VLeL.nil | refine VLeL.cons (by first | exact VLe.refl _ | exact VLe.any _ | exact VLe.nil _ _ | exact VLe.full _ _ | (refine VLe.agg' ?_; repeat (first | exact VLeL.nil | refine VLeL.cons (by first | exact VLe.refl _ | exact VLe.any _ | exact VLe.nil _ _) ?_))) ?_)
  · rintro k σ ⟨x1, L, hk, hA, h, rfl⟩
    rcases k with _ | n
    · simp [go_ref02_Name_L1] at h
    · rw [go_ref02_Name_L1] at h
      repeat refine sat_seq ?_
      refine satO_reg ?_
      refine satO_step 4 [] ⟨.str a0 :: an 2 (.int .i64 x1 :: .int .i64 x1 :: .str a0 :: .int .i64 (a0.length : Int) :: .bool (decide (x1 < (a0.length : Int))) :: an 32 []), ⟨lv + 1, L, E⟩, [], E⟩ [] (by simp -implicitDefEqProofs []) claims_nil ?_
      refine satO_nil (by simp) ?_
      repeat refine sat_seq ?_
      refine sat_cond rfl (fun hb => ?_) (fun hb => ?_)
      · have h := ite_t hb h
        repeat refine sat_seq ?_
        refine sat_skip ?_
        repeat refine sat_seq ?_
        refine sat_block ?_
        repeat refine sat_seq ?_
        refine sat_meet (fun σ => ∃ (k : Nat), k ≤ n ∧ ∃ (x2 : Bool) (L : List (Option AObj)), AccG (lv + 1) L [] [] ∧ go_ref02_Name_J1 k a0 x1 x2 = some r ∧ σ = ⟨.str a0 :: an 2 (.int .i64 x1 :: an 27 (.bool x2 :: an 8 [])), ⟨lv + 1, L, E⟩, [], E⟩) ?_ ?_
        · refine satO_reg ?_
          obtain ⟨x3, q4, h⟩ := bnd_hi h
          obtain ⟨q4, q5⟩ := ix_some q4
          obtain ⟨y6, q7, h⟩ := bnd_hi h
          rcases Bool.eq_false_or_eq_true (!y6) with hg8 | hg15
          · have h := ite_t hg8 h
            have hg8n := hg8
            try simp at hg8n
            rcases Bool.eq_false_or_eq_true (x1 == 0) with hg9 | hg10
            · have h := ite_t hg9 h
              have hg9n := hg9
              try simp at hg9n
              refine satO_step 22 [(.bool y6, none)] ⟨.str a0 :: an 2 (.int .i64 x1 :: .int .i64 x1 :: .str a0 :: .int .i64 (a0.length : Int) :: .bool (decide (x1 < (a0.length : Int))) :: an 2 (.str a0 :: .int .i64 x1 :: .int .u8 (x3.toNat : Int) :: .bool y6 :: .bool (!y6) :: .bool (!y6) :: .int .i64 x1 :: .bool (x1 == 0) :: .bool (x1 == 0) :: .tup [] :: .tup [] :: .tup [] :: .tup [] :: .tup [] :: .tup [] :: .tup [] :: .tup [] :: .tup [] :: .tup [] :: .tup [] :: .bool true :: .bool true :: an 8 [])), ⟨lv + 1, L, E⟩, [], E⟩ [⟨82, [.int .u8 (x3.toNat : Int)], ⟨lv + 1, L, E⟩, .bool y6, ⟨lv + 1, L, E⟩⟩] (by first | (simp -implicitDefEqProofs [q4, q5, hg8, hg9]; done) | simp -implicitDefEqProofs [q4, q5, hg8, hg9, hg8n, hg9n]) (claims_cons (go_ref02_letter_ok _ _ _ q7 _) claims_nil) ?_
              refine satO_nil (by simp) ?_
              refine ⟨⟨.str a0 :: an 2 (.int .i64 x1 :: an 27 (.bool true :: an 8 [])), ⟨lv + 1, L, E⟩, [], E⟩, weak_tmps ?_, n, by omega, true, L, hA, h, rfl⟩
              (try simp only [an, List.map_cons, List.map_nil]); repeat (first | exact VLeL.nil | refine VLeL.cons (by first | exact VLe.refl _ | exact VLe.any _ | exact VLe.nil _ _ | exact VLe.full _ _ | (refine VLe.agg' ?_; repeat (first | exact VLeL.nil | refine VLeL.cons (by first | exact VLe.refl _ | exact VLe.any _ | exact VLe.nil _ _) ?_))) ?_)
            · have h := ite_f hg10 h
              have hg10n := hg10
              try simp at hg10n
              rcases Bool.eq_false_or_eq_true (!((x3.toNat : Int) == 45)) with hg11 | hg14
              · have h := ite_t hg11 h
                have hg11n := hg11
                try simp at hg11n
                obtain ⟨y12, q13, h⟩ := bnd_hi h
                refine satO_step 22 [(.bool y6, none), (.bool y12, none)] ⟨.str a0 :: an 2 (.int .i64 x1 :: .int .i64 x1 :: .str a0 :: .int .i64 (a0.length : Int) :: .bool (decide (x1 < (a0.length : Int))) :: an 2 (.str a0 :: .int .i64 x1 :: .int .u8 (x3.toNat : Int) :: .bool y6 :: .bool (!y6) :: .bool (!y6) :: .int .i64 x1 :: .bool (x1 == 0) :: .bool (x1 == 0) :: .str a0 :: .int .i64 x1 :: .int .u8 (x3.toNat : Int) :: .bool (!((x3.toNat : Int) == 45)) :: .bool (!((x3.toNat : Int) == 45)) :: .str a0 :: .int .i64 x1 :: .int .u8 (x3.toNat : Int) :: .bool y12 :: .bool (!y12) :: .bool (!y12) :: .bool (!y12) :: .bool (!y12) :: an 8 [])), ⟨lv + 1, L, E⟩, [], E⟩ [⟨82, [.int .u8 (x3.toNat : Int)], ⟨lv + 1, L, E⟩, .bool y6, ⟨lv + 1, L, E⟩⟩, ⟨83, [.int .u8 (x3.toNat : Int)], ⟨lv + 1, L, E⟩, .bool y12, ⟨lv + 1, L, E⟩⟩] (by first | (simp -implicitDefEqProofs [q4, q5, hg8, hg10, q4, q5, hg11, q4, q5]; done) | simp -implicitDefEqProofs [q4, q5, hg8, hg10, q4, q5, hg11, q4, q5, hg8n, hg10n, hg11n]) (claims_cons (go_ref02_letter_ok _ _ _ q7 _) (claims_cons (go_ref02_digit_ok _ _ _ q13 _) claims_nil)) ?_
                refine satO_nil (by simp) ?_
                refine ⟨⟨.str a0 :: an 2 (.int .i64 x1 :: an 27 (.bool (!y12) :: an 8 [])), ⟨lv + 1, L, E⟩, [], E⟩, weak_tmps ?_, n, by omega, (!y12), L, hA, h, rfl⟩
                (try simp only [an, List.map_cons, List.map_nil]); repeat (first | exact VLeL.nil | refine VLeL.cons (by first | exact VLe.refl _ | exact VLe.any _ | exact VLe.nil _ _ | exact VLe.full _ _ | (refine VLe.agg' ?_; repeat (first | exact VLeL.nil | refine VLeL.cons (by first | exact VLe.refl _ | exact VLe.any _ | exact VLe.nil _ _) ?_))) ?_)
              · have h := ite_f hg14 h
                have hg14n := hg14
                try simp at hg14n
                refine satO_step 22 [(.bool y6, none)] ⟨.str a0 :: an 2 (.int .i64 x1 :: .int .i64 x1 :: .str a0 :: .int .i64 (a0.length : Int) :: .bool (decide (x1 < (a0.length : Int))) :: an 2 (.str a0 :: .int .i64 x1 :: .int .u8 (x3.toNat : Int) :: .bool y6 :: .bool (!y6) :: .bool (!y6) :: .int .i64 x1 :: .bool (x1 == 0) :: .bool (x1 == 0) :: .str a0 :: .int .i64 x1 :: .int .u8 (x3.toNat : Int) :: .bool (!((x3.toNat : Int) == 45)) :: .bool (!((x3.toNat : Int) == 45)) :: .tup [] :: .tup [] :: .tup [] :: .tup [] :: .tup [] :: .bool false :: .bool false :: .bool false :: an 8 [])), ⟨lv + 1, L, E⟩, [], E⟩ [⟨82, [.int .u8 (x3.toNat : Int)], ⟨lv + 1, L, E⟩, .bool y6, ⟨lv + 1, L, E⟩⟩] (by first | (simp -implicitDefEqProofs [q4, q5, hg8, hg10, q4, q5, hg14]; done) | simp -implicitDefEqProofs [q4, q5, hg8, hg10, q4, q5, hg14, hg8n, hg10n, hg14n]) (claims_cons (go_ref02_letter_ok _ _ _ q7 _) claims_nil) ?_
                refine satO_nil (by simp) ?_
                refine ⟨⟨.str a0 :: an 2 (.int .i64 x1 :: an 27 (.bool false :: an 8 [])), ⟨lv + 1, L, E⟩, [], E⟩, weak_tmps ?_, n, by omega, false, L, hA, h, rfl⟩
                (try simp only [an, List.map_cons, List.map_nil]); repeat (first | exact VLeL.nil | refine VLeL.cons (by first | exact VLe.refl _ | exact VLe.any _ | exact VLe.nil _ _ | exact VLe.full _ _ | (refine VLe.agg' ?_; repeat (first | exact VLeL.nil | refine VLeL.cons (by first | exact VLe.refl _ | exact VLe.any _ | exact VLe.nil _ _) ?_))) ?_)
          · have h := ite_f hg15 h
            have hg15n := hg15
            try simp at hg15n
            refine satO_step 22 [(.bool y6, none)] ⟨.str a0 :: an 2 (.int .i64 x1 :: .int .i64 x1 :: .str a0 :: .int .i64 (a0.length : Int) :: .bool (decide (x1 < (a0.length : Int))) :: an 2 (.str a0 :: .int .i64 x1 :: .int .u8 (x3.toNat : Int) :: .bool y6 :: .bool (!y6) :: .bool (!y6) :: .tup [] :: .tup [] :: .tup [] :: .tup [] :: .tup [] :: .tup [] :: .tup [] :: .tup [] :: .tup [] :: .tup [] :: .tup [] :: .tup [] :: .tup [] :: .tup [] :: .tup [] :: .bool false :: an 8 [])), ⟨lv + 1, L, E⟩, [], E⟩ [⟨82, [.int .u8 (x3.toNat : Int)], ⟨lv + 1, L, E⟩, .bool y6, ⟨lv + 1, L, E⟩⟩] (by first | (simp -implicitDefEqProofs [q4, q5, hg15]; done) | simp -implicitDefEqProofs [q4, q5, hg15, hg15n]) (claims_cons (go_ref02_letter_ok _ _ _ q7 _) claims_nil) ?_
            refine satO_nil (by simp) ?_
            refine ⟨⟨.str a0 :: an 2 (.int .i64 x1 :: an 27 (.bool false :: an 8 [])), ⟨lv + 1, L, E⟩, [], E⟩, weak_tmps ?_, n, by omega, false, L, hA, h, rfl⟩
            (try simp only [an, List.map_cons, List.map_nil]); repeat (first | exact VLeL.nil | refine VLeL.cons (by first | exact VLe.refl _ | exact VLe.any _ | exact VLe.nil _ _ | exact VLe.full _ _ | (refine VLe.agg' ?_; repeat (first | exact VLeL.nil | refine VLeL.cons (by first | exact VLe.refl _ | exact VLe.any _ | exact VLe.nil _ _) ?_))) ?_)
        · rintro σ0 σ hw ⟨k, hk, x2, L, hA, h, rfl⟩
          rcases k with _ | n
          · simp [go_ref02_Name_J1] at h
          · rw [go_ref02_Name_J1] at h
            refine sat_weak hw ?_
            repeat refine sat_seq ?_
            refine sat_cond rfl (fun hb => ?_) (fun hb => ?_)
            · have h := ite_t hb h
              repeat refine sat_seq ?_
              refine satO_reg ?_
              refine satO_step 1 [] ⟨.str a0 :: an 1 (.bool false :: .int .i64 x1 :: an 27 (.bool x2 :: an 8 [])), ⟨lv + 1, L, E⟩, [], E⟩ [] (by simp -implicitDefEqProofs []) claims_nil ?_
              refine satO_nil (by simp) ?_
              repeat refine sat_seq ?_
              refine sat_ret ?_
              refine ends (v := .bool false) (by simp [resultsV, resL, resV, tupOf, Try.f66, pLoad]) rfl rfl ?_
              injection h with h
              subst h
              exact (.keep _ (by simp [V.kin, V.kinL]))
            · have h := ite_f hb h
              repeat refine sat_seq ?_
              refine sat_skip ?_
              repeat refine sat_seq ?_
              refine satO_reg ?_
              refine satO_step 3 [] ⟨.str a0 :: an 2 (.int .i64 (IntKind.i64.wrap (x1 + 1)) :: an 4 (.int .i64 x1 :: .int .i64 (IntKind.i64.wrap (x1 + 1)) :: an 21 (.bool x2 :: an 8 []))), ⟨lv + 1, L, E⟩, [], E⟩ [] (by simp -implicitDefEqProofs []) claims_nil ?_
              refine satO_nil (by simp) ?_
              refine ⟨n, ⟨.str a0 :: an 2 (.int .i64 (IntKind.i64.wrap (x1 + 1)) :: an 36 []), ⟨lv + 1, L, E⟩, [], E⟩, weak_tmps ?_, ⟨(IntKind.i64.wrap (x1 + 1)), L, by omega, hA, h, rfl⟩, by omega⟩
              (try simp only [an, List.map_cons, List.map_nil]); repeat (first | exact VLeL.nil | refine VLeL.cons (by first | exact VLe.refl _ | exact VLe.any _ | exact VLe.nil _ _ | exact VLe.full _ _ | (refine VLe.agg' ?_; repeat (first | exact VLeL.nil | refine VLeL.cons (by first | exact VLe.refl _ | exact VLe.any _ | exact VLe.nil _ _) ?_))) ?_)
      · have h := ite_f hb h
        repeat refine sat_seq ?_
        refine sat_exit ?_
        repeat refine sat_seq ?_
        refine sat_meet (fun σ => ∃ (k : Nat), k ≤ n ∧ ∃ (x16 : Bool) (L : List (Option AObj)), AccG (lv + 1) L [] [] ∧ go_ref02_Name_J2 k x16 = some r ∧ σ = ⟨an 2 (.bool x16 :: an 37 []), ⟨lv + 1, L, E⟩, [], E⟩) ?_ ?_
        · refine satO_reg ?_
          rcases Bool.eq_false_or_eq_true (decide (1 ≤ (a0.length : Int))) with hg17 | hg18
          · have h := ite_t hg17 h
            have hg17n := hg17
            try simp at hg17n
            refine satO_step 9 [] ⟨.str a0 :: an 1 (.bool (decide ((a0.length : Int) ≤ 40)) :: .int .i64 x1 :: .int .i64 x1 :: .str a0 :: .int .i64 (a0.length : Int) :: .bool (decide (x1 < (a0.length : Int))) :: an 24 (.str a0 :: .int .i64 (a0.length : Int) :: .bool (decide (1 ≤ (a0.length : Int))) :: .bool (decide (1 ≤ (a0.length : Int))) :: .str a0 :: .int .i64 (a0.length : Int) :: .bool (decide ((a0.length : Int) ≤ 40)) :: .bool (decide ((a0.length : Int) ≤ 40)) :: [])), ⟨lv + 1, L, E⟩, [], E⟩ [] (by first | (simp -implicitDefEqProofs [hg17]; done) | simp -implicitDefEqProofs [hg17, hg17n]) claims_nil ?_
            refine satO_nil (by simp) ?_
            refine ⟨⟨an 2 (.bool (decide ((a0.length : Int) ≤ 40)) :: an 37 []), ⟨lv + 1, L, E⟩, [], E⟩, weak_tmps ?_, n, by omega, (decide ((a0.length : Int) ≤ 40)), L, hA, h, rfl⟩
            (try simp only [an, List.map_cons, List.map_nil]); repeat (first | exact VLeL.nil | refine VLeL.cons (by first | exact VLe.refl _ | exact VLe.any _ | exact VLe.nil _ _ | exact VLe.full _ _ | (refine VLe.agg' ?_; repeat (first | exact VLeL.nil | refine VLeL.cons (by first | exact VLe.refl _ | exact VLe.any _ | exact VLe.nil _ _) ?_))) ?_)
          · have h := ite_f hg18 h
            have hg18n := hg18
            try simp at hg18n
            refine satO_step 9 [] ⟨.str a0 :: an 1 (.bool false :: .int .i64 x1 :: .int .i64 x1 :: .str a0 :: .int .i64 (a0.length : Int) :: .bool (decide (x1 < (a0.length : Int))) :: an 24 (.str a0 :: .int .i64 (a0.length : Int) :: .bool (decide (1 ≤ (a0.length : Int))) :: .bool (decide (1 ≤ (a0.length : Int))) :: .tup [] :: .tup [] :: .tup [] :: .bool false :: [])), ⟨lv + 1, L, E⟩, [], E⟩ [] (by first | (simp -implicitDefEqProofs [hg18]; done) | simp -implicitDefEqProofs [hg18, hg18n]) claims_nil ?_
            refine satO_nil (by simp) ?_
            refine ⟨⟨an 2 (.bool false :: an 37 []), ⟨lv + 1, L, E⟩, [], E⟩, weak_tmps ?_, n, by omega, false, L, hA, h, rfl⟩
            (try simp only [an, List.map_cons, List.map_nil]); repeat (first | exact VLeL.nil | refine VLeL.cons (by first | exact VLe.refl _ | exact VLe.any _ | exact VLe.nil _ _ | exact VLe.full _ _ | (refine VLe.agg' ?_; repeat (first | exact VLeL.nil | refine VLeL.cons (by first | exact VLe.refl _ | exact VLe.any _ | exact VLe.nil _ _) ?_))) ?_)
        · rintro σ0 σ hw ⟨k, hk, x16, L, hA, h, rfl⟩
          rcases k with _ | n
          · simp [go_ref02_Name_J2] at h
          · rw [go_ref02_Name_J2] at h
            refine sat_weak hw ?_
            repeat refine sat_seq ?_
            refine sat_ret ?_
            refine ends (v := .bool x16) (by simp [resultsV, resL, resV, tupOf, Try.f66, pLoad]) rfl rfl ?_
            injection h with h
            subst h
            exact (.keep _ (by simp [V.kin, V.kinL]))
end Go.Proofs

namespace Go.Proofs
open Go Go.Ab
set_option maxRecDepth 10000
set_option maxHeartbeats 1000000
set_option linter.unusedSimpArgs false
set_option linter.unusedVariables false
theorem go_ref02_Step_ok (n : Nat) (a0 : List UInt8) (r : (List UInt8) × Int × Bool) (h : go_ref02_Step n a0 = some r) : PCall Try.prog 81 [.str a0] (.tup [.str r.1, .int .i64 r.2.1, .bool r.2.2]) := by
  rcases n with _ | n
  · simp [go_ref02_Step] at h
  rw [go_ref02_Step] at h
  refine pcall_of Try.func81 rfl Try.ntmps81 (fun _ _ => Try.call81 _ _) fun lv E => ?_
  simp only [List.length_cons, List.length_nil, Nat.reduceAdd, Nat.reduceSub, List.replicate, List.cons_append, List.nil_append]
  have hA := AccG.nil (lv + 1)
  generalize ([] : List (Option AObj)) = L at hA ⊢
  repeat refine sat_seq ?_
  refine satO_reg ?_
  refine satO_step 3 [] ⟨.str a0 :: an 1 (.str ([]) :: .int .i64 0 :: .bool false :: an 79 []), ⟨lv + 1, L, E⟩, [], E⟩ [] (by simp -implicitDefEqProofs []) claims_nil ?_
  refine satO_nil (by simp) ?_
  repeat refine sat_seq ?_
  refine satO_reg ?_
  refine satO_step 1 [] ⟨.str a0 :: an 1 (.str ([]) :: .int .i64 0 :: .bool false :: .int .i64 0 :: an 78 []), ⟨lv + 1, L, E⟩, [], E⟩ [] (by simp -implicitDefEqProofs []) claims_nil ?_
  refine satO_nil (by simp) ?_
  repeat refine sat_seq ?_
  refine sat_block ?_
  repeat refine sat_seq ?_
  refine sat_loop (fun k σ => ∃ (x1 : Int) (L : List (Option AObj)), k ≤ n ∧ AccG (lv + 1) L [] [] ∧ go_ref02_Step_L1 k a0 x1 = some r ∧ σ = ⟨.str a0 :: an 4 (.int .i64 x1 :: an 78 []), ⟨lv + 1, L, E⟩, [], E⟩) n ⟨.str a0 :: an 4 (.int .i64 0 :: an 78 []), ⟨lv + 1, L, E⟩, [], E⟩ (weak_tmps ?_) ⟨0, L, Nat.le_refl _, hA, h, rfl⟩ ?_
  · (try simp only [an, List.map_cons, List.map_nil]); repeat (first | exact VLeL.nil | refine VLeL.cons (by first | exact VLe.refl _ | exact VLe.any _ | exact VLe.nil _ _ | exact VLe.full _ _ | (refine VLe.agg' ?_; repeat (first | exact VLeL.nil | refine VLeL.cons (by first | exact VLe.refl _ | exact VLe.any _ | exact VLe.nil _ _) ?_))) ?_)
  · rintro k σ ⟨x1, L, hk, hA, h, rfl⟩
    rcases k with _ | n
    · simp [go_ref02_Step_L1] at h
    · rw [go_ref02_Step_L1] at h
      repeat refine sat_seq ?_
      refine sat_meet (fun σ => ∃ (k : Nat), k ≤ n ∧ ∃ (x2 : Bool) (L : List (Option AObj)), AccG (lv + 1) L [] [] ∧ go_ref02_Step_J1 k a0 x1 x2 = some r ∧ σ = ⟨.str a0 :: an 4 (.int .i64 x1 :: an 12 (.bool x2 :: an 65 [])), ⟨lv + 1, L, E⟩, [], E⟩) ?_ ?_
      · refine satO_reg ?_
        rcases Bool.eq_false_or_eq_true (decide (x1 < (a0.length : Int))) with hg3 | hg7
        · have h := ite_t hg3 h
          have hg3n := hg3
          try simp at hg3n
          obtain ⟨x4, q5, h⟩ := bnd_hi h
          obtain ⟨q5, q6⟩ := ix_some q5
          refine satO_step 10 [] ⟨.str a0 :: an 4 (.int .i64 x1 :: an 3 (.int .i64 x1 :: .str a0 :: .int .i64 (a0.length : Int) :: .bool (decide (x1 < (a0.length : Int))) :: .bool (decide (x1 < (a0.length : Int))) :: .str a0 :: .int .i64 x1 :: .int .u8 (x4.toNat : Int) :: .bool (!((x4.toNat : Int) == 91)) :: .bool (!((x4.toNat : Int) == 91)) :: an 65 [])), ⟨lv + 1, L, E⟩, [], E⟩ [] (by first | (simp -implicitDefEqProofs [hg3, q5, q6]; done) | simp -implicitDefEqProofs [hg3, q5, q6, hg3n]) claims_nil ?_
          refine satO_nil (by simp) ?_
          refine ⟨⟨.str a0 :: an 4 (.int .i64 x1 :: an 12 (.bool (!((x4.toNat : Int) == 91)) :: an 65 [])), ⟨lv + 1, L, E⟩, [], E⟩, weak_tmps ?_, n, by omega, (!((x4.toNat : Int) == 91)), L, hA, h, rfl⟩
          (try simp only [an, List.map_cons, List.map_nil]); repeat (first | exact VLeL.nil | refine VLeL.cons (by first | exact VLe.refl _ | exact VLe.any _ | exact VLe.nil _ _ | exact VLe.full _ _ | (refine VLe.agg' ?_; repeat (first | exact VLeL.nil | refine VLeL.cons (by first | exact VLe.refl _ | exact VLe.any _ | exact VLe.nil _ _) ?_))) ?_)
        · have h := ite_f hg7 h
          have hg7n := hg7
          try simp at hg7n
          refine satO_step 10 [] ⟨.str a0 :: an 4 (.int .i64 x1 :: an 3 (.int .i64 x1 :: .str a0 :: .int .i64 (a0.length : Int) :: .bool (decide (x1 < (a0.length : Int))) :: .bool (decide (x1 < (a0.length : Int))) :: .tup [] :: .tup [] :: .tup [] :: .tup [] :: .bool false :: an 65 [])), ⟨lv + 1, L, E⟩, [], E⟩ [] (by first | (simp -implicitDefEqProofs [hg7]; done) | simp -implicitDefEqProofs [hg7, hg7n]) claims_nil ?_
          refine satO_nil (by simp) ?_
          refine ⟨⟨.str a0 :: an 4 (.int .i64 x1 :: an 12 (.bool false :: an 65 [])), ⟨lv + 1, L, E⟩, [], E⟩, weak_tmps ?_, n, by omega, false, L, hA, h, rfl⟩
          (try simp only [an, List.map_cons, List.map_nil]); repeat (first | exact VLeL.nil | refine VLeL.cons (by first | exact VLe.refl _ | exact VLe.any _ | exact VLe.nil _ _ | exact VLe.full _ _ | (refine VLe.agg' ?_; repeat (first | exact VLeL.nil | refine VLeL.cons (by first | exact VLe.refl _ | exact VLe.any _ | exact VLe.nil _ _) ?_))) ?_)
      · rintro σ0 σ hw ⟨k, hk, x2, L, hA, h, rfl⟩
        rcases k with _ | n
        · simp [go_ref02_Step_J1] at h
        · rw [go_ref02_Step_J1] at h
          refine sat_weak hw ?_
          repeat refine sat_seq ?_
          refine sat_cond rfl (fun hb => ?_) (fun hb => ?_)
          · have h := ite_t hb h
            repeat refine sat_seq ?_
            refine sat_skip ?_
            repeat refine sat_seq ?_
            refine sat_block ?_
            repeat refine sat_seq ?_
            refine satO_reg ?_
            refine satO_step 3 [] ⟨.str a0 :: an 4 (.int .i64 (IntKind.i64.wrap (x1 + 1)) :: an 12 (.bool x2 :: .int .i64 x1 :: .int .i64 (IntKind.i64.wrap (x1 + 1)) :: an 63 [])), ⟨lv + 1, L, E⟩, [], E⟩ [] (by simp -implicitDefEqProofs []) claims_nil ?_
            refine satO_nil (by simp) ?_
            refine ⟨n, ⟨.str a0 :: an 4 (.int .i64 (IntKind.i64.wrap (x1 + 1)) :: an 78 []), ⟨lv + 1, L, E⟩, [], E⟩, weak_tmps ?_, ⟨(IntKind.i64.wrap (x1 + 1)), L, by omega, hA, h, rfl⟩, by omega⟩
            (try simp only [an, List.map_cons, List.map_nil]); repeat (first | exact VLeL.nil | refine VLeL.cons (by first | exact VLe.refl _ | exact VLe.any _ | exact VLe.nil _ _ | exact VLe.full _ _ | (refine VLe.agg' ?_; repeat (first | exact VLeL.nil | refine VLeL.cons (by first | exact VLe.refl _ | exact VLe.any _ | exact VLe.nil _ _) ?_))) ?_)
          · have h := ite_f hb h
            repeat refine sat_seq ?_
            refine sat_exit ?_
            repeat refine sat_seq ?_
            refine satO_reg ?_
            obtain ⟨x8, q9, h⟩ := bnd_hi h
            obtain ⟨q9, q10, q11, q12, q13, q14⟩ := sub_some q9
            obtain ⟨y15, q16, h⟩ := bnd_hi h
            refine satO_step 5 [(.bool y15, none)] ⟨.str a0 :: an 4 (.int .i64 x1 :: an 12 (.bool x2 :: an 2 (.str a0 :: .int .i64 x1 :: .str x8 :: .bool y15 :: .bool (!y15) :: an 58 []))), ⟨lv + 1, L, E⟩, [], E⟩ [⟨66, [.str x8], ⟨lv + 1, L, E⟩, .bool y15, ⟨lv + 1, L, E⟩⟩] (by simp -implicitDefEqProofs [q9, q10, q11, q12, q13, q14, List.map_take, List.map_drop, Int.max_eq_left]) (claims_cons (go_ref02_Name_ok _ _ _ q16 _) claims_nil) ?_
            refine satO_nil (by simp) ?_
            repeat refine sat_seq ?_
            refine sat_cond rfl (fun hb => ?_) (fun hb => ?_)
            · have h := ite_t hb h
              repeat refine sat_seq ?_
              refine satO_reg ?_
              refine satO_step 3 [] ⟨.str a0 :: an 1 (.str ([]) :: .int .i64 0 :: .bool false :: .int .i64 x1 :: an 12 (.bool x2 :: an 2 (.str a0 :: .int .i64 x1 :: .str x8 :: .bool y15 :: .bool (!y15) :: an 58 []))), ⟨lv + 1, L, E⟩, [], E⟩ [] (by simp -implicitDefEqProofs []) claims_nil ?_
              refine satO_nil (by simp) ?_
              repeat refine sat_seq ?_
              refine sat_ret ?_
              refine ends (v := .tup [.str ([]), .int .i64 0, .bool false]) (by simp [resultsV, resL, resV, tupOf, Try.f81, pLoad]) rfl rfl ?_
              injection h with h
              subst h
              exact .keep _ (by simp [V.kin, V.kinL])
            · have h := ite_f hb h
              repeat refine sat_seq ?_
              refine sat_skip ?_
              repeat refine sat_seq ?_
              refine satO_reg ?_
              refine satO_step 4 [] ⟨.str a0 :: an 4 (.int .i64 x1 :: an 12 (.bool x2 :: an 2 (.str a0 :: .int .i64 x1 :: .str x8 :: .bool y15 :: .bool (!y15) :: .int .i64 x1 :: .str a0 :: .int .i64 (a0.length : Int) :: .bool (x1 == (a0.length : Int)) :: an 54 []))), ⟨lv + 1, L, E⟩, [], E⟩ [] (by simp -implicitDefEqProofs []) claims_nil ?_
              refine satO_nil (by simp) ?_
              repeat refine sat_seq ?_
              refine sat_cond rfl (fun hb => ?_) (fun hb => ?_)
              · have h := ite_t hb h
                repeat refine sat_seq ?_
                refine satO_reg ?_
                refine satO_step 4 [] ⟨.str a0 :: an 1 (.str a0 :: .int .i64 (-1) :: .bool true :: .int .i64 x1 :: an 12 (.bool x2 :: an 2 (.str a0 :: .int .i64 x1 :: .str x8 :: .bool y15 :: .bool (!y15) :: .int .i64 x1 :: .str a0 :: .int .i64 (a0.length : Int) :: .bool (x1 == (a0.length : Int)) :: .str a0 :: an 53 []))), ⟨lv + 1, L, E⟩, [], E⟩ [] (by simp -implicitDefEqProofs []) claims_nil ?_
                refine satO_nil (by simp) ?_
                repeat refine sat_seq ?_
                refine sat_ret ?_
                refine ends (v := .tup [.str a0, .int .i64 (-1), .bool true]) (by simp [resultsV, resL, resV, tupOf, Try.f81, pLoad]) rfl rfl ?_
                injection h with h
                subst h
                exact .keep _ (by simp [V.kin, V.kinL])
              · have h := ite_f hb h
                repeat refine sat_seq ?_
                refine sat_skip ?_
                repeat refine sat_seq ?_
                refine satO_reg ?_
                obtain ⟨x17, q18, h⟩ := bnd_hi h
                obtain ⟨q18, q19⟩ := ix_some q18
                refine satO_step 6 [] ⟨.str a0 :: an 4 (.int .i64 x1 :: an 12 (.bool x2 :: an 2 (.str a0 :: .int .i64 x1 :: .str x8 :: .bool y15 :: .bool (!y15) :: .int .i64 x1 :: .str a0 :: .int .i64 (a0.length : Int) :: .bool (x1 == (a0.length : Int)) :: an 1 (.str a0 :: .str a0 :: .int .i64 (a0.length : Int) :: .int .i64 (IntKind.i64.wrap ((a0.length : Int) - 1)) :: .int .u8 (x17.toNat : Int) :: .bool (!((x17.toNat : Int) == 93)) :: an 47 [])))), ⟨lv + 1, L, E⟩, [], E⟩ [] (by simp -implicitDefEqProofs [q18, q19]) claims_nil ?_
                refine satO_nil (by simp) ?_
                repeat refine sat_seq ?_
                refine sat_cond rfl (fun hb => ?_) (fun hb => ?_)
                · have h := ite_t hb h
                  repeat refine sat_seq ?_
                  refine satO_reg ?_
                  refine satO_step 3 [] ⟨.str a0 :: an 1 (.str ([]) :: .int .i64 0 :: .bool false :: .int .i64 x1 :: an 12 (.bool x2 :: an 2 (.str a0 :: .int .i64 x1 :: .str x8 :: .bool y15 :: .bool (!y15) :: .int .i64 x1 :: .str a0 :: .int .i64 (a0.length : Int) :: .bool (x1 == (a0.length : Int)) :: an 1 (.str a0 :: .str a0 :: .int .i64 (a0.length : Int) :: .int .i64 (IntKind.i64.wrap ((a0.length : Int) - 1)) :: .int .u8 (x17.toNat : Int) :: .bool (!((x17.toNat : Int) == 93)) :: an 47 [])))), ⟨lv + 1, L, E⟩, [], E⟩ [] (by simp -implicitDefEqProofs []) claims_nil ?_
                  refine satO_nil (by simp) ?_
                  repeat refine sat_seq ?_
                  refine sat_ret ?_
                  refine ends (v := .tup [.str ([]), .int .i64 0, .bool false]) (by simp [resultsV, resL, resV, tupOf, Try.f81, pLoad]) rfl rfl ?_
                  injection h with h
                  subst h
                  exact .keep _ (by simp [V.kin, V.kinL])
                · have h := ite_f hb h
                  repeat refine sat_seq ?_
                  refine sat_skip ?_
                  repeat refine sat_seq ?_
                  refine satO_reg ?_
                  obtain ⟨x20, q21, h⟩ := bnd_hi h
                  obtain ⟨q21, q22, q23, q24, q25, q26⟩ := sub_some q21
                  refine satO_step 8 [] ⟨.str a0 :: an 4 (.int .i64 x1 :: .str x20 :: an 11 (.bool x2 :: an 2 (.str a0 :: .int .i64 x1 :: .str x8 :: .bool y15 :: .bool (!y15) :: .int .i64 x1 :: .str a0 :: .int .i64 (a0.length : Int) :: .bool (x1 == (a0.length : Int)) :: an 1 (.str a0 :: .str a0 :: .int .i64 (a0.length : Int) :: .int .i64 (IntKind.i64.wrap ((a0.length : Int) - 1)) :: .int .u8 (x17.toNat : Int) :: .bool (!((x17.toNat : Int) == 93)) :: .str a0 :: .int .i64 x1 :: .int .i64 (IntKind.i64.wrap (x1 + 1)) :: .str a0 :: .int .i64 (a0.length : Int) :: .int .i64 (IntKind.i64.wrap ((a0.length : Int) - 1)) :: .str x20 :: an 40 [])))), ⟨lv + 1, L, E⟩, [], E⟩ [] (by simp -implicitDefEqProofs [q21, q22, q23, q24, q25, q26, List.map_take, List.map_drop, Int.max_eq_left]) claims_nil ?_
                  refine satO_nil (by simp) ?_
                  repeat refine sat_seq ?_
                  refine satO_reg ?_
                  refine satO_step 1 [] ⟨.str a0 :: an 4 (.int .i64 x1 :: .str x20 :: .int .i64 0 :: an 10 (.bool x2 :: an 2 (.str a0 :: .int .i64 x1 :: .str x8 :: .bool y15 :: .bool (!y15) :: .int .i64 x1 :: .str a0 :: .int .i64 (a0.length : Int) :: .bool (x1 == (a0.length : Int)) :: an 1 (.str a0 :: .str a0 :: .int .i64 (a0.length : Int) :: .int .i64 (IntKind.i64.wrap ((a0.length : Int) - 1)) :: .int .u8 (x17.toNat : Int) :: .bool (!((x17.toNat : Int) == 93)) :: .str a0 :: .int .i64 x1 :: .int .i64 (IntKind.i64.wrap (x1 + 1)) :: .str a0 :: .int .i64 (a0.length : Int) :: .int .i64 (IntKind.i64.wrap ((a0.length : Int) - 1)) :: .str x20 :: an 40 [])))), ⟨lv + 1, L, E⟩, [], E⟩ [] (by simp -implicitDefEqProofs []) claims_nil ?_
                  refine satO_nil (by simp) ?_
                  repeat refine sat_seq ?_
                  refine satO_reg ?_
                  refine satO_step 1 [] ⟨.str a0 :: an 4 (.int .i64 x1 :: .str x20 :: .int .i64 0 :: .int .i64 0 :: an 9 (.bool x2 :: an 2 (.str a0 :: .int .i64 x1 :: .str x8 :: .bool y15 :: .bool (!y15) :: .int .i64 x1 :: .str a0 :: .int .i64 (a0.length : Int) :: .bool (x1 == (a0.length : Int)) :: an 1 (.str a0 :: .str a0 :: .int .i64 (a0.length : Int) :: .int .i64 (IntKind.i64.wrap ((a0.length : Int) - 1)) :: .int .u8 (x17.toNat : Int) :: .bool (!((x17.toNat : Int) == 93)) :: .str a0 :: .int .i64 x1 :: .int .i64 (IntKind.i64.wrap (x1 + 1)) :: .str a0 :: .int .i64 (a0.length : Int) :: .int .i64 (IntKind.i64.wrap ((a0.length : Int) - 1)) :: .str x20 :: an 40 [])))), ⟨lv + 1, L, E⟩, [], E⟩ [] (by simp -implicitDefEqProofs []) claims_nil ?_
                  refine satO_nil (by simp) ?_
                  repeat refine sat_seq ?_
                  refine sat_block ?_
                  repeat refine sat_seq ?_
                  refine sat_loop (fun k σ => ∃ (x27 : Int) (x28 : Int) (L : List (Option AObj)), k ≤ n ∧ AccG (lv + 1) L [] [] ∧ go_ref02_Step_L2 k a0 x1 x20 x27 x28 = some r ∧ σ = ⟨.str a0 :: an 4 (.int .i64 x1 :: .str x20 :: .int .i64 x27 :: .int .i64 x28 :: an 75 []), ⟨lv + 1, L, E⟩, [], E⟩) n ⟨.str a0 :: an 4 (.int .i64 x1 :: .str x20 :: .int .i64 0 :: .int .i64 0 :: an 75 []), ⟨lv + 1, L, E⟩, [], E⟩ (weak_tmps ?_) ⟨0, 0, L, Nat.le_refl _, hA, h, rfl⟩ ?_
                  · (try simp only [an, List.map_cons, List.map_nil]); repeat (first | exact VLeL.nil | refine VLeL.cons (by first | exact VLe.refl _ | exact VLe.any _ | exact VLe.nil _ _ | exact VLe.full _ _ | (refine VLe.agg' ?_; repeat (first | exact VLeL.nil | refine VLeL.cons (by first | exact VLe.refl _ | exact VLe.any _ | exact VLe.nil _ _) ?_))) ?_)
                  · rintro k σ ⟨x27, x28, L, hk, hA, h, rfl⟩
                    rcases k with _ | n
                    · simp [go_ref02_Step_L2] at h
                    · rw [go_ref02_Step_L2] at h
                      repeat refine sat_seq ?_
                      refine satO_reg ?_
                      refine satO_step 4 [] ⟨.str a0 :: an 4 (.int .i64 x1 :: .str x20 :: .int .i64 x27 :: .int .i64 x28 :: an 35 (.int .i64 x28 :: .str x20 :: .int .i64 (x20.length : Int) :: .bool (decide (x28 < (x20.length : Int))) :: an 36 [])), ⟨lv + 1, L, E⟩, [], E⟩ [] (by simp -implicitDefEqProofs []) claims_nil ?_
                      refine satO_nil (by simp) ?_
                      repeat refine sat_seq ?_
                      refine sat_cond rfl (fun hb => ?_) (fun hb => ?_)
                      · have h := ite_t hb h
                        repeat refine sat_seq ?_
                        refine sat_skip ?_
                        repeat refine sat_seq ?_
                        refine sat_block ?_
                        repeat refine sat_seq ?_
                        refine sat_meet (fun σ => ∃ (k : Nat), k ≤ n ∧ ∃ (x29 : Bool) (L : List (Option AObj)), AccG (lv + 1) L [] [] ∧ go_ref02_Step_J2 k a0 x1 x20 x27 x28 x29 = some r ∧ σ = ⟨.str a0 :: an 4 (.int .i64 x1 :: .str x20 :: .int .i64 x27 :: .int .i64 x28 :: an 49 (.bool x29 :: an 25 [])), ⟨lv + 1, L, E⟩, [], E⟩) ?_ ?_
                        · refine satO_reg ?_
                          obtain ⟨x30, q31, h⟩ := bnd_hi h
                          obtain ⟨q31, q32⟩ := ix_some q31
                          obtain ⟨y33, q34, h⟩ := bnd_hi h
                          rcases Bool.eq_false_or_eq_true (!y33) with hg35 | hg36
                          · have h := ite_t hg35 h
                            have hg35n := hg35
                            try simp at hg35n
                            refine satO_step 9 [(.bool y33, none)] ⟨.str a0 :: an 4 (.int .i64 x1 :: .str x20 :: .int .i64 x27 :: .int .i64 x28 :: an 35 (.int .i64 x28 :: .str x20 :: .int .i64 (x20.length : Int) :: .bool (decide (x28 < (x20.length : Int))) :: an 2 (.str x20 :: .int .i64 x28 :: .int .u8 (x30.toNat : Int) :: .bool y33 :: .bool (!y33) :: .bool (!y33) :: .tup [] :: .tup [] :: .bool true :: an 25 []))), ⟨lv + 1, L, E⟩, [], E⟩ [⟨83, [.int .u8 (x30.toNat : Int)], ⟨lv + 1, L, E⟩, .bool y33, ⟨lv + 1, L, E⟩⟩] (by first | (simp -implicitDefEqProofs [q31, q32, hg35]; done) | simp -implicitDefEqProofs [q31, q32, hg35, hg35n]) (claims_cons (go_ref02_digit_ok _ _ _ q34 _) claims_nil) ?_
                            refine satO_nil (by simp) ?_
                            refine ⟨⟨.str a0 :: an 4 (.int .i64 x1 :: .str x20 :: .int .i64 x27 :: .int .i64 x28 :: an 49 (.bool true :: an 25 [])), ⟨lv + 1, L, E⟩, [], E⟩, weak_tmps ?_, n, by omega, true, L, hA, h, rfl⟩
                            (try simp only [an, List.map_cons, List.map_nil]); repeat (first | exact VLeL.nil | refine VLeL.cons (by first | exact VLe.refl _ | exact VLe.any _ | exact VLe.nil _ _ | exact VLe.full _ _ | (refine VLe.agg' ?_; repeat (first | exact VLeL.nil | refine VLeL.cons (by first | exact VLe.refl _ | exact VLe.any _ | exact VLe.nil _ _) ?_))) ?_)
                          · have h := ite_f hg36 h
                            have hg36n := hg36
                            try simp at hg36n
                            refine satO_step 9 [(.bool y33, none)] ⟨.str a0 :: an 4 (.int .i64 x1 :: .str x20 :: .int .i64 x27 :: .int .i64 x28 :: an 35 (.int .i64 x28 :: .str x20 :: .int .i64 (x20.length : Int) :: .bool (decide (x28 < (x20.length : Int))) :: an 2 (.str x20 :: .int .i64 x28 :: .int .u8 (x30.toNat : Int) :: .bool y33 :: .bool (!y33) :: .bool (!y33) :: .int .i64 x28 :: .bool (decide (3 < x28)) :: .bool (decide (3 < x28)) :: an 25 []))), ⟨lv + 1, L, E⟩, [], E⟩ [⟨83, [.int .u8 (x30.toNat : Int)], ⟨lv + 1, L, E⟩, .bool y33, ⟨lv + 1, L, E⟩⟩] (by first | (simp -implicitDefEqProofs [q31, q32, hg36]; done) | simp -implicitDefEqProofs [q31, q32, hg36, hg36n]) (claims_cons (go_ref02_digit_ok _ _ _ q34 _) claims_nil) ?_
                            refine satO_nil (by simp) ?_
                            refine ⟨⟨.str a0 :: an 4 (.int .i64 x1 :: .str x20 :: .int .i64 x27 :: .int .i64 x28 :: an 49 (.bool (decide (3 < x28)) :: an 25 [])), ⟨lv + 1, L, E⟩, [], E⟩, weak_tmps ?_, n, by omega, (decide (3 < x28)), L, hA, h, rfl⟩
                            (try simp only [an, List.map_cons, List.map_nil]); repeat (first | exact VLeL.nil | refine VLeL.cons (by first | exact VLe.refl _ | exact VLe.any _ | exact VLe.nil _ _ | exact VLe.full _ _ | (refine VLe.agg' ?_; repeat (first | exact VLeL.nil | refine VLeL.cons (by first | exact VLe.refl _ | exact VLe.any _ | exact VLe.nil _ _) ?_))) ?_)
                        · rintro σ0 σ hw ⟨k, hk, x29, L, hA, h, rfl⟩
                          rcases k with _ | n
                          · simp [go_ref02_Step_J2] at h
                          · rw [go_ref02_Step_J2] at h
                            refine sat_weak hw ?_
                            repeat refine sat_seq ?_
                            refine sat_cond rfl (fun hb => ?_) (fun hb => ?_)
                            · have h := ite_t hb h
                              repeat refine sat_seq ?_
                              refine satO_reg ?_
                              refine satO_step 3 [] ⟨.str a0 :: an 1 (.str ([]) :: .int .i64 0 :: .bool false :: .int .i64 x1 :: .str x20 :: .int .i64 x27 :: .int .i64 x28 :: an 49 (.bool x29 :: an 25 [])), ⟨lv + 1, L, E⟩, [], E⟩ [] (by simp -implicitDefEqProofs []) claims_nil ?_
                              refine satO_nil (by simp) ?_
                              repeat refine sat_seq ?_
                              refine sat_ret ?_
                              refine ends (v := .tup [.str ([]), .int .i64 0, .bool false]) (by simp [resultsV, resL, resV, tupOf, Try.f81, pLoad]) rfl rfl ?_
                              injection h with h
                              subst h
                              exact .keep _ (by simp [V.kin, V.kinL])
                            · have h := ite_f hb h
                              repeat refine sat_seq ?_
                              refine sat_skip ?_
                              repeat refine sat_seq ?_
                              refine satO_reg ?_
                              obtain ⟨x37, q38, h⟩ := bnd_hi h
                              obtain ⟨q38, q39⟩ := ix_some q38
                              refine satO_step 9 [] ⟨.str a0 :: an 4 (.int .i64 x1 :: .str x20 :: .int .i64 (IntKind.i64.wrap ((IntKind.i64.wrap (10 * x27)) + (IntKind.i64.wrap (IntKind.u8.wrap ((x37.toNat : Int) - 48))))) :: .int .i64 x28 :: an 49 (.bool x29 :: .int .i64 x27 :: .int .i64 (IntKind.i64.wrap (10 * x27)) :: .str x20 :: .int .i64 x28 :: .int .u8 (x37.toNat : Int) :: .int .u8 (IntKind.u8.wrap ((x37.toNat : Int) - 48)) :: .int .i64 (IntKind.i64.wrap (IntKind.u8.wrap ((x37.toNat : Int) - 48))) :: .int .i64 (IntKind.i64.wrap ((IntKind.i64.wrap (10 * x27)) + (IntKind.i64.wrap (IntKind.u8.wrap ((x37.toNat : Int) - 48))))) :: an 17 [])), ⟨lv + 1, L, E⟩, [], E⟩ [] (by simp -implicitDefEqProofs [q38, q39]) claims_nil ?_
                              refine satO_nil (by simp) ?_
                              repeat refine sat_seq ?_
                              refine satO_reg ?_
                              refine satO_step 3 [] ⟨.str a0 :: an 4 (.int .i64 x1 :: .str x20 :: .int .i64 (IntKind.i64.wrap ((IntKind.i64.wrap (10 * x27)) + (IntKind.i64.wrap (IntKind.u8.wrap ((x37.toNat : Int) - 48))))) :: .int .i64 (IntKind.i64.wrap (x28 + 1)) :: an 39 (.int .i64 x28 :: .int .i64 (IntKind.i64.wrap (x28 + 1)) :: an 8 (.bool x29 :: .int .i64 x27 :: .int .i64 (IntKind.i64.wrap (10 * x27)) :: .str x20 :: .int .i64 x28 :: .int .u8 (x37.toNat : Int) :: .int .u8 (IntKind.u8.wrap ((x37.toNat : Int) - 48)) :: .int .i64 (IntKind.i64.wrap (IntKind.u8.wrap ((x37.toNat : Int) - 48))) :: .int .i64 (IntKind.i64.wrap ((IntKind.i64.wrap (10 * x27)) + (IntKind.i64.wrap (IntKind.u8.wrap ((x37.toNat : Int) - 48))))) :: an 17 []))), ⟨lv + 1, L, E⟩, [], E⟩ [] (by simp -implicitDefEqProofs []) claims_nil ?_
                              refine satO_nil (by simp) ?_
                              refine ⟨n, ⟨.str a0 :: an 4 (.int .i64 x1 :: .str x20 :: .int .i64 (IntKind.i64.wrap ((IntKind.i64.wrap (10 * x27)) + (IntKind.i64.wrap (IntKind.u8.wrap ((x37.toNat : Int) - 48))))) :: .int .i64 (IntKind.i64.wrap (x28 + 1)) :: an 75 []), ⟨lv + 1, L, E⟩, [], E⟩, weak_tmps ?_, ⟨(IntKind.i64.wrap ((IntKind.i64.wrap (10 * x27)) + (IntKind.i64.wrap (IntKind.u8.wrap ((x37.toNat : Int) - 48))))), (IntKind.i64.wrap (x28 + 1)), L, by omega, hA, h, rfl⟩, by omega⟩
                              (try simp only [an, List.map_cons, List.map_nil]); repeat (first | exact VLeL.nil | refine VLeL.cons (by first | exact VLe.refl _ | exact VLe.any _ | exact VLe.nil _ _ | exact VLe.full _ _ | (refine VLe.agg' ?_; repeat (first | exact VLeL.nil | refine VLeL.cons (by first | exact VLe.refl _ | exact VLe.any _ | exact VLe.nil _ _) ?_))) ?_)
                      · have h := ite_f hb h
                        repeat refine sat_seq ?_
                        refine sat_exit ?_
                        repeat refine sat_seq ?_
                        refine sat_meet (fun σ => ∃ (k : Nat), k ≤ n ∧ ∃ (x40 : Bool) (L : List (Option AObj)), AccG (lv + 1) L [] [] ∧ go_ref02_Step_J3 k a0 x1 x27 x40 = some r ∧ σ = ⟨.str a0 :: an 4 (.int .i64 x1 :: an 1 (.int .i64 x27 :: an 71 (.bool x40 :: an 4 []))), ⟨lv + 1, L, E⟩, [], E⟩) ?_ ?_
                        · refine satO_reg ?_
                          rcases Bool.eq_false_or_eq_true ((x20.length : Int) == 0) with hg41 | hg42
                          · have h := ite_t hg41 h
                            have hg41n := hg41
                            try simp at hg41n
                            refine satO_step 13 [] ⟨.str a0 :: an 4 (.int .i64 x1 :: .str x20 :: .int .i64 x27 :: .int .i64 x28 :: an 35 (.int .i64 x28 :: .str x20 :: .int .i64 (x20.length : Int) :: .bool (decide (x28 < (x20.length : Int))) :: an 19 (.str x20 :: .int .i64 (x20.length : Int) :: .bool ((x20.length : Int) == 0) :: .bool ((x20.length : Int) == 0) :: .tup [] :: .tup [] :: .tup [] :: .tup [] :: .tup [] :: .tup [] :: .tup [] :: .tup [] :: .bool true :: an 4 []))), ⟨lv + 1, L, E⟩, [], E⟩ [] (by first | (simp -implicitDefEqProofs [hg41]; done) | simp -implicitDefEqProofs [hg41, hg41n]) claims_nil ?_
                            refine satO_nil (by simp) ?_
                            refine ⟨⟨.str a0 :: an 4 (.int .i64 x1 :: an 1 (.int .i64 x27 :: an 71 (.bool true :: an 4 []))), ⟨lv + 1, L, E⟩, [], E⟩, weak_tmps ?_, n, by omega, true, L, hA, h, rfl⟩
                            (try simp only [an, List.map_cons, List.map_nil]); repeat (first | exact VLeL.nil | refine VLeL.cons (by first | exact VLe.refl _ | exact VLe.any _ | exact VLe.nil _ _ | exact VLe.full _ _ | (refine VLe.agg' ?_; repeat (first | exact VLeL.nil | refine VLeL.cons (by first | exact VLe.refl _ | exact VLe.any _ | exact VLe.nil _ _) ?_))) ?_)
                          · have h := ite_f hg42 h
                            have hg42n := hg42
                            try simp at hg42n
                            rcases Bool.eq_false_or_eq_true (decide (1 < (x20.length : Int))) with hg43 | hg47
                            · have h := ite_t hg43 h
                              have hg43n := hg43
                              try simp at hg43n
                              obtain ⟨x44, q45, h⟩ := bnd_hi h
                              obtain ⟨q45, q46⟩ := ix_some q45
                              have q46 : (x20)[0]? = some x44 := q46
                              refine satO_step 13 [] ⟨.str a0 :: an 4 (.int .i64 x1 :: .str x20 :: .int .i64 x27 :: .int .i64 x28 :: an 35 (.int .i64 x28 :: .str x20 :: .int .i64 (x20.length : Int) :: .bool (decide (x28 < (x20.length : Int))) :: an 19 (.str x20 :: .int .i64 (x20.length : Int) :: .bool ((x20.length : Int) == 0) :: .bool ((x20.length : Int) == 0) :: .str x20 :: .int .i64 (x20.length : Int) :: .bool (decide (1 < (x20.length : Int))) :: .bool (decide (1 < (x20.length : Int))) :: .str x20 :: .int .u8 (x44.toNat : Int) :: .bool ((x44.toNat : Int) == 48) :: .bool ((x44.toNat : Int) == 48) :: .bool ((x44.toNat : Int) == 48) :: an 4 []))), ⟨lv + 1, L, E⟩, [], E⟩ [] (by first | (simp -implicitDefEqProofs [hg42, hg43, q45, q46]; done) | simp -implicitDefEqProofs [hg42, hg43, q45, q46, hg42n, hg43n]) claims_nil ?_
                              refine satO_nil (by simp) ?_
                              refine ⟨⟨.str a0 :: an 4 (.int .i64 x1 :: an 1 (.int .i64 x27 :: an 71 (.bool ((x44.toNat : Int) == 48) :: an 4 []))), ⟨lv + 1, L, E⟩, [], E⟩, weak_tmps ?_, n, by omega, ((x44.toNat : Int) == 48), L, hA, h, rfl⟩
                              (try simp only [an, List.map_cons, List.map_nil]); repeat (first | exact VLeL.nil | refine VLeL.cons (by first | exact VLe.refl _ | exact VLe.any _ | exact VLe.nil _ _ | exact VLe.full _ _ | (refine VLe.agg' ?_; repeat (first | exact VLeL.nil | refine VLeL.cons (by first | exact VLe.refl _ | exact VLe.any _ | exact VLe.nil _ _) ?_))) ?_)
                            · have h := ite_f hg47 h
                              have hg47n := hg47
                              try simp at hg47n
                              refine satO_step 13 [] ⟨.str a0 :: an 4 (.int .i64 x1 :: .str x20 :: .int .i64 x27 :: .int .i64 x28 :: an 35 (.int .i64 x28 :: .str x20 :: .int .i64 (x20.length : Int) :: .bool (decide (x28 < (x20.length : Int))) :: an 19 (.str x20 :: .int .i64 (x20.length : Int) :: .bool ((x20.length : Int) == 0) :: .bool ((x20.length : Int) == 0) :: .str x20 :: .int .i64 (x20.length : Int) :: .bool (decide (1 < (x20.length : Int))) :: .bool (decide (1 < (x20.length : Int))) :: .tup [] :: .tup [] :: .tup [] :: .bool false :: .bool false :: an 4 []))), ⟨lv + 1, L, E⟩, [], E⟩ [] (by first | (simp -implicitDefEqProofs [hg42, hg47]; done) | simp -implicitDefEqProofs [hg42, hg47, hg42n, hg47n]) claims_nil ?_
                              refine satO_nil (by simp) ?_
                              refine ⟨⟨.str a0 :: an 4 (.int .i64 x1 :: an 1 (.int .i64 x27 :: an 71 (.bool false :: an 4 []))), ⟨lv + 1, L, E⟩, [], E⟩, weak_tmps ?_, n, by omega, false, L, hA, h, rfl⟩
                              (try simp only [an, List.map_cons, List.map_nil]); repeat (first | exact VLeL.nil | refine VLeL.cons (by first | exact VLe.refl _ | exact VLe.any _ | exact VLe.nil _ _ | exact VLe.full _ _ | (refine VLe.agg' ?_; repeat (first | exact VLeL.nil | refine VLeL.cons (by first | exact VLe.refl _ | exact VLe.any _ | exact VLe.nil _ _) ?_))) ?_)
                        · rintro σ0 σ hw ⟨k, hk, x40, L, hA, h, rfl⟩
                          rcases k with _ | n
                          · simp [go_ref02_Step_J3] at h
                          · rw [go_ref02_Step_J3] at h
                            refine sat_weak hw ?_
                            repeat refine sat_seq ?_
                            refine sat_cond rfl (fun hb => ?_) (fun hb => ?_)
                            · have h := ite_t hb h
                              repeat refine sat_seq ?_
                              refine satO_reg ?_
                              refine satO_step 3 [] ⟨.str a0 :: an 1 (.str ([]) :: .int .i64 0 :: .bool false :: .int .i64 x1 :: an 1 (.int .i64 x27 :: an 71 (.bool x40 :: an 4 []))), ⟨lv + 1, L, E⟩, [], E⟩ [] (by simp -implicitDefEqProofs []) claims_nil ?_
                              refine satO_nil (by simp) ?_
                              repeat refine sat_seq ?_
                              refine sat_ret ?_
                              refine ends (v := .tup [.str ([]), .int .i64 0, .bool false]) (by simp [resultsV, resL, resV, tupOf, Try.f81, pLoad]) rfl rfl ?_
                              injection h with h
                              subst h
                              exact .keep _ (by simp [V.kin, V.kinL])
                            · have h := ite_f hb h
                              repeat refine sat_seq ?_
                              refine sat_skip ?_
                              repeat refine sat_seq ?_
                              refine satO_reg ?_
                              obtain ⟨x48, q49, h⟩ := bnd_hi h
                              obtain ⟨q49, q50, q51, q52, q53, q54⟩ := sub_some q49
                              refine satO_step 7 [] ⟨.str a0 :: an 1 (.str x48 :: .int .i64 x27 :: .bool true :: .int .i64 x1 :: an 1 (.int .i64 x27 :: an 71 (.bool x40 :: .str a0 :: .int .i64 x1 :: .str x48 :: .int .i64 x27 :: []))), ⟨lv + 1, L, E⟩, [], E⟩ [] (by simp -implicitDefEqProofs [q49, q50, q51, q52, q53, q54, List.map_take, List.map_drop, Int.max_eq_left]) claims_nil ?_
                              refine satO_nil (by simp) ?_
                              repeat refine sat_seq ?_
                              refine sat_ret ?_
                              refine ends (v := .tup [.str x48, .int .i64 x27, .bool true]) (by simp [resultsV, resL, resV, tupOf, Try.f81, pLoad]) rfl rfl ?_
                              injection h with h
                              subst h
                              exact .keep _ (by simp [V.kin, V.kinL])
end Go.Proofs

namespace Go.Proofs
open Go Go.Ab
set_option maxRecDepth 10000
set_option maxHeartbeats 1000000
set_option linter.unusedSimpArgs false
set_option linter.unusedVariables false
theorem go_ref02_Check_ok (n : Nat) (a0 : List UInt8) (r : Int) (h : go_ref02_Check n a0 = some r) : PCall Try.prog 65 [.str a0] (.int .i64 r) := by
  rcases n with _ | n
  · simp [go_ref02_Check] at h
  rw [go_ref02_Check] at h
  refine pcall_of Try.func65 rfl Try.ntmps65 (fun _ _ => Try.call65 _ _) fun lv E => ?_
  simp only [List.length_cons, List.length_nil, Nat.reduceAdd, Nat.reduceSub, List.replicate, List.cons_append, List.nil_append]
  have hA := AccG.nil (lv + 1)
  generalize ([] : List (Option AObj)) = L at hA ⊢
  repeat refine sat_seq ?_
  refine satO_reg ?_
  refine satO_step 1 [] ⟨.str a0 :: an 1 (.int .i64 0 :: an 30 []), ⟨lv + 1, L, E⟩, [], E⟩ [] (by simp -implicitDefEqProofs []) claims_nil ?_
  refine satO_nil (by simp) ?_
  repeat refine sat_seq ?_
  refine satO_reg ?_
  refine satO_step 3 [] ⟨.str a0 :: an 1 (.int .i64 0 :: an 5 (.str a0 :: .int .i64 (a0.length : Int) :: .bool (decide (4000 < (a0.length : Int))) :: an 22 [])), ⟨lv + 1, L, E⟩, [], E⟩ [] (by simp -implicitDefEqProofs []) claims_nil ?_
  refine satO_nil (by simp) ?_
  repeat refine sat_seq ?_
  refine sat_cond rfl (fun hb => ?_) (fun hb => ?_)
  · have h := ite_t hb h
    repeat refine sat_seq ?_
    refine satO_reg ?_
    refine satO_step 1 [] ⟨.str a0 :: an 1 (.int .i64 4 :: an 5 (.str a0 :: .int .i64 (a0.length : Int) :: .bool (decide (4000 < (a0.length : Int))) :: an 22 [])), ⟨lv + 1, L, E⟩, [], E⟩ [] (by simp -implicitDefEqProofs []) claims_nil ?_
    refine satO_nil (by simp) ?_
    repeat refine sat_seq ?_
    refine sat_ret ?_
    refine ends (v := .int .i64 4) (by simp [resultsV, resL, resV, tupOf, Try.f65, pLoad]) rfl rfl ?_
    injection h with h
    subst h
    exact (.keep _ (by simp [V.kin, V.kinL]))
  · have h := ite_f hb h
    repeat refine sat_seq ?_
    refine sat_skip ?_
    repeat refine sat_seq ?_
    refine satO_reg ?_
    obtain ⟨y1, q2, h⟩ := bnd_hi h
    refine satO_step 3 [(.sl 1 (y1.map V.str) false, none)] ⟨.str a0 :: an 1 (.int .i64 0 :: .sl 1 (y1.map V.str) false :: an 4 (.str a0 :: .int .i64 (a0.length : Int) :: .bool (decide (4000 < (a0.length : Int))) :: .str a0 :: .sl 1 (y1.map V.str) false :: an 20 [])), ⟨lv + 1, L, E⟩, [], E⟩ [⟨80, [.str a0], ⟨lv + 1, L, E⟩, .sl 1 (y1.map V.str) false, ⟨lv + 1, L, E⟩⟩] (by simp -implicitDefEqProofs []) (claims_cons (go_ref02_Cut_ok _ _ _ q2 _) claims_nil) ?_
    refine satO_nil (by simp) ?_
    repeat refine sat_seq ?_
    refine satO_reg ?_
    refine satO_step 3 [] ⟨.str a0 :: an 1 (.int .i64 0 :: .sl 1 (y1.map V.str) false :: an 4 (.str a0 :: .int .i64 (a0.length : Int) :: .bool (decide (4000 < (a0.length : Int))) :: .str a0 :: .sl 1 (y1.map V.str) false :: .sl 1 (y1.map V.str) false :: .int .i64 (y1.length : Int) :: .bool (decide (40 < (y1.length : Int))) :: an 17 [])), ⟨lv + 1, L, E⟩, [], E⟩ [] (by simp -implicitDefEqProofs []) claims_nil ?_
    refine satO_nil (by simp) ?_
    repeat refine sat_seq ?_
    refine sat_cond rfl (fun hb => ?_) (fun hb => ?_)
    · have h := ite_t hb h
      repeat refine sat_seq ?_
      refine satO_reg ?_
      refine satO_step 1 [] ⟨.str a0 :: an 1 (.int .i64 4 :: .sl 1 (y1.map V.str) false :: an 4 (.str a0 :: .int .i64 (a0.length : Int) :: .bool (decide (4000 < (a0.length : Int))) :: .str a0 :: .sl 1 (y1.map V.str) false :: .sl 1 (y1.map V.str) false :: .int .i64 (y1.length : Int) :: .bool (decide (40 < (y1.length : Int))) :: an 17 [])), ⟨lv + 1, L, E⟩, [], E⟩ [] (by simp -implicitDefEqProofs []) claims_nil ?_
      refine satO_nil (by simp) ?_
      repeat refine sat_seq ?_
      refine sat_ret ?_
      refine ends (v := .int .i64 4) (by simp [resultsV, resL, resV, tupOf, Try.f65, pLoad]) rfl rfl ?_
      injection h with h
      subst h
      exact (.keep _ (by simp [V.kin, V.kinL]))
    · have h := ite_f hb h
      repeat refine sat_seq ?_
      refine sat_skip ?_
      repeat refine sat_seq ?_
      refine satO_reg ?_
      refine satO_step 1 [] ⟨.str a0 :: an 1 (.int .i64 0 :: .sl 1 (y1.map V.str) false :: .int .i64 0 :: an 3 (.str a0 :: .int .i64 (a0.length : Int) :: .bool (decide (4000 < (a0.length : Int))) :: .str a0 :: .sl 1 (y1.map V.str) false :: .sl 1 (y1.map V.str) false :: .int .i64 (y1.length : Int) :: .bool (decide (40 < (y1.length : Int))) :: an 17 [])), ⟨lv + 1, L, E⟩, [], E⟩ [] (by simp -implicitDefEqProofs []) claims_nil ?_
      refine satO_nil (by simp) ?_
      repeat refine sat_seq ?_
      refine sat_block ?_
      repeat refine sat_seq ?_
      refine sat_loop (fun k σ => ∃ (x3 : Int) (L : List (Option AObj)), k ≤ n ∧ AccG (lv + 1) L [] [] ∧ go_ref02_Check_L1 k y1 x3 = some r ∧ σ = ⟨an 3 (.sl 1 (y1.map V.str) false :: .int .i64 x3 :: an 28 []), ⟨lv + 1, L, E⟩, [], E⟩) n ⟨an 3 (.sl 1 (y1.map V.str) false :: .int .i64 0 :: an 28 []), ⟨lv + 1, L, E⟩, [], E⟩ (weak_tmps ?_) ⟨0, L, Nat.le_refl _, hA, h, rfl⟩ ?_
      · (try simp only [an, List.map_cons, List.map_nil]); repeat (first | exact VLeL.nil | refine VLeL.cons (by first | exact VLe.refl _ | exact VLe.any _ | exact VLe.nil _ _ | exact VLe.full _ _ | (refine VLe.agg' ?_; repeat (first | exact VLeL.nil | refine VLeL.cons (by first | exact VLe.refl _ | exact VLe.any _ | exact VLe.nil _ _) ?_))) ?_)
      · rintro k σ ⟨x3, L, hk, hA, h, rfl⟩
        rcases k with _ | n
        · simp [go_ref02_Check_L1] at h
        · rw [go_ref02_Check_L1] at h
          repeat refine sat_seq ?_
          refine satO_reg ?_
          refine satO_step 4 [] ⟨an 3 (.sl 1 (y1.map V.str) false :: .int .i64 x3 :: an 11 (.int .i64 x3 :: .sl 1 (y1.map V.str) false :: .int .i64 (y1.length : Int) :: .bool (decide (x3 < (y1.length : Int))) :: an 13 [])), ⟨lv + 1, L, E⟩, [], E⟩ [] (by simp -implicitDefEqProofs []) claims_nil ?_
          refine satO_nil (by simp) ?_
          repeat refine sat_seq ?_
          refine sat_cond rfl (fun hb => ?_) (fun hb => ?_)
          · have h := ite_t hb h
            repeat refine sat_seq ?_
            refine sat_skip ?_
            repeat refine sat_seq ?_
            refine sat_block ?_
            repeat refine sat_seq ?_
            refine satO_reg ?_
            obtain ⟨x4, q5, h⟩ := bnd_hi h
            obtain ⟨q5, q6⟩ := ix_some q5
            obtain ⟨y7, q8, h⟩ := bnd_hi h
            refine satO_step 12 [(.tup [.str y7.1, .int .i64 y7.2.1, .bool y7.2.2], none)] ⟨an 3 (.sl 1 (y1.map V.str) false :: .int .i64 x3 :: .str y7.1 :: .int .i64 y7.2.1 :: .bool y7.2.2 :: an 8 (.int .i64 x3 :: .sl 1 (y1.map V.str) false :: .int .i64 (y1.length : Int) :: .bool (decide (x3 < (y1.length : Int))) :: an 2 (.tup [.str y7.1, .int .i64 y7.2.1, .bool y7.2.2] :: .sl 1 (y1.map V.str) false :: .int .i64 x3 :: .ref [.str x4] 0 :: .str x4 :: .tup [.str y7.1, .int .i64 y7.2.1, .bool y7.2.2] :: .str y7.1 :: .int .i64 y7.2.1 :: .bool y7.2.2 :: an 2 []))), ⟨lv + 1, L, E⟩, [], E⟩ [⟨81, [.str x4], ⟨lv + 1, L, E⟩, .tup [.str y7.1, .int .i64 y7.2.1, .bool y7.2.2], ⟨lv + 1, L, E⟩⟩] (by simp -implicitDefEqProofs [q5, q6]) (claims_cons (go_ref02_Step_ok _ _ _ q8 _) claims_nil) ?_
            refine satO_nil (by simp) ?_
            repeat refine sat_seq ?_
            refine satO_reg ?_
            refine satO_step 2 [] ⟨an 3 (.sl 1 (y1.map V.str) false :: .int .i64 x3 :: .str y7.1 :: .int .i64 y7.2.1 :: .bool y7.2.2 :: an 8 (.int .i64 x3 :: .sl 1 (y1.map V.str) false :: .int .i64 (y1.length : Int) :: .bool (decide (x3 < (y1.length : Int))) :: an 2 (.tup [.str y7.1, .int .i64 y7.2.1, .bool y7.2.2] :: .sl 1 (y1.map V.str) false :: .int .i64 x3 :: .ref [.str x4] 0 :: .str x4 :: .tup [.str y7.1, .int .i64 y7.2.1, .bool y7.2.2] :: .str y7.1 :: .int .i64 y7.2.1 :: .bool y7.2.2 :: .bool y7.2.2 :: .bool (!y7.2.2) :: []))), ⟨lv + 1, L, E⟩, [], E⟩ [] (by simp -implicitDefEqProofs []) claims_nil ?_
            refine satO_nil (by simp) ?_
            repeat refine sat_seq ?_
            refine sat_cond rfl (fun hb => ?_) (fun hb => ?_)
            · have h := ite_t hb h
              repeat refine sat_seq ?_
              refine satO_reg ?_
              refine satO_step 1 [] ⟨an 2 (.int .i64 12 :: .sl 1 (y1.map V.str) false :: .int .i64 x3 :: .str y7.1 :: .int .i64 y7.2.1 :: .bool y7.2.2 :: an 8 (.int .i64 x3 :: .sl 1 (y1.map V.str) false :: .int .i64 (y1.length : Int) :: .bool (decide (x3 < (y1.length : Int))) :: an 2 (.tup [.str y7.1, .int .i64 y7.2.1, .bool y7.2.2] :: .sl 1 (y1.map V.str) false :: .int .i64 x3 :: .ref [.str x4] 0 :: .str x4 :: .tup [.str y7.1, .int .i64 y7.2.1, .bool y7.2.2] :: .str y7.1 :: .int .i64 y7.2.1 :: .bool y7.2.2 :: .bool y7.2.2 :: .bool (!y7.2.2) :: []))), ⟨lv + 1, L, E⟩, [], E⟩ [] (by simp -implicitDefEqProofs []) claims_nil ?_
              refine satO_nil (by simp) ?_
              repeat refine sat_seq ?_
              refine sat_ret ?_
              refine ends (v := .int .i64 12) (by simp [resultsV, resL, resV, tupOf, Try.f65, pLoad]) rfl rfl ?_
              injection h with h
              subst h
              exact (.keep _ (by simp [V.kin, V.kinL]))
            · have h := ite_f hb h
              repeat refine sat_seq ?_
              refine sat_skip ?_
              repeat refine sat_seq ?_
              refine satO_reg ?_
              refine satO_step 3 [] ⟨an 3 (.sl 1 (y1.map V.str) false :: .int .i64 (IntKind.i64.wrap (x3 + 1)) :: .str y7.1 :: .int .i64 y7.2.1 :: .bool y7.2.2 :: an 8 (.int .i64 x3 :: .sl 1 (y1.map V.str) false :: .int .i64 (y1.length : Int) :: .bool (decide (x3 < (y1.length : Int))) :: .int .i64 x3 :: .int .i64 (IntKind.i64.wrap (x3 + 1)) :: .tup [.str y7.1, .int .i64 y7.2.1, .bool y7.2.2] :: .sl 1 (y1.map V.str) false :: .int .i64 x3 :: .ref [.str x4] 0 :: .str x4 :: .tup [.str y7.1, .int .i64 y7.2.1, .bool y7.2.2] :: .str y7.1 :: .int .i64 y7.2.1 :: .bool y7.2.2 :: .bool y7.2.2 :: .bool (!y7.2.2) :: [])), ⟨lv + 1, L, E⟩, [], E⟩ [] (by simp -implicitDefEqProofs []) claims_nil ?_
              refine satO_nil (by simp) ?_
              refine ⟨n, ⟨an 3 (.sl 1 (y1.map V.str) false :: .int .i64 (IntKind.i64.wrap (x3 + 1)) :: an 28 []), ⟨lv + 1, L, E⟩, [], E⟩, weak_tmps ?_, ⟨(IntKind.i64.wrap (x3 + 1)), L, by omega, hA, h, rfl⟩, by omega⟩
              (try simp only [an, List.map_cons, List.map_nil]); repeat (first | exact VLeL.nil | refine VLeL.cons (by first | exact VLe.refl _ | exact VLe.any _ | exact VLe.nil _ _ | exact VLe.full _ _ | (refine VLe.agg' ?_; repeat (first | exact VLeL.nil | refine VLeL.cons (by first | exact VLe.refl _ | exact VLe.any _ | exact VLe.nil _ _) ?_))) ?_)
          · have h := ite_f hb h
            repeat refine sat_seq ?_
            refine sat_exit ?_
            repeat refine sat_seq ?_
            refine satO_reg ?_
            refine satO_step 1 [] ⟨an 2 (.int .i64 0 :: .sl 1 (y1.map V.str) false :: .int .i64 x3 :: an 11 (.int .i64 x3 :: .sl 1 (y1.map V.str) false :: .int .i64 (y1.length : Int) :: .bool (decide (x3 < (y1.length : Int))) :: an 13 [])), ⟨lv + 1, L, E⟩, [], E⟩ [] (by simp -implicitDefEqProofs []) claims_nil ?_
            refine satO_nil (by simp) ?_
            repeat refine sat_seq ?_
            refine sat_ret ?_
            refine ends (v := .int .i64 0) (by simp [resultsV, resL, resV, tupOf, Try.f65, pLoad]) rfl rfl ?_
            injection h with h
            subst h
            exact (.keep _ (by simp [V.kin, V.kinL]))
end Go.Proofs
