/-
  The Go functions compute what their Lean functions do, by a program of this repo.
-/
import Derived.Test.YtoimblncdeimoaaDoorFns
import Derived.Test.YtoimblncdeimoaaDoorFacts
import Derived.Test.YtoimblncdeimoaaDoorAbSimp
import Derived.Lib.Bytealg
import Derived.Laws.Externs
import Derived.KernelRfl
import Derived.Test.YtoimblncdeimoaaDoorWalk0
import Derived.Test.YtoimblncdeimoaaDoorHand
namespace Go.Proofs
open Go Go.Ab
set_option maxRecDepth 10000
set_option maxHeartbeats 1000000
set_option linter.unusedSimpArgs false
set_option linter.unusedVariables false
theorem go_override_formed_ok (n : Nat) (a0 : List GOver) (r : Int) (h : go_override_formed n a0 = some r) : PCall Tryd.prog 17 [.sl 3 (a0.map GOver.el) false] (.int .i64 r) := by
  rcases n with _ | n
  · simp [go_override_formed] at h
  rw [go_override_formed] at h
  refine pcall_of Tryd.func17 rfl Tryd.ntmps17 (fun _ _ => Tryd.call17 _ _) fun lv E => ?_
  simp only [List.length_cons, List.length_nil, Nat.reduceAdd, Nat.reduceSub, List.replicate, List.cons_append, List.nil_append]
  have hA := AccG.nil (lv + 1)
  generalize ([] : List (Option AObj)) = L at hA ⊢
  repeat refine sat_seq ?_
  refine satO_reg ?_
  refine satO_step 1 [] ⟨.sl 3 (a0.map GOver.el) false :: an 1 (.int .i64 0 :: an 59 []), ⟨lv + 1, L, E⟩, [], E⟩ [] (by simp -implicitDefEqProofs []) claims_nil ?_
  refine satO_nil (by simp) ?_
  repeat refine sat_seq ?_
  refine satO_reg ?_
  refine satO_step 3 [] ⟨.sl 3 (a0.map GOver.el) false :: an 1 (.int .i64 0 :: an 4 (.sl 3 (a0.map GOver.el) false :: .int .i64 (a0.length : Int) :: .bool (decide (60 < (a0.length : Int))) :: an 52 [])), ⟨lv + 1, L, E⟩, [], E⟩ [] (by simp -implicitDefEqProofs []) claims_nil ?_
  refine satO_nil (by simp) ?_
  repeat refine sat_seq ?_
  refine sat_cond rfl (fun hb => ?_) (fun hb => ?_)
  · have h := ite_t hb h
    repeat refine sat_seq ?_
    refine satO_reg ?_
    refine satO_step 1 [] ⟨.sl 3 (a0.map GOver.el) false :: an 1 (.int .i64 4 :: an 4 (.sl 3 (a0.map GOver.el) false :: .int .i64 (a0.length : Int) :: .bool (decide (60 < (a0.length : Int))) :: an 52 [])), ⟨lv + 1, L, E⟩, [], E⟩ [] (by simp -implicitDefEqProofs []) claims_nil ?_
    refine satO_nil (by simp) ?_
    repeat refine sat_seq ?_
    refine sat_ret ?_
    refine ends (v := .int .i64 4) (by simp [resultsV, resL, resV, tupOf, Tryd.f17, pLoad]) rfl rfl ?_
    injection h with h
    subst h
    exact (.keep _ (by simp [V.kin, V.kinL]))
  · have h := ite_f hb h
    repeat refine sat_seq ?_
    refine sat_skip ?_
    repeat refine sat_seq ?_
    refine satO_reg ?_
    refine satO_step 3 [] ⟨.sl 3 (a0.map GOver.el) false :: an 1 (.int .i64 0 :: an 4 (.sl 3 (a0.map GOver.el) false :: .int .i64 (a0.length : Int) :: .bool (decide (60 < (a0.length : Int))) :: .sl 3 (a0.map GOver.el) false :: .int .i64 (a0.length : Int) :: .int .i64 0 :: an 49 [])), ⟨lv + 1, L, E⟩, [], E⟩ [] (by simp -implicitDefEqProofs []) claims_nil ?_
    refine satO_nil (by simp) ?_
    repeat refine sat_seq ?_
    refine sat_block ?_
    repeat refine sat_seq ?_
    refine sat_loop (fun k σ => ∃ (x1 : Int) (L : List (Option AObj)), k ≤ n ∧ AccG (lv + 1) L [] [] ∧ go_override_formed_L1 k a0 x1 = some r ∧ σ = ⟨an 10 (.sl 3 (a0.map GOver.el) false :: .int .i64 (a0.length : Int) :: .int .i64 x1 :: an 49 []), ⟨lv + 1, L, E⟩, [], E⟩) n ⟨an 10 (.sl 3 (a0.map GOver.el) false :: .int .i64 (a0.length : Int) :: .int .i64 0 :: an 49 []), ⟨lv + 1, L, E⟩, [], E⟩ (weak_tmps ?_) ⟨0, L, Nat.le_refl _, hA, h, rfl⟩ ?_
    · (try simp only [an, List.map_cons, List.map_nil]); repeat (first | exact VLeL.nil | refine VLeL.cons (by first | exact VLe.refl _ | exact VLe.any _ | exact VLe.nil _ _ | exact VLe.full _ _ | (refine VLe.agg' ?_; repeat (first | exact VLeL.nil | refine VLeL.cons (by first | exact VLe.refl _ | exact VLe.any _ | exact VLe.nil _ _) ?_))) ?_)
    · rintro k σ ⟨x1, L, hk, hA, h, rfl⟩
      rcases k with _ | n
      · simp [go_override_formed_L1] at h
      · rw [go_override_formed_L1] at h
        repeat refine sat_seq ?_
        refine satO_reg ?_
        refine satO_step 1 [] ⟨an 10 (.sl 3 (a0.map GOver.el) false :: .int .i64 (a0.length : Int) :: .int .i64 x1 :: .bool (decide (x1 < (a0.length : Int))) :: an 48 []), ⟨lv + 1, L, E⟩, [], E⟩ [] (by simp -implicitDefEqProofs []) claims_nil ?_
        refine satO_nil (by simp) ?_
        repeat refine sat_seq ?_
        refine sat_cond rfl (fun hb => ?_) (fun hb => ?_)
        · have h := ite_t hb h
          repeat refine sat_seq ?_
          refine sat_skip ?_
          repeat refine sat_seq ?_
          refine sat_block ?_
          repeat refine sat_seq ?_
          refine satO_reg ?_
          obtain ⟨x2, q3, h⟩ := bnd_hi h
          obtain ⟨q3, q4⟩ := ix_some q3
          refine satO_step 2 [] ⟨an 10 (.sl 3 (a0.map GOver.el) false :: .int .i64 (a0.length : Int) :: .int .i64 x1 :: .bool (decide (x1 < (a0.length : Int))) :: .ref x2.cs 0 :: .agg x2.cs :: an 46 []), ⟨lv + 1, L, E⟩, [], E⟩ [] (by simp -implicitDefEqProofs [GOver.cs, q3, q4, GOver.el_cs]) claims_nil ?_
          refine satO_step 1 [] ⟨an 4 (.ptr (lv + 1) L.length 0 :: an 5 (.sl 3 (a0.map GOver.el) false :: .int .i64 (a0.length : Int) :: .int .i64 x1 :: .bool (decide (x1 < (a0.length : Int))) :: .ref x2.cs 0 :: .agg x2.cs :: an 46 [])), ⟨lv + 1, (L ++ [some (.cells [.str ([]), .int .u8 0, .str ([])])]), E⟩, [], E⟩ [] (by simp -implicitDefEqProofs [GOver.cs]) claims_nil ?_
          have hA : AccG (lv + 1) (L ++ [some (.cells [.str ([]), .int .u8 0, .str ([])])]) [] [(L.length, .cells [.str ([]), .int .u8 0, .str ([])])] := hA.obj _
          generalize L.length = i6 at hA ⊢
          generalize (L ++ [some (.cells [.str ([]), .int .u8 0, .str ([])])]) = L at hA ⊢
          have g0 := hA.get (k := 0) rfl
          refine satO_step 1 [] ⟨an 4 (.ptr (lv + 1) i6 0 :: an 5 (.sl 3 (a0.map GOver.el) false :: .int .i64 (a0.length : Int) :: .int .i64 x1 :: .bool (decide (x1 < (a0.length : Int))) :: .ref x2.cs 0 :: .agg x2.cs :: an 46 [])), ⟨lv + 1, (L.set i6 (some (.cells x2.cs))), E⟩, [], E⟩ [] (by simp -implicitDefEqProofs [GOver.cs, g0]) claims_nil ?_
          have hA : AccG (lv + 1) (L.set i6 (some (.cells x2.cs))) [] [(i6, .cells x2.cs)] := hA.upd (k := 0) rfl _
          generalize (L.set i6 (some (.cells x2.cs))) = L at hA ⊢
          refine satO_nil (by simp) ?_
          repeat refine sat_seq ?_
          refine sat_meet (fun σ => ∃ (k : Nat), k ≤ n ∧ ∃ (x7 : Bool) (L : List (Option AObj)), AccG (lv + 1) L [] [(i6, .cells x2.cs)] ∧ go_override_formed_J1 k a0 x1 x2 x7 = some r ∧ σ = ⟨an 4 (.ptr (lv + 1) i6 0 :: .bool x7 :: an 4 (.sl 3 (a0.map GOver.el) false :: .int .i64 (a0.length : Int) :: .int .i64 x1 :: an 49 [])), ⟨lv + 1, L, E⟩, [], E⟩) ?_ ?_
          · refine satO_reg ?_
            obtain ⟨y8, q9, h⟩ := bnd_hi h
            rcases Bool.eq_false_or_eq_true (y8 == 0) with hg10 | hg11
            · have h := ite_t hg10 h
              have hg10n := hg10
              try simp at hg10n
              have g0 := hA.get (k := 0) rfl
              refine satO_step 10 [(.int .i64 y8, none)] ⟨an 4 (.ptr (lv + 1) i6 0 :: .bool (!(x2.path == ([]))) :: an 4 (.sl 3 (a0.map GOver.el) false :: .int .i64 (a0.length : Int) :: .int .i64 x1 :: .bool (decide (x1 < (a0.length : Int))) :: .ref x2.cs 0 :: .agg x2.cs :: .ptr (lv + 1) i6 0 :: .str x2.path :: .int .i64 y8 :: .bool (y8 == 0) :: .bool (y8 == 0) :: .ptr (lv + 1) i6 0 :: .str x2.path :: .bool (!(x2.path == ([]))) :: .bool (!(x2.path == ([]))) :: an 37 [])), ⟨lv + 1, L, E⟩, [], E⟩ [⟨29, [.str x2.path], ⟨lv + 1, L, E⟩, .int .i64 y8, ⟨lv + 1, L, E⟩⟩] (by first | (simp -implicitDefEqProofs [GOver.cs, g0, hg10]; done) | simp -implicitDefEqProofs [GOver.cs, g0, hg10, hg10n]) (claims_cons (go_label_Check_ok _ _ _ q9 _) claims_nil) ?_
              refine satO_nil (by simp) ?_
              refine ⟨⟨an 4 (.ptr (lv + 1) i6 0 :: .bool (!(x2.path == ([]))) :: an 4 (.sl 3 (a0.map GOver.el) false :: .int .i64 (a0.length : Int) :: .int .i64 x1 :: an 49 [])), ⟨lv + 1, L, E⟩, [], E⟩, weak_tmps ?_, n, by omega, (!(x2.path == ([]))), L, hA, h, rfl⟩
              (try simp only [an, List.map_cons, List.map_nil]); repeat (first | exact VLeL.nil | refine VLeL.cons (by first | exact VLe.refl _ | exact VLe.any _ | exact VLe.nil _ _ | exact VLe.full _ _ | (refine VLe.agg' ?_; repeat (first | exact VLeL.nil | refine VLeL.cons (by first | exact VLe.refl _ | exact VLe.any _ | exact VLe.nil _ _) ?_))) ?_)
            · have h := ite_f hg11 h
              have hg11n := hg11
              try simp at hg11n
              have g0 := hA.get (k := 0) rfl
              refine satO_step 10 [(.int .i64 y8, none)] ⟨an 4 (.ptr (lv + 1) i6 0 :: .bool false :: an 4 (.sl 3 (a0.map GOver.el) false :: .int .i64 (a0.length : Int) :: .int .i64 x1 :: .bool (decide (x1 < (a0.length : Int))) :: .ref x2.cs 0 :: .agg x2.cs :: .ptr (lv + 1) i6 0 :: .str x2.path :: .int .i64 y8 :: .bool (y8 == 0) :: .bool (y8 == 0) :: .tup [] :: .tup [] :: .tup [] :: .bool false :: an 37 [])), ⟨lv + 1, L, E⟩, [], E⟩ [⟨29, [.str x2.path], ⟨lv + 1, L, E⟩, .int .i64 y8, ⟨lv + 1, L, E⟩⟩] (by first | (simp -implicitDefEqProofs [GOver.cs, g0, hg11]; done) | simp -implicitDefEqProofs [GOver.cs, g0, hg11, hg11n]) (claims_cons (go_label_Check_ok _ _ _ q9 _) claims_nil) ?_
              refine satO_nil (by simp) ?_
              refine ⟨⟨an 4 (.ptr (lv + 1) i6 0 :: .bool false :: an 4 (.sl 3 (a0.map GOver.el) false :: .int .i64 (a0.length : Int) :: .int .i64 x1 :: an 49 [])), ⟨lv + 1, L, E⟩, [], E⟩, weak_tmps ?_, n, by omega, false, L, hA, h, rfl⟩
              (try simp only [an, List.map_cons, List.map_nil]); repeat (first | exact VLeL.nil | refine VLeL.cons (by first | exact VLe.refl _ | exact VLe.any _ | exact VLe.nil _ _ | exact VLe.full _ _ | (refine VLe.agg' ?_; repeat (first | exact VLeL.nil | refine VLeL.cons (by first | exact VLe.refl _ | exact VLe.any _ | exact VLe.nil _ _) ?_))) ?_)
          · rintro σ0 σ hw ⟨k, hk, x7, L, hA, h, rfl⟩
            rcases k with _ | n
            · simp [go_override_formed_J1] at h
            · rw [go_override_formed_J1] at h
              refine sat_weak hw ?_
              repeat refine sat_seq ?_
              refine satO_reg ?_
              have g0 := hA.get (k := 0) rfl
              refine satO_step 2 [] ⟨an 4 (.ptr (lv + 1) i6 0 :: .bool x7 :: an 4 (.sl 3 (a0.map GOver.el) false :: .int .i64 (a0.length : Int) :: .int .i64 x1 :: an 12 (.ptr (lv + 1) i6 1 :: .int .u8 x2.kind :: an 35 []))), ⟨lv + 1, L, E⟩, [], E⟩ [] (by simp -implicitDefEqProofs [GOver.cs, g0]) claims_nil ?_
              refine satO_nil (by simp) ?_
              repeat refine sat_seq ?_
              refine sat_block ?_
              repeat refine sat_seq ?_
              refine satO_reg ?_
              have g0 := hA.get (k := 0) rfl
              refine satO_step 2 [] ⟨an 4 (.ptr (lv + 1) i6 0 :: .bool x7 :: an 4 (.sl 3 (a0.map GOver.el) false :: .int .i64 (a0.length : Int) :: .int .i64 x1 :: an 12 (.ptr (lv + 1) i6 1 :: .int .u8 x2.kind :: .bool (x2.kind == 1) :: .bool (x2.kind == 1) :: an 33 []))), ⟨lv + 1, L, E⟩, [], E⟩ [] (by simp -implicitDefEqProofs [GOver.cs, g0]) claims_nil ?_
              refine satO_nil (by simp) ?_
              repeat refine sat_seq ?_
              refine sat_meet (fun σ => ∃ (k : Nat), k ≤ n ∧ ∃ (x12 : Bool) (L : List (Option AObj)), AccG (lv + 1) L [] [] ∧ go_override_formed_J2 k a0 x1 x12 = some r ∧ σ = ⟨an 5 (.bool x12 :: an 4 (.sl 3 (a0.map GOver.el) false :: .int .i64 (a0.length : Int) :: .int .i64 x1 :: an 49 [])), ⟨lv + 1, L, E⟩, [], E⟩) ?_ ?_
              · refine sat_cond rfl (fun hb => ?_) (fun hb => ?_)
                · have h := ite_t hb h
                  repeat refine sat_seq ?_
                  refine sat_meet (fun σ => ∃ (k : Nat), k ≤ n ∧ ∃ (x13 : Bool) (L : List (Option AObj)), AccG (lv + 1) L [] [] ∧ go_override_formed_J3 k a0 x1 x13 = some r ∧ σ = ⟨an 5 (.bool x13 :: an 4 (.sl 3 (a0.map GOver.el) false :: .int .i64 (a0.length : Int) :: .int .i64 x1 :: an 49 [])), ⟨lv + 1, L, E⟩, [], E⟩) ?_ ?_
                  · refine satO_reg ?_
                    rcases Bool.eq_false_or_eq_true x7 with hg14 | hg15
                    · have h := ite_t hg14 h
                      have hg14n := hg14
                      try simp at hg14n
                      have g0 := hA.get (k := 0) rfl
                      refine satO_step 7 [] ⟨an 4 (.ptr (lv + 1) i6 0 :: .bool (x2.name == ([])) :: an 4 (.sl 3 (a0.map GOver.el) false :: .int .i64 (a0.length : Int) :: .int .i64 x1 :: an 12 (.ptr (lv + 1) i6 1 :: .int .u8 x2.kind :: .bool (x2.kind == 1) :: .bool (x2.kind == 1) :: .bool x7 :: .bool x7 :: .ptr (lv + 1) i6 2 :: .str x2.name :: .bool (x2.name == ([])) :: .bool (x2.name == ([])) :: an 27 []))), ⟨lv + 1, L, E⟩, [], E⟩ [] (by first | (simp -implicitDefEqProofs [GOver.cs, g0, hg14]; done) | simp -implicitDefEqProofs [GOver.cs, g0, hg14, hg14n]) claims_nil ?_
                      refine satO_nil (by simp) ?_
                      have hA : AccG (lv + 1) L [] [] := hA.sel [] (by simp) rfl (.cons _ .slnil)
                      refine ⟨⟨an 5 (.bool (x2.name == ([])) :: an 4 (.sl 3 (a0.map GOver.el) false :: .int .i64 (a0.length : Int) :: .int .i64 x1 :: an 49 [])), ⟨lv + 1, L, E⟩, [], E⟩, weak_tmps ?_, n, by omega, (x2.name == ([])), L, hA, h, rfl⟩
                      (try simp only [an, List.map_cons, List.map_nil]); repeat (first | exact VLeL.nil | refine VLeL.cons (by first | exact VLe.refl _ | exact VLe.any _ | exact VLe.nil _ _ | exact VLe.full _ _ | (refine VLe.agg' ?_; repeat (first | exact VLeL.nil | refine VLeL.cons (by first | exact VLe.refl _ | exact VLe.any _ | exact VLe.nil _ _) ?_))) ?_)
                    · have h := ite_f hg15 h
                      have hg15n := hg15
                      try simp at hg15n
                      have g0 := hA.get (k := 0) rfl
                      refine satO_step 7 [] ⟨an 4 (.ptr (lv + 1) i6 0 :: .bool false :: an 4 (.sl 3 (a0.map GOver.el) false :: .int .i64 (a0.length : Int) :: .int .i64 x1 :: an 12 (.ptr (lv + 1) i6 1 :: .int .u8 x2.kind :: .bool (x2.kind == 1) :: .bool (x2.kind == 1) :: .bool x7 :: .bool x7 :: .tup [] :: .tup [] :: .tup [] :: .bool false :: an 27 []))), ⟨lv + 1, L, E⟩, [], E⟩ [] (by first | (simp -implicitDefEqProofs [GOver.cs, g0, hg15]; done) | simp -implicitDefEqProofs [GOver.cs, g0, hg15, hg15n]) claims_nil ?_
                      refine satO_nil (by simp) ?_
                      have hA : AccG (lv + 1) L [] [] := hA.sel [] (by simp) rfl (.cons _ .slnil)
                      refine ⟨⟨an 5 (.bool false :: an 4 (.sl 3 (a0.map GOver.el) false :: .int .i64 (a0.length : Int) :: .int .i64 x1 :: an 49 [])), ⟨lv + 1, L, E⟩, [], E⟩, weak_tmps ?_, n, by omega, false, L, hA, h, rfl⟩
                      (try simp only [an, List.map_cons, List.map_nil]); repeat (first | exact VLeL.nil | refine VLeL.cons (by first | exact VLe.refl _ | exact VLe.any _ | exact VLe.nil _ _ | exact VLe.full _ _ | (refine VLe.agg' ?_; repeat (first | exact VLeL.nil | refine VLeL.cons (by first | exact VLe.refl _ | exact VLe.any _ | exact VLe.nil _ _) ?_))) ?_)
                  · rintro σ0 σ hw ⟨k, hk, x13, L, hA, h, rfl⟩
                    rcases k with _ | n
                    · simp [go_override_formed_J3] at h
                    · rw [go_override_formed_J3] at h
                      refine ⟨⟨an 5 (.bool x13 :: an 4 (.sl 3 (a0.map GOver.el) false :: .int .i64 (a0.length : Int) :: .int .i64 x1 :: an 49 [])), ⟨lv + 1, L, E⟩, [], E⟩, hw.trans (weak_tmps ?_), n, by omega, x13, L, hA, h, rfl⟩
                      (try simp only [an, List.map_cons, List.map_nil]); repeat (first | exact VLeL.nil | refine VLeL.cons (by first | exact VLe.refl _ | exact VLe.any _ | exact VLe.nil _ _ | exact VLe.full _ _ | (refine VLe.agg' ?_; repeat (first | exact VLeL.nil | refine VLeL.cons (by first | exact VLe.refl _ | exact VLe.any _ | exact VLe.nil _ _) ?_))) ?_)
                · have h := ite_f hb h
                  repeat refine sat_seq ?_
                  refine satO_reg ?_
                  have g0 := hA.get (k := 0) rfl
                  refine satO_step 2 [] ⟨an 4 (.ptr (lv + 1) i6 0 :: .bool x7 :: an 4 (.sl 3 (a0.map GOver.el) false :: .int .i64 (a0.length : Int) :: .int .i64 x1 :: an 12 (.ptr (lv + 1) i6 1 :: .int .u8 x2.kind :: .bool (x2.kind == 1) :: .bool (x2.kind == 1) :: an 6 (.bool (x2.kind == 2) :: .bool (x2.kind == 2) :: an 25 [])))), ⟨lv + 1, L, E⟩, [], E⟩ [] (by simp -implicitDefEqProofs [GOver.cs, g0]) claims_nil ?_
                  refine satO_nil (by simp) ?_
                  repeat refine sat_seq ?_
                  refine sat_meet (fun σ => ∃ (k : Nat), k ≤ n ∧ ∃ (x16 : Bool) (L : List (Option AObj)), AccG (lv + 1) L [] [] ∧ go_override_formed_J4 k a0 x1 x16 = some r ∧ σ = ⟨an 5 (.bool x16 :: an 4 (.sl 3 (a0.map GOver.el) false :: .int .i64 (a0.length : Int) :: .int .i64 x1 :: an 49 [])), ⟨lv + 1, L, E⟩, [], E⟩) ?_ ?_
                  · refine sat_cond rfl (fun hb => ?_) (fun hb => ?_)
                    · have h := ite_t hb h
                      repeat refine sat_seq ?_
                      refine sat_meet (fun σ => ∃ (k : Nat), k ≤ n ∧ ∃ (x17 : Bool) (L : List (Option AObj)), AccG (lv + 1) L [] [] ∧ go_override_formed_J5 k a0 x1 x17 = some r ∧ σ = ⟨an 5 (.bool x17 :: an 4 (.sl 3 (a0.map GOver.el) false :: .int .i64 (a0.length : Int) :: .int .i64 x1 :: an 49 [])), ⟨lv + 1, L, E⟩, [], E⟩) ?_ ?_
                      · refine satO_reg ?_
                        rcases Bool.eq_false_or_eq_true x7 with hg18 | hg21
                        · have h := ite_t hg18 h
                          have hg18n := hg18
                          try simp at hg18n
                          obtain ⟨y19, q20, h⟩ := bnd_hi h
                          have g0 := hA.get (k := 0) rfl
                          refine satO_step 7 [(.bool y19, none)] ⟨an 4 (.ptr (lv + 1) i6 0 :: .bool y19 :: an 4 (.sl 3 (a0.map GOver.el) false :: .int .i64 (a0.length : Int) :: .int .i64 x1 :: an 12 (.ptr (lv + 1) i6 1 :: .int .u8 x2.kind :: .bool (x2.kind == 1) :: .bool (x2.kind == 1) :: an 6 (.bool (x2.kind == 2) :: .bool (x2.kind == 2) :: .bool x7 :: .bool x7 :: .ptr (lv + 1) i6 2 :: .str x2.name :: .bool y19 :: .bool y19 :: an 19 [])))), ⟨lv + 1, L, E⟩, [], E⟩ [⟨9, [.str x2.name], ⟨lv + 1, L, E⟩, .bool y19, ⟨lv + 1, L, E⟩⟩] (by first | (simp -implicitDefEqProofs [GOver.cs, g0, hg18]; done) | simp -implicitDefEqProofs [GOver.cs, g0, hg18, hg18n]) (claims_cons (go_label_Name_ok _ _ _ q20 _) claims_nil) ?_
                          refine satO_nil (by simp) ?_
                          have hA : AccG (lv + 1) L [] [] := hA.sel [] (by simp) rfl (.cons _ .slnil)
                          refine ⟨⟨an 5 (.bool y19 :: an 4 (.sl 3 (a0.map GOver.el) false :: .int .i64 (a0.length : Int) :: .int .i64 x1 :: an 49 [])), ⟨lv + 1, L, E⟩, [], E⟩, weak_tmps ?_, n, by omega, y19, L, hA, h, rfl⟩
                          (try simp only [an, List.map_cons, List.map_nil]); repeat (first | exact VLeL.nil | refine VLeL.cons (by first | exact VLe.refl _ | exact VLe.any _ | exact VLe.nil _ _ | exact VLe.full _ _ | (refine VLe.agg' ?_; repeat (first | exact VLeL.nil | refine VLeL.cons (by first | exact VLe.refl _ | exact VLe.any _ | exact VLe.nil _ _) ?_))) ?_)
                        · have h := ite_f hg21 h
                          have hg21n := hg21
                          try simp at hg21n
                          have g0 := hA.get (k := 0) rfl
                          refine satO_step 7 [] ⟨an 4 (.ptr (lv + 1) i6 0 :: .bool false :: an 4 (.sl 3 (a0.map GOver.el) false :: .int .i64 (a0.length : Int) :: .int .i64 x1 :: an 12 (.ptr (lv + 1) i6 1 :: .int .u8 x2.kind :: .bool (x2.kind == 1) :: .bool (x2.kind == 1) :: an 6 (.bool (x2.kind == 2) :: .bool (x2.kind == 2) :: .bool x7 :: .bool x7 :: .tup [] :: .tup [] :: .tup [] :: .bool false :: an 19 [])))), ⟨lv + 1, L, E⟩, [], E⟩ [] (by first | (simp -implicitDefEqProofs [GOver.cs, g0, hg21]; done) | simp -implicitDefEqProofs [GOver.cs, g0, hg21, hg21n]) claims_nil ?_
                          refine satO_nil (by simp) ?_
                          have hA : AccG (lv + 1) L [] [] := hA.sel [] (by simp) rfl (.cons _ .slnil)
                          refine ⟨⟨an 5 (.bool false :: an 4 (.sl 3 (a0.map GOver.el) false :: .int .i64 (a0.length : Int) :: .int .i64 x1 :: an 49 [])), ⟨lv + 1, L, E⟩, [], E⟩, weak_tmps ?_, n, by omega, false, L, hA, h, rfl⟩
                          (try simp only [an, List.map_cons, List.map_nil]); repeat (first | exact VLeL.nil | refine VLeL.cons (by first | exact VLe.refl _ | exact VLe.any _ | exact VLe.nil _ _ | exact VLe.full _ _ | (refine VLe.agg' ?_; repeat (first | exact VLeL.nil | refine VLeL.cons (by first | exact VLe.refl _ | exact VLe.any _ | exact VLe.nil _ _) ?_))) ?_)
                      · rintro σ0 σ hw ⟨k, hk, x17, L, hA, h, rfl⟩
                        rcases k with _ | n
                        · simp [go_override_formed_J5] at h
                        · rw [go_override_formed_J5] at h
                          refine ⟨⟨an 5 (.bool x17 :: an 4 (.sl 3 (a0.map GOver.el) false :: .int .i64 (a0.length : Int) :: .int .i64 x1 :: an 49 [])), ⟨lv + 1, L, E⟩, [], E⟩, hw.trans (weak_tmps ?_), n, by omega, x17, L, hA, h, rfl⟩
                          (try simp only [an, List.map_cons, List.map_nil]); repeat (first | exact VLeL.nil | refine VLeL.cons (by first | exact VLe.refl _ | exact VLe.any _ | exact VLe.nil _ _ | exact VLe.full _ _ | (refine VLe.agg' ?_; repeat (first | exact VLeL.nil | refine VLeL.cons (by first | exact VLe.refl _ | exact VLe.any _ | exact VLe.nil _ _) ?_))) ?_)
                    · have h := ite_f hb h
                      repeat refine sat_seq ?_
                      refine satO_reg ?_
                      have g0 := hA.get (k := 0) rfl
                      refine satO_step 2 [] ⟨an 4 (.ptr (lv + 1) i6 0 :: .bool x7 :: an 4 (.sl 3 (a0.map GOver.el) false :: .int .i64 (a0.length : Int) :: .int .i64 x1 :: an 12 (.ptr (lv + 1) i6 1 :: .int .u8 x2.kind :: .bool (x2.kind == 1) :: .bool (x2.kind == 1) :: an 6 (.bool (x2.kind == 2) :: .bool (x2.kind == 2) :: an 6 (.bool (x2.kind == 3) :: .bool (x2.kind == 3) :: an 17 []))))), ⟨lv + 1, L, E⟩, [], E⟩ [] (by simp -implicitDefEqProofs [GOver.cs, g0]) claims_nil ?_
                      refine satO_nil (by simp) ?_
                      repeat refine sat_seq ?_
                      refine sat_meet (fun σ => ∃ (k : Nat), k ≤ n ∧ ∃ (x22 : Bool) (L : List (Option AObj)), AccG (lv + 1) L [] [] ∧ go_override_formed_J6 k a0 x1 x22 = some r ∧ σ = ⟨an 5 (.bool x22 :: an 4 (.sl 3 (a0.map GOver.el) false :: .int .i64 (a0.length : Int) :: .int .i64 x1 :: an 49 [])), ⟨lv + 1, L, E⟩, [], E⟩) ?_ ?_
                      · refine sat_cond rfl (fun hb => ?_) (fun hb => ?_)
                        · have h := ite_t hb h
                          repeat refine sat_seq ?_
                          refine satO_reg ?_
                          have g0 := hA.get (k := 0) rfl
                          refine satO_step 1 [] ⟨an 4 (.ptr (lv + 1) i6 0 :: .bool x7 :: .fn 30 [] [] :: an 3 (.sl 3 (a0.map GOver.el) false :: .int .i64 (a0.length : Int) :: .int .i64 x1 :: an 12 (.ptr (lv + 1) i6 1 :: .int .u8 x2.kind :: .bool (x2.kind == 1) :: .bool (x2.kind == 1) :: an 6 (.bool (x2.kind == 2) :: .bool (x2.kind == 2) :: an 6 (.bool (x2.kind == 3) :: .bool (x2.kind == 3) :: an 17 []))))), ⟨lv + 1, L, E⟩, [], E⟩ [] (by simp -implicitDefEqProofs [GOver.cs, g0]) claims_nil ?_
                          refine satO_nil (by simp) ?_
                          repeat refine sat_seq ?_
                          refine sat_meet (fun σ => ∃ (k : Nat), k ≤ n ∧ ∃ (x23 : Bool) (L : List (Option AObj)), AccG (lv + 1) L [] [] ∧ go_override_formed_J7 k a0 x1 x23 = some r ∧ σ = ⟨an 5 (.bool x23 :: an 4 (.sl 3 (a0.map GOver.el) false :: .int .i64 (a0.length : Int) :: .int .i64 x1 :: an 49 [])), ⟨lv + 1, L, E⟩, [], E⟩) ?_ ?_
                          · refine satO_reg ?_
                            rcases Bool.eq_false_or_eq_true x7 with hg24 | hg29
                            · have h := ite_t hg24 h
                              have hg24n := hg24
                              try simp at hg24n
                              rcases Bool.eq_false_or_eq_true (decide ((x2.name.length : Int) ≤ 60)) with hg25 | hg28
                              · have h := ite_t hg25 h
                                have hg25n := hg25
                                try simp at hg25n
                                obtain ⟨y26, q27, h⟩ := bnd_hi h
                                have g0 := hA.get (k := 0) rfl
                                refine satO_step 15 [(.int .i64 y26, none)] ⟨an 4 (.ptr (lv + 1) i6 0 :: .bool (decide (y26 < 0)) :: .fn 30 [] [] :: an 3 (.sl 3 (a0.map GOver.el) false :: .int .i64 (a0.length : Int) :: .int .i64 x1 :: an 12 (.ptr (lv + 1) i6 1 :: .int .u8 x2.kind :: .bool (x2.kind == 1) :: .bool (x2.kind == 1) :: an 6 (.bool (x2.kind == 2) :: .bool (x2.kind == 2) :: an 6 (.bool (x2.kind == 3) :: .bool (x2.kind == 3) :: .bool x7 :: .bool x7 :: .ptr (lv + 1) i6 2 :: .str x2.name :: .int .i64 (x2.name.length : Int) :: .bool (decide ((x2.name.length : Int) ≤ 60)) :: .bool (decide ((x2.name.length : Int) ≤ 60)) :: .bool (decide ((x2.name.length : Int) ≤ 60)) :: .ptr (lv + 1) i6 2 :: .str x2.name :: .fn 30 [] [] :: .int .i64 y26 :: .bool (decide (y26 < 0)) :: .bool (decide (y26 < 0)) :: an 3 []))))), ⟨lv + 1, L, E⟩, [], E⟩ [⟨31, [.str x2.name, .fn 30 [] []], ⟨lv + 1, L, E⟩, .int .i64 y26, ⟨lv + 1, L, E⟩⟩] (by first | (simp -implicitDefEqProofs [GOver.cs, g0, hg24, hg25]; done) | simp -implicitDefEqProofs [GOver.cs, g0, hg24, hg25, hg24n, hg25n]) (claims_cons (go_strings_IndexFunc__override_formed_1_ok _ _ _ q27 _) claims_nil) ?_
                                refine satO_nil (by simp) ?_
                                have hA : AccG (lv + 1) L [] [] := hA.sel [] (by simp) rfl (.cons _ .slnil)
                                refine ⟨⟨an 5 (.bool (decide (y26 < 0)) :: an 4 (.sl 3 (a0.map GOver.el) false :: .int .i64 (a0.length : Int) :: .int .i64 x1 :: an 49 [])), ⟨lv + 1, L, E⟩, [], E⟩, weak_tmps ?_, n, by omega, (decide (y26 < 0)), L, hA, h, rfl⟩
                                (try simp only [an, List.map_cons, List.map_nil]); repeat (first | exact VLeL.nil | refine VLeL.cons (by first | exact VLe.refl _ | exact VLe.any _ | exact VLe.nil _ _ | exact VLe.full _ _ | (refine VLe.agg' ?_; repeat (first | exact VLeL.nil | refine VLeL.cons (by first | exact VLe.refl _ | exact VLe.any _ | exact VLe.nil _ _) ?_))) ?_)
                              · have h := ite_f hg28 h
                                have hg28n := hg28
                                try simp at hg28n
                                have g0 := hA.get (k := 0) rfl
                                refine satO_step 15 [] ⟨an 4 (.ptr (lv + 1) i6 0 :: .bool false :: .fn 30 [] [] :: an 3 (.sl 3 (a0.map GOver.el) false :: .int .i64 (a0.length : Int) :: .int .i64 x1 :: an 12 (.ptr (lv + 1) i6 1 :: .int .u8 x2.kind :: .bool (x2.kind == 1) :: .bool (x2.kind == 1) :: an 6 (.bool (x2.kind == 2) :: .bool (x2.kind == 2) :: an 6 (.bool (x2.kind == 3) :: .bool (x2.kind == 3) :: .bool x7 :: .bool x7 :: .ptr (lv + 1) i6 2 :: .str x2.name :: .int .i64 (x2.name.length : Int) :: .bool (decide ((x2.name.length : Int) ≤ 60)) :: .bool (decide ((x2.name.length : Int) ≤ 60)) :: .bool (decide ((x2.name.length : Int) ≤ 60)) :: .tup [] :: .tup [] :: .tup [] :: .tup [] :: .tup [] :: .bool false :: an 3 []))))), ⟨lv + 1, L, E⟩, [], E⟩ [] (by first | (simp -implicitDefEqProofs [GOver.cs, g0, hg24, hg28]; done) | simp -implicitDefEqProofs [GOver.cs, g0, hg24, hg28, hg24n, hg28n]) claims_nil ?_
                                refine satO_nil (by simp) ?_
                                have hA : AccG (lv + 1) L [] [] := hA.sel [] (by simp) rfl (.cons _ .slnil)
                                refine ⟨⟨an 5 (.bool false :: an 4 (.sl 3 (a0.map GOver.el) false :: .int .i64 (a0.length : Int) :: .int .i64 x1 :: an 49 [])), ⟨lv + 1, L, E⟩, [], E⟩, weak_tmps ?_, n, by omega, false, L, hA, h, rfl⟩
                                (try simp only [an, List.map_cons, List.map_nil]); repeat (first | exact VLeL.nil | refine VLeL.cons (by first | exact VLe.refl _ | exact VLe.any _ | exact VLe.nil _ _ | exact VLe.full _ _ | (refine VLe.agg' ?_; repeat (first | exact VLeL.nil | refine VLeL.cons (by first | exact VLe.refl _ | exact VLe.any _ | exact VLe.nil _ _) ?_))) ?_)
                            · have h := ite_f hg29 h
                              have hg29n := hg29
                              try simp at hg29n
                              have g0 := hA.get (k := 0) rfl
                              refine satO_step 15 [] ⟨an 4 (.ptr (lv + 1) i6 0 :: .bool false :: .fn 30 [] [] :: an 3 (.sl 3 (a0.map GOver.el) false :: .int .i64 (a0.length : Int) :: .int .i64 x1 :: an 12 (.ptr (lv + 1) i6 1 :: .int .u8 x2.kind :: .bool (x2.kind == 1) :: .bool (x2.kind == 1) :: an 6 (.bool (x2.kind == 2) :: .bool (x2.kind == 2) :: an 6 (.bool (x2.kind == 3) :: .bool (x2.kind == 3) :: .bool x7 :: .bool x7 :: .tup [] :: .tup [] :: .tup [] :: .tup [] :: .bool false :: .bool false :: .tup [] :: .tup [] :: .tup [] :: .tup [] :: .tup [] :: .bool false :: an 3 []))))), ⟨lv + 1, L, E⟩, [], E⟩ [] (by first | (simp -implicitDefEqProofs [GOver.cs, g0, hg29]; done) | simp -implicitDefEqProofs [GOver.cs, g0, hg29, hg29n]) claims_nil ?_
                              refine satO_nil (by simp) ?_
                              have hA : AccG (lv + 1) L [] [] := hA.sel [] (by simp) rfl (.cons _ .slnil)
                              refine ⟨⟨an 5 (.bool false :: an 4 (.sl 3 (a0.map GOver.el) false :: .int .i64 (a0.length : Int) :: .int .i64 x1 :: an 49 [])), ⟨lv + 1, L, E⟩, [], E⟩, weak_tmps ?_, n, by omega, false, L, hA, h, rfl⟩
                              (try simp only [an, List.map_cons, List.map_nil]); repeat (first | exact VLeL.nil | refine VLeL.cons (by first | exact VLe.refl _ | exact VLe.any _ | exact VLe.nil _ _ | exact VLe.full _ _ | (refine VLe.agg' ?_; repeat (first | exact VLeL.nil | refine VLeL.cons (by first | exact VLe.refl _ | exact VLe.any _ | exact VLe.nil _ _) ?_))) ?_)
                          · rintro σ0 σ hw ⟨k, hk, x23, L, hA, h, rfl⟩
                            rcases k with _ | n
                            · simp [go_override_formed_J7] at h
                            · rw [go_override_formed_J7] at h
                              refine ⟨⟨an 5 (.bool x23 :: an 4 (.sl 3 (a0.map GOver.el) false :: .int .i64 (a0.length : Int) :: .int .i64 x1 :: an 49 [])), ⟨lv + 1, L, E⟩, [], E⟩, hw.trans (weak_tmps ?_), n, by omega, x23, L, hA, h, rfl⟩
                              (try simp only [an, List.map_cons, List.map_nil]); repeat (first | exact VLeL.nil | refine VLeL.cons (by first | exact VLe.refl _ | exact VLe.any _ | exact VLe.nil _ _ | exact VLe.full _ _ | (refine VLe.agg' ?_; repeat (first | exact VLeL.nil | refine VLeL.cons (by first | exact VLe.refl _ | exact VLe.any _ | exact VLe.nil _ _) ?_))) ?_)
                        · have h := ite_f hb h
                          repeat refine sat_seq ?_
                          refine satO_reg ?_
                          have g0 := hA.get (k := 0) rfl
                          refine satO_step 1 [] ⟨an 4 (.ptr (lv + 1) i6 0 :: .bool false :: an 4 (.sl 3 (a0.map GOver.el) false :: .int .i64 (a0.length : Int) :: .int .i64 x1 :: an 12 (.ptr (lv + 1) i6 1 :: .int .u8 x2.kind :: .bool (x2.kind == 1) :: .bool (x2.kind == 1) :: an 6 (.bool (x2.kind == 2) :: .bool (x2.kind == 2) :: an 6 (.bool (x2.kind == 3) :: .bool (x2.kind == 3) :: an 17 []))))), ⟨lv + 1, L, E⟩, [], E⟩ [] (by simp -implicitDefEqProofs [GOver.cs, g0]) claims_nil ?_
                          refine satO_nil (by simp) ?_
                          have hA : AccG (lv + 1) L [] [] := hA.sel [] (by simp) rfl (.cons _ .slnil)
                          refine ⟨⟨an 5 (.bool false :: an 4 (.sl 3 (a0.map GOver.el) false :: .int .i64 (a0.length : Int) :: .int .i64 x1 :: an 49 [])), ⟨lv + 1, L, E⟩, [], E⟩, weak_tmps ?_, n, by omega, false, L, hA, h, rfl⟩
                          (try simp only [an, List.map_cons, List.map_nil]); repeat (first | exact VLeL.nil | refine VLeL.cons (by first | exact VLe.refl _ | exact VLe.any _ | exact VLe.nil _ _ | exact VLe.full _ _ | (refine VLe.agg' ?_; repeat (first | exact VLeL.nil | refine VLeL.cons (by first | exact VLe.refl _ | exact VLe.any _ | exact VLe.nil _ _) ?_))) ?_)
                      · rintro σ0 σ hw ⟨k, hk, x22, L, hA, h, rfl⟩
                        rcases k with _ | n
                        · simp [go_override_formed_J6] at h
                        · rw [go_override_formed_J6] at h
                          refine ⟨⟨an 5 (.bool x22 :: an 4 (.sl 3 (a0.map GOver.el) false :: .int .i64 (a0.length : Int) :: .int .i64 x1 :: an 49 [])), ⟨lv + 1, L, E⟩, [], E⟩, hw.trans (weak_tmps ?_), n, by omega, x22, L, hA, h, rfl⟩
                          (try simp only [an, List.map_cons, List.map_nil]); repeat (first | exact VLeL.nil | refine VLeL.cons (by first | exact VLe.refl _ | exact VLe.any _ | exact VLe.nil _ _ | exact VLe.full _ _ | (refine VLe.agg' ?_; repeat (first | exact VLeL.nil | refine VLeL.cons (by first | exact VLe.refl _ | exact VLe.any _ | exact VLe.nil _ _) ?_))) ?_)
                  · rintro σ0 σ hw ⟨k, hk, x16, L, hA, h, rfl⟩
                    rcases k with _ | n
                    · simp [go_override_formed_J4] at h
                    · rw [go_override_formed_J4] at h
                      refine ⟨⟨an 5 (.bool x16 :: an 4 (.sl 3 (a0.map GOver.el) false :: .int .i64 (a0.length : Int) :: .int .i64 x1 :: an 49 [])), ⟨lv + 1, L, E⟩, [], E⟩, hw.trans (weak_tmps ?_), n, by omega, x16, L, hA, h, rfl⟩
                      (try simp only [an, List.map_cons, List.map_nil]); repeat (first | exact VLeL.nil | refine VLeL.cons (by first | exact VLe.refl _ | exact VLe.any _ | exact VLe.nil _ _ | exact VLe.full _ _ | (refine VLe.agg' ?_; repeat (first | exact VLeL.nil | refine VLeL.cons (by first | exact VLe.refl _ | exact VLe.any _ | exact VLe.nil _ _) ?_))) ?_)
              · rintro σ0 σ hw ⟨k, hk, x12, L, hA, h, rfl⟩
                rcases k with _ | n
                · simp [go_override_formed_J2] at h
                · rw [go_override_formed_J2] at h
                  refine sat_weak hw ?_
                  repeat refine sat_seq ?_
                  refine satO_reg ?_
                  refine satO_step 2 [] ⟨an 5 (.bool x12 :: an 4 (.sl 3 (a0.map GOver.el) false :: .int .i64 (a0.length : Int) :: .int .i64 x1 :: an 46 (.bool x12 :: .bool (!x12) :: an 1 []))), ⟨lv + 1, L, E⟩, [], E⟩ [] (by simp -implicitDefEqProofs [GOver.cs]) claims_nil ?_
                  refine satO_nil (by simp) ?_
                  repeat refine sat_seq ?_
                  refine sat_cond rfl (fun hb => ?_) (fun hb => ?_)
                  · have h := ite_t hb h
                    repeat refine sat_seq ?_
                    refine satO_reg ?_
                    refine satO_step 1 [] ⟨an 2 (.int .i64 8 :: an 2 (.bool x12 :: an 4 (.sl 3 (a0.map GOver.el) false :: .int .i64 (a0.length : Int) :: .int .i64 x1 :: an 46 (.bool x12 :: .bool (!x12) :: an 1 [])))), ⟨lv + 1, L, E⟩, [], E⟩ [] (by simp -implicitDefEqProofs [GOver.cs]) claims_nil ?_
                    refine satO_nil (by simp) ?_
                    repeat refine sat_seq ?_
                    refine sat_ret ?_
                    refine ends (v := .int .i64 8) (by simp [resultsV, resL, resV, tupOf, Tryd.f17, pLoad, GOver.cs]) rfl rfl ?_
                    injection h with h
                    subst h
                    exact (.keep _ (by simp [V.kin, V.kinL, GOver.cs]))
                  · have h := ite_f hb h
                    repeat refine sat_seq ?_
                    refine sat_skip ?_
                    repeat refine sat_seq ?_
                    refine satO_reg ?_
                    refine satO_step 2 [] ⟨an 5 (.bool x12 :: an 4 (.sl 3 (a0.map GOver.el) false :: .int .i64 (a0.length : Int) :: .int .i64 (IntKind.i64.wrap (x1 + 1)) :: an 46 (.bool x12 :: .bool (!x12) :: .int .i64 (IntKind.i64.wrap (x1 + 1)) :: []))), ⟨lv + 1, L, E⟩, [], E⟩ [] (by simp -implicitDefEqProofs [GOver.cs]) claims_nil ?_
                    refine satO_nil (by simp) ?_
                    refine ⟨n, ⟨an 10 (.sl 3 (a0.map GOver.el) false :: .int .i64 (a0.length : Int) :: .int .i64 (IntKind.i64.wrap (x1 + 1)) :: an 49 []), ⟨lv + 1, L, E⟩, [], E⟩, weak_tmps ?_, ⟨(IntKind.i64.wrap (x1 + 1)), L, by omega, hA, h, rfl⟩, by omega⟩
                    (try simp only [an, List.map_cons, List.map_nil]); repeat (first | exact VLeL.nil | refine VLeL.cons (by first | exact VLe.refl _ | exact VLe.any _ | exact VLe.nil _ _ | exact VLe.full _ _ | (refine VLe.agg' ?_; repeat (first | exact VLeL.nil | refine VLeL.cons (by first | exact VLe.refl _ | exact VLe.any _ | exact VLe.nil _ _) ?_))) ?_)
        · have h := ite_f hb h
          repeat refine sat_seq ?_
          refine sat_exit ?_
          repeat refine sat_seq ?_
          refine satO_reg ?_
          refine satO_step 1 [] ⟨an 2 (.int .i64 0 :: an 7 (.sl 3 (a0.map GOver.el) false :: .int .i64 (a0.length : Int) :: .int .i64 x1 :: .bool (decide (x1 < (a0.length : Int))) :: an 48 [])), ⟨lv + 1, L, E⟩, [], E⟩ [] (by simp -implicitDefEqProofs [GOver.cs]) claims_nil ?_
          refine satO_nil (by simp) ?_
          repeat refine sat_seq ?_
          refine sat_ret ?_
          refine ends (v := .int .i64 0) (by simp [resultsV, resL, resV, tupOf, Tryd.f17, pLoad, GOver.cs]) rfl rfl ?_
          injection h with h
          subst h
          exact (.keep _ (by simp [V.kin, V.kinL, GOver.cs]))
end Go.Proofs

namespace Go.Proofs
open Go Go.Ab
set_option maxRecDepth 10000
set_option maxHeartbeats 1000000
set_option linter.unusedSimpArgs false
set_option linter.unusedVariables false
theorem go_override_Attach_ok (n : Nat) (a0 : List GNode) (a1 : List GOver) (r : (List Bool) × Int) (h : go_override_Attach n a0 a1 = some r) : PCall Tryd.prog 8 [.sl 13 (a0.map GNode.el) false, .sl 3 (a1.map GOver.el) false] (.tup [.sl 1 (r.1.map V.bool) false, .int .i64 r.2]) := by
  rcases n with _ | n
  · simp [go_override_Attach] at h
  rw [go_override_Attach] at h
  refine pcall_of Tryd.func8 rfl Tryd.ntmps8 (fun _ _ => Tryd.call8 _ _) fun lv E => ?_
  simp only [List.length_cons, List.length_nil, Nat.reduceAdd, Nat.reduceSub, List.replicate, List.cons_append, List.nil_append]
  have hA := AccG.nil (lv + 1)
  generalize ([] : List (Option AObj)) = L at hA ⊢
  repeat refine sat_seq ?_
  refine satO_reg ?_
  refine satO_step 2 [] ⟨.sl 13 (a0.map GNode.el) false :: .sl 3 (a1.map GOver.el) false :: an 2 (.nils :: .int .i64 0 :: an 38 []), ⟨lv + 1, L, E⟩, [], E⟩ [] (by simp -implicitDefEqProofs []) claims_nil ?_
  refine satO_nil (by simp) ?_
  repeat refine sat_seq ?_
  refine satO_reg ?_
  obtain ⟨y1, q2, h⟩ := bnd_hi h
  refine satO_step 3 [(.int .i64 y1, none)] ⟨.sl 13 (a0.map GNode.el) false :: .sl 3 (a1.map GOver.el) false :: an 2 (.nils :: .int .i64 0 :: .int .i64 y1 :: an 6 (.sl 3 (a1.map GOver.el) false :: .int .i64 y1 :: an 29 [])), ⟨lv + 1, L, E⟩, [], E⟩ [⟨17, [.sl 3 (a1.map GOver.el) false], ⟨lv + 1, L, E⟩, .int .i64 y1, ⟨lv + 1, L, E⟩⟩] (by simp -implicitDefEqProofs []) (claims_cons (go_override_formed_ok _ _ _ q2 _) claims_nil) ?_
  refine satO_nil (by simp) ?_
  repeat refine sat_seq ?_
  refine satO_reg ?_
  refine satO_step 2 [] ⟨.sl 13 (a0.map GNode.el) false :: .sl 3 (a1.map GOver.el) false :: an 2 (.nils :: .int .i64 0 :: .int .i64 y1 :: an 6 (.sl 3 (a1.map GOver.el) false :: .int .i64 y1 :: .int .i64 y1 :: .bool (!(y1 == 0)) :: an 27 [])), ⟨lv + 1, L, E⟩, [], E⟩ [] (by simp -implicitDefEqProofs []) claims_nil ?_
  refine satO_nil (by simp) ?_
  repeat refine sat_seq ?_
  refine sat_cond rfl (fun hb => ?_) (fun hb => ?_)
  · have h := ite_t hb h
    repeat refine sat_seq ?_
    refine satO_reg ?_
    refine satO_step 3 [] ⟨.sl 13 (a0.map GNode.el) false :: .sl 3 (a1.map GOver.el) false :: an 2 (.nils :: .int .i64 y1 :: .int .i64 y1 :: an 6 (.sl 3 (a1.map GOver.el) false :: .int .i64 y1 :: .int .i64 y1 :: .bool (!(y1 == 0)) :: .int .i64 y1 :: an 26 [])), ⟨lv + 1, L, E⟩, [], E⟩ [] (by simp -implicitDefEqProofs []) claims_nil ?_
    refine satO_nil (by simp) ?_
    repeat refine sat_seq ?_
    refine sat_ret ?_
    refine ends (v := .tup [.nils, .int .i64 y1]) (by simp [resultsV, resL, resV, tupOf, Tryd.f8, pLoad]) rfl rfl ?_
    injection h with h
    subst h
    exact VS.tup' (.cons (.nil _ _) (.cons (.keep _ (by simp [V.kin, V.kinL])) .nil))
  · have h := ite_f hb h
    repeat refine sat_seq ?_
    refine sat_skip ?_
    repeat refine sat_seq ?_
    refine satO_reg ?_
    refine satO_step 1 [] ⟨.sl 13 (a0.map GNode.el) false :: .sl 3 (a1.map GOver.el) false :: an 2 (.nils :: .int .i64 0 :: .int .i64 y1 :: an 6 (.sl 3 (a1.map GOver.el) false :: .int .i64 y1 :: .int .i64 y1 :: .bool (!(y1 == 0)) :: an 1 (.map (lv + 1) L.length :: an 25 []))), ⟨lv + 1, (L ++ [some (.map [])]), E⟩, [], E⟩ [] (by simp -implicitDefEqProofs []) claims_nil ?_
    have hA : AccG (lv + 1) (L ++ [some (.map [])]) [] [(L.length, .map (([] : List (List UInt8 × Bool)).map fun p => (.str p.1, V.bool p.2)))] := hA.obj _
    generalize L.length = i4 at hA ⊢
    generalize (L ++ [some (.map [])]) = L at hA ⊢
    have g0 := hA.get (k := 0) rfl
    refine satO_step 1 [] ⟨.sl 13 (a0.map GNode.el) false :: .sl 3 (a1.map GOver.el) false :: an 2 (.nils :: .int .i64 0 :: .int .i64 y1 :: .map (lv + 1) i4 :: an 5 (.sl 3 (a1.map GOver.el) false :: .int .i64 y1 :: .int .i64 y1 :: .bool (!(y1 == 0)) :: an 1 (.map (lv + 1) i4 :: an 25 []))), ⟨lv + 1, L, E⟩, [], E⟩ [] (by simp -implicitDefEqProofs [g0]) claims_nil ?_
    refine satO_nil (by simp) ?_
    repeat refine sat_seq ?_
    refine satO_reg ?_
    have g0 := hA.get (k := 0) rfl
    refine satO_step 3 [] ⟨.sl 13 (a0.map GNode.el) false :: .sl 3 (a1.map GOver.el) false :: an 2 (.nils :: .int .i64 0 :: .int .i64 y1 :: .map (lv + 1) i4 :: an 5 (.sl 3 (a1.map GOver.el) false :: .int .i64 y1 :: .int .i64 y1 :: .bool (!(y1 == 0)) :: an 1 (.map (lv + 1) i4 :: .sl 13 (a0.map GNode.el) false :: .int .i64 (a0.length : Int) :: .int .i64 0 :: an 22 []))), ⟨lv + 1, L, E⟩, [], E⟩ [] (by simp -implicitDefEqProofs [g0]) claims_nil ?_
    refine satO_nil (by simp) ?_
    repeat refine sat_seq ?_
    refine sat_block ?_
    repeat refine sat_seq ?_
    refine sat_loop (fun k σ => ∃ (x5 : List (List UInt8 × Bool)) (x6 : Int) (L : List (Option AObj)), k ≤ n ∧ AccG (lv + 1) L [] [(i4, .map (x5.map fun p => (.str p.1, V.bool p.2)))] ∧ go_override_Attach_L1 k a0 a1 x5 x6 = some r ∧ σ = ⟨an 1 (.sl 3 (a1.map GOver.el) false :: an 5 (.map (lv + 1) i4 :: an 11 (.sl 13 (a0.map GNode.el) false :: .int .i64 (a0.length : Int) :: .int .i64 x6 :: an 22 []))), ⟨lv + 1, L, E⟩, [], E⟩) n ⟨an 1 (.sl 3 (a1.map GOver.el) false :: an 5 (.map (lv + 1) i4 :: an 11 (.sl 13 (a0.map GNode.el) false :: .int .i64 (a0.length : Int) :: .int .i64 0 :: an 22 []))), ⟨lv + 1, L, E⟩, [], E⟩ (weak_tmps ?_) ⟨([] : List (List UInt8 × Bool)), 0, L, Nat.le_refl _, hA, h, rfl⟩ ?_
    · (try simp only [an, List.map_cons, List.map_nil]); repeat (first | exact VLeL.nil | refine VLeL.cons (by first | exact VLe.refl _ | exact VLe.any _ | exact VLe.nil _ _ | exact VLe.full _ _ | (refine VLe.agg' ?_; repeat (first | exact VLeL.nil | refine VLeL.cons (by first | exact VLe.refl _ | exact VLe.any _ | exact VLe.nil _ _) ?_))) ?_)
    · rintro k σ ⟨x5, x6, L, hk, hA, h, rfl⟩
      rcases k with _ | n
      · simp [go_override_Attach_L1] at h
      · rw [go_override_Attach_L1] at h
        repeat refine sat_seq ?_
        refine satO_reg ?_
        have g0 := hA.get (k := 0) rfl
        refine satO_step 1 [] ⟨an 1 (.sl 3 (a1.map GOver.el) false :: an 5 (.map (lv + 1) i4 :: an 11 (.sl 13 (a0.map GNode.el) false :: .int .i64 (a0.length : Int) :: .int .i64 x6 :: .bool (decide (x6 < (a0.length : Int))) :: an 21 []))), ⟨lv + 1, L, E⟩, [], E⟩ [] (by simp -implicitDefEqProofs [g0]) claims_nil ?_
        refine satO_nil (by simp) ?_
        repeat refine sat_seq ?_
        refine sat_cond rfl (fun hb => ?_) (fun hb => ?_)
        · have h := ite_t hb h
          repeat refine sat_seq ?_
          refine sat_skip ?_
          repeat refine sat_seq ?_
          refine sat_block ?_
          repeat refine sat_seq ?_
          refine satO_reg ?_
          obtain ⟨x7, q8, h⟩ := bnd_hi h
          obtain ⟨q8, q9⟩ := ix_some q8
          have g0 := hA.get (k := 0) rfl
          refine satO_step 2 [] ⟨an 1 (.sl 3 (a1.map GOver.el) false :: an 5 (.map (lv + 1) i4 :: an 11 (.sl 13 (a0.map GNode.el) false :: .int .i64 (a0.length : Int) :: .int .i64 x6 :: .bool (decide (x6 < (a0.length : Int))) :: .ref x7.cs 0 :: .agg x7.cs :: an 19 []))), ⟨lv + 1, L, E⟩, [], E⟩ [] (by simp -implicitDefEqProofs [GNode.cs, g0, q8, q9, GNode.el_cs]) claims_nil ?_
          refine satO_step 1 [] ⟨an 1 (.sl 3 (a1.map GOver.el) false :: an 5 (.map (lv + 1) i4 :: an 1 (.ptr (lv + 1) L.length 0 :: an 9 (.sl 13 (a0.map GNode.el) false :: .int .i64 (a0.length : Int) :: .int .i64 x6 :: .bool (decide (x6 < (a0.length : Int))) :: .ref x7.cs 0 :: .agg x7.cs :: an 19 [])))), ⟨lv + 1, (L ++ [some (.cells [.str ([]), .str ([]), .nils, .int .u8 0, .int .i64 0, .int .i64 0, .int .i64 0, .int .i64 0, .int .i64 0, .int .i64 0, .str ([]), .int .i64 0, .bool false])]), E⟩, [], E⟩ [] (by simp -implicitDefEqProofs [GNode.cs]) claims_nil ?_
          have hA : AccG (lv + 1) (L ++ [some (.cells [.str ([]), .str ([]), .nils, .int .u8 0, .int .i64 0, .int .i64 0, .int .i64 0, .int .i64 0, .int .i64 0, .int .i64 0, .str ([]), .int .i64 0, .bool false])]) [] [(L.length, .cells [.str ([]), .str ([]), .nils, .int .u8 0, .int .i64 0, .int .i64 0, .int .i64 0, .int .i64 0, .int .i64 0, .int .i64 0, .str ([]), .int .i64 0, .bool false]), (i4, .map (x5.map fun p => (.str p.1, V.bool p.2)))] := hA.obj _
          generalize L.length = i11 at hA ⊢
          generalize (L ++ [some (.cells [.str ([]), .str ([]), .nils, .int .u8 0, .int .i64 0, .int .i64 0, .int .i64 0, .int .i64 0, .int .i64 0, .int .i64 0, .str ([]), .int .i64 0, .bool false])]) = L at hA ⊢
          have g0 := hA.get (k := 0) rfl
          have g1 := hA.get (k := 1) rfl
          refine satO_step 1 [] ⟨an 1 (.sl 3 (a1.map GOver.el) false :: an 5 (.map (lv + 1) i4 :: an 1 (.ptr (lv + 1) i11 0 :: an 9 (.sl 13 (a0.map GNode.el) false :: .int .i64 (a0.length : Int) :: .int .i64 x6 :: .bool (decide (x6 < (a0.length : Int))) :: .ref x7.cs 0 :: .agg x7.cs :: an 19 [])))), ⟨lv + 1, (L.set i11 (some (.cells x7.cs))), E⟩, [], E⟩ [] (by simp -implicitDefEqProofs [GNode.cs, g0, g1]) claims_nil ?_
          have hA : AccG (lv + 1) (L.set i11 (some (.cells x7.cs))) [] [(i11, .cells x7.cs), (i4, .map (x5.map fun p => (.str p.1, V.bool p.2)))] := hA.upd (k := 0) rfl _
          generalize (L.set i11 (some (.cells x7.cs))) = L at hA ⊢
          refine satO_nil (by simp) ?_
          repeat refine sat_seq ?_
          refine satO_reg ?_
          have g0 := hA.get (k := 0) rfl
          have g1 := hA.get (k := 1) rfl
          refine satO_step 3 [] ⟨an 1 (.sl 3 (a1.map GOver.el) false :: an 5 (.map (lv + 1) i4 :: an 1 (.ptr (lv + 1) i11 0 :: an 9 (.sl 13 (a0.map GNode.el) false :: .int .i64 (a0.length : Int) :: .int .i64 x6 :: .bool (decide (x6 < (a0.length : Int))) :: .ref x7.cs 0 :: .agg x7.cs :: .map (lv + 1) i4 :: .ptr (lv + 1) i11 0 :: .str x7.path :: an 16 [])))), ⟨lv + 1, L, E⟩, [], E⟩ [] (by simp -implicitDefEqProofs [GNode.cs, g0, g1]) claims_nil ?_
          have g1 := hA.get (k := 1) rfl
          have q12 := update_str (P := Tryd.prog) (lv := lv + 1) (E := E) (f := V.bool) Tryd.underlying46 Tryd.underlying9 g1 x7.path true (y := .bool true) (by first | rfl | simp)
          refine satO_step 1 [] ⟨an 1 (.sl 3 (a1.map GOver.el) false :: an 5 (.map (lv + 1) i4 :: an 1 (.ptr (lv + 1) i11 0 :: an 9 (.sl 13 (a0.map GNode.el) false :: .int .i64 (a0.length : Int) :: .int .i64 x6 :: .bool (decide (x6 < (a0.length : Int))) :: .ref x7.cs 0 :: .agg x7.cs :: .map (lv + 1) i4 :: .ptr (lv + 1) i11 0 :: .str x7.path :: an 16 [])))), ⟨lv + 1, (L.set i4 (some (.map ((mput x5 x7.path true).map fun p => (.str p.1, V.bool p.2))))), E⟩, [], E⟩ [] (by simp -implicitDefEqProofs [q12]) claims_nil ?_
          have hA : AccG (lv + 1) (L.set i4 (some (.map ((mput x5 x7.path true).map fun p => (.str p.1, V.bool p.2))))) [] [(i11, .cells x7.cs), (i4, .map ((mput x5 x7.path true).map fun p => (.str p.1, V.bool p.2)))] := hA.upd (k := 1) rfl _
          generalize (L.set i4 (some (.map ((mput x5 x7.path true).map fun p => (.str p.1, V.bool p.2))))) = L at hA ⊢
          refine satO_nil (by simp) ?_
          repeat refine sat_seq ?_
          refine satO_reg ?_
          have g0 := hA.get (k := 0) rfl
          have g1 := hA.get (k := 1) rfl
          refine satO_step 2 [] ⟨an 1 (.sl 3 (a1.map GOver.el) false :: an 5 (.map (lv + 1) i4 :: an 1 (.ptr (lv + 1) i11 0 :: an 9 (.sl 13 (a0.map GNode.el) false :: .int .i64 (a0.length : Int) :: .int .i64 (IntKind.i64.wrap (x6 + 1)) :: .bool (decide (x6 < (a0.length : Int))) :: .ref x7.cs 0 :: .agg x7.cs :: .map (lv + 1) i4 :: .ptr (lv + 1) i11 0 :: .str x7.path :: .int .i64 (IntKind.i64.wrap (x6 + 1)) :: an 15 [])))), ⟨lv + 1, L, E⟩, [], E⟩ [] (by simp -implicitDefEqProofs [GNode.cs, g0, g1]) claims_nil ?_
          refine satO_nil (by simp) ?_
          have hA : AccG (lv + 1) L [] [(i4, .map ((mput x5 x7.path true).map fun p => (.str p.1, V.bool p.2)))] := hA.sel [] (by simp) rfl (.cons _ (.cons_cons _ .slnil))
          refine ⟨n, ⟨an 1 (.sl 3 (a1.map GOver.el) false :: an 5 (.map (lv + 1) i4 :: an 11 (.sl 13 (a0.map GNode.el) false :: .int .i64 (a0.length : Int) :: .int .i64 (IntKind.i64.wrap (x6 + 1)) :: an 22 []))), ⟨lv + 1, L, E⟩, [], E⟩, weak_tmps ?_, ⟨(mput x5 x7.path true), (IntKind.i64.wrap (x6 + 1)), L, by omega, hA, h, rfl⟩, by omega⟩
          (try simp only [an, List.map_cons, List.map_nil]); repeat (first | exact VLeL.nil | refine VLeL.cons (by first | exact VLe.refl _ | exact VLe.any _ | exact VLe.nil _ _ | exact VLe.full _ _ | (refine VLe.agg' ?_; repeat (first | exact VLeL.nil | refine VLeL.cons (by first | exact VLe.refl _ | exact VLe.any _ | exact VLe.nil _ _) ?_))) ?_)
        · have h := ite_f hb h
          repeat refine sat_seq ?_
          refine sat_exit ?_
          repeat refine sat_seq ?_
          refine satO_reg ?_
          have g0 := hA.get (k := 0) rfl
          refine satO_step 1 [] ⟨an 1 (.sl 3 (a1.map GOver.el) false :: an 5 (.map (lv + 1) i4 :: an 2 (.nils :: an 8 (.sl 13 (a0.map GNode.el) false :: .int .i64 (a0.length : Int) :: .int .i64 x6 :: .bool (decide (x6 < (a0.length : Int))) :: an 21 [])))), ⟨lv + 1, L, E⟩, [], E⟩ [] (by simp -implicitDefEqProofs [GNode.cs, g0]) claims_nil ?_
          refine satO_nil (by simp) ?_
          repeat refine sat_seq ?_
          refine satO_reg ?_
          have g0 := hA.get (k := 0) rfl
          refine satO_step 3 [] ⟨an 1 (.sl 3 (a1.map GOver.el) false :: an 5 (.map (lv + 1) i4 :: an 2 (.nils :: an 8 (.sl 13 (a0.map GNode.el) false :: .int .i64 (a0.length : Int) :: .int .i64 x6 :: .bool (decide (x6 < (a0.length : Int))) :: an 6 (.sl 3 (a1.map GOver.el) false :: .int .i64 (a1.length : Int) :: .int .i64 0 :: an 12 []))))), ⟨lv + 1, L, E⟩, [], E⟩ [] (by simp -implicitDefEqProofs [GNode.cs, g0]) claims_nil ?_
          refine satO_nil (by simp) ?_
          repeat refine sat_seq ?_
          refine sat_block ?_
          repeat refine sat_seq ?_
          have hA := hA.cons 4 1 false
          refine sat_loop (fun k σ => ∃ (x16 : Int) (v14 : V) (l15 : List Bool) (L : List (Option AObj)), k ≤ n ∧ AccG (lv + 1) L [⟨4, 1, v14, l15.map V.bool, false⟩] [(i4, .map (x5.map fun p => (.str p.1, V.bool p.2)))] ∧ go_override_Attach_L2 k a1 x5 l15 x16 = some r ∧ σ = ⟨an 7 (.map (lv + 1) i4 :: an 2 (v14 :: an 18 (.sl 3 (a1.map GOver.el) false :: .int .i64 (a1.length : Int) :: .int .i64 x16 :: an 12 []))), ⟨lv + 1, L, E⟩, [], E⟩) n ⟨an 7 (.map (lv + 1) i4 :: an 2 (.nils :: an 18 (.sl 3 (a1.map GOver.el) false :: .int .i64 (a1.length : Int) :: .int .i64 0 :: an 12 []))), ⟨lv + 1, L, E⟩, [], E⟩ (weak_tmps ?_) ⟨0, .nils, ([]), L, Nat.le_refl _, hA, h, rfl⟩ ?_
          · (try simp only [an, List.map_cons, List.map_nil]); repeat (first | exact VLeL.nil | refine VLeL.cons (by first | exact VLe.refl _ | exact VLe.any _ | exact VLe.nil _ _ | exact VLe.full _ _ | (refine VLe.agg' ?_; repeat (first | exact VLeL.nil | refine VLeL.cons (by first | exact VLe.refl _ | exact VLe.any _ | exact VLe.nil _ _) ?_))) ?_)
          · rintro k σ ⟨x16, v14, l15, L, hk, hA, h, rfl⟩
            rcases k with _ | n
            · simp [go_override_Attach_L2] at h
            · rw [go_override_Attach_L2] at h
              repeat refine sat_seq ?_
              refine satO_reg ?_
              have g0 := hA.get (k := 0) rfl
              obtain ⟨w0a, w0b, w0c⟩ := hA.whole (j := 0) rfl
              refine satO_step 1 [] ⟨an 7 (.map (lv + 1) i4 :: an 2 (v14 :: an 18 (.sl 3 (a1.map GOver.el) false :: .int .i64 (a1.length : Int) :: .int .i64 x16 :: .bool (decide (x16 < (a1.length : Int))) :: an 11 []))), ⟨lv + 1, L, E⟩, [], E⟩ [] (by simp -implicitDefEqProofs [GNode.cs, g0, w0a, w0b, w0c]) claims_nil ?_
              refine satO_nil (by simp) ?_
              repeat refine sat_seq ?_
              refine sat_cond rfl (fun hb => ?_) (fun hb => ?_)
              · have h := ite_t hb h
                repeat refine sat_seq ?_
                refine sat_skip ?_
                repeat refine sat_seq ?_
                refine sat_block ?_
                repeat refine sat_seq ?_
                refine satO_reg ?_
                obtain ⟨x17, q18, h⟩ := bnd_hi h
                obtain ⟨q18, q19⟩ := ix_some q18
                have g0 := hA.get (k := 0) rfl
                obtain ⟨w0a, w0b, w0c⟩ := hA.whole (j := 0) rfl
                refine satO_step 2 [] ⟨an 7 (.map (lv + 1) i4 :: an 2 (v14 :: an 18 (.sl 3 (a1.map GOver.el) false :: .int .i64 (a1.length : Int) :: .int .i64 x16 :: .bool (decide (x16 < (a1.length : Int))) :: .ref x17.cs 0 :: .agg x17.cs :: an 9 []))), ⟨lv + 1, L, E⟩, [], E⟩ [] (by simp -implicitDefEqProofs [GNode.cs, GOver.cs, g0, w0a, w0b, w0c, q18, q19, GOver.el_cs]) claims_nil ?_
                refine satO_step 1 [] ⟨an 7 (.map (lv + 1) i4 :: an 2 (v14 :: an 1 (.ptr (lv + 1) L.length 0 :: an 16 (.sl 3 (a1.map GOver.el) false :: .int .i64 (a1.length : Int) :: .int .i64 x16 :: .bool (decide (x16 < (a1.length : Int))) :: .ref x17.cs 0 :: .agg x17.cs :: an 9 [])))), ⟨lv + 1, (L ++ [some (.cells [.str ([]), .int .u8 0, .str ([])])]), E⟩, [], E⟩ [] (by simp -implicitDefEqProofs [GNode.cs, GOver.cs]) claims_nil ?_
                have hA : AccG (lv + 1) (L ++ [some (.cells [.str ([]), .int .u8 0, .str ([])])]) [⟨4, 1, v14, l15.map V.bool, false⟩] [(L.length, .cells [.str ([]), .int .u8 0, .str ([])]), (i4, .map (x5.map fun p => (.str p.1, V.bool p.2)))] := hA.obj _
                generalize L.length = i21 at hA ⊢
                generalize (L ++ [some (.cells [.str ([]), .int .u8 0, .str ([])])]) = L at hA ⊢
                have g0 := hA.get (k := 0) rfl
                have g1 := hA.get (k := 1) rfl
                obtain ⟨w0a, w0b, w0c⟩ := hA.whole (j := 0) rfl
                refine satO_step 1 [] ⟨an 7 (.map (lv + 1) i4 :: an 2 (v14 :: an 1 (.ptr (lv + 1) i21 0 :: an 16 (.sl 3 (a1.map GOver.el) false :: .int .i64 (a1.length : Int) :: .int .i64 x16 :: .bool (decide (x16 < (a1.length : Int))) :: .ref x17.cs 0 :: .agg x17.cs :: an 9 [])))), ⟨lv + 1, (L.set i21 (some (.cells x17.cs))), E⟩, [], E⟩ [] (by simp -implicitDefEqProofs [GNode.cs, GOver.cs, g0, g1, w0a, w0b, w0c]) claims_nil ?_
                have hA : AccG (lv + 1) (L.set i21 (some (.cells x17.cs))) [⟨4, 1, v14, l15.map V.bool, false⟩] [(i21, .cells x17.cs), (i4, .map (x5.map fun p => (.str p.1, V.bool p.2)))] := hA.upd (k := 0) rfl _
                generalize (L.set i21 (some (.cells x17.cs))) = L at hA ⊢
                refine satO_nil (by simp) ?_
                repeat refine sat_seq ?_
                refine satO_reg ?_
                have g23 := hA.get (k := 1) rfl
                have q22 := lookup_str (P := Tryd.prog) (H := ⟨lv + 1, L, E⟩) (l := lv + 1) (i := i4) (m := x5) (f := V.bool) Tryd.underlying46 Tryd.underlying9 Tryd.zeroV4 (by simp [Heap.get, g23]) x17.path false (by first | rfl | simp)
                have g0 := hA.get (k := 0) rfl
                have g1 := hA.get (k := 1) rfl
                obtain ⟨w0a, w0b, w0c⟩ := hA.whole (j := 0) rfl
                refine satO_step 6 [] ⟨an 7 (.map (lv + 1) i4 :: an 2 (v14 :: an 1 (.ptr (lv + 1) i21 0 :: an 16 (.sl 3 (a1.map GOver.el) false :: .int .i64 (a1.length : Int) :: .int .i64 x16 :: .bool (decide (x16 < (a1.length : Int))) :: .ref x17.cs 0 :: .agg x17.cs :: v14 :: .map (lv + 1) i4 :: .ptr (lv + 1) i21 0 :: .str x17.path :: .bool ((mget x5 x17.path).getD false) :: .sl 1 [.bool ((mget x5 x17.path).getD false)] true :: an 3 [])))), ⟨lv + 1, L, E⟩, [], E⟩ [] (by simp -implicitDefEqProofs [GNode.cs, GOver.cs, g0, g1, w0a, w0b, w0c, q22.1]) claims_nil ?_
                obtain ⟨l24, q25, h⟩ := bnd_hi h
                obtain ⟨q25, q26⟩ := ext_some q25
                obtain ⟨v27, L, q28, hA⟩ := hA.push (j := 0) rfl [.bool ((mget x5 x17.path).getD false)] (by simpa using q25) E
                refine satO_step 1 [] ⟨an 7 (.map (lv + 1) i4 :: an 2 (v14 :: an 1 (.ptr (lv + 1) i21 0 :: an 16 (.sl 3 (a1.map GOver.el) false :: .int .i64 (a1.length : Int) :: .int .i64 x16 :: .bool (decide (x16 < (a1.length : Int))) :: .ref x17.cs 0 :: .agg x17.cs :: v14 :: .map (lv + 1) i4 :: .ptr (lv + 1) i21 0 :: .str x17.path :: .bool ((mget x5 x17.path).getD false) :: .sl 1 [.bool ((mget x5 x17.path).getD false)] true :: v27 :: an 2 [])))), ⟨lv + 1, L, E⟩, [], E⟩ [] (by simp -implicitDefEqProofs [q28]) claims_nil ?_
                have hA : AccG (lv + 1) L [⟨4, 1, v27, l24.map V.bool, false⟩] [(i21, .cells x17.cs), (i4, .map (x5.map fun p => (.str p.1, V.bool p.2)))] := by rw [q26]; simpa using hA
                have g0 := hA.get (k := 0) rfl
                have g1 := hA.get (k := 1) rfl
                obtain ⟨w0a, w0b, w0c⟩ := hA.whole (j := 0) rfl
                refine satO_step 1 [] ⟨an 7 (.map (lv + 1) i4 :: an 2 (v27 :: an 1 (.ptr (lv + 1) i21 0 :: an 16 (.sl 3 (a1.map GOver.el) false :: .int .i64 (a1.length : Int) :: .int .i64 x16 :: .bool (decide (x16 < (a1.length : Int))) :: .ref x17.cs 0 :: .agg x17.cs :: v14 :: .map (lv + 1) i4 :: .ptr (lv + 1) i21 0 :: .str x17.path :: .bool ((mget x5 x17.path).getD false) :: .sl 1 [.bool ((mget x5 x17.path).getD false)] true :: v27 :: an 2 [])))), ⟨lv + 1, L, E⟩, [], E⟩ [] (by simp -implicitDefEqProofs [GNode.cs, GOver.cs, g0, g1, w0a, w0b, w0c]) claims_nil ?_
                refine satO_nil (by simp) ?_
                repeat refine sat_seq ?_
                refine satO_reg ?_
                have g0 := hA.get (k := 0) rfl
                have g1 := hA.get (k := 1) rfl
                obtain ⟨w0a, w0b, w0c⟩ := hA.whole (j := 0) rfl
                refine satO_step 2 [] ⟨an 7 (.map (lv + 1) i4 :: an 2 (v27 :: an 1 (.ptr (lv + 1) i21 0 :: an 16 (.sl 3 (a1.map GOver.el) false :: .int .i64 (a1.length : Int) :: .int .i64 (IntKind.i64.wrap (x16 + 1)) :: .bool (decide (x16 < (a1.length : Int))) :: .ref x17.cs 0 :: .agg x17.cs :: v14 :: .map (lv + 1) i4 :: .ptr (lv + 1) i21 0 :: .str x17.path :: .bool ((mget x5 x17.path).getD false) :: .sl 1 [.bool ((mget x5 x17.path).getD false)] true :: v27 :: .int .i64 (IntKind.i64.wrap (x16 + 1)) :: an 1 [])))), ⟨lv + 1, L, E⟩, [], E⟩ [] (by simp -implicitDefEqProofs [GNode.cs, GOver.cs, g0, g1, w0a, w0b, w0c]) claims_nil ?_
                refine satO_nil (by simp) ?_
                have hA : AccG (lv + 1) L [⟨4, 1, v27, l24.map V.bool, false⟩] [(i4, .map (x5.map fun p => (.str p.1, V.bool p.2)))] := hA.sel [0] (by simp) rfl (.cons _ (.cons_cons _ .slnil))
                refine ⟨n, ⟨an 7 (.map (lv + 1) i4 :: an 2 (v27 :: an 18 (.sl 3 (a1.map GOver.el) false :: .int .i64 (a1.length : Int) :: .int .i64 (IntKind.i64.wrap (x16 + 1)) :: an 12 []))), ⟨lv + 1, L, E⟩, [], E⟩, weak_tmps ?_, ⟨(IntKind.i64.wrap (x16 + 1)), v27, l24, L, by omega, hA, h, rfl⟩, by omega⟩
                (try simp only [an, List.map_cons, List.map_nil]); repeat (first | exact VLeL.nil | refine VLeL.cons (by first | exact VLe.refl _ | exact VLe.any _ | exact VLe.nil _ _ | exact VLe.full _ _ | (refine VLe.agg' ?_; repeat (first | exact VLeL.nil | refine VLeL.cons (by first | exact VLe.refl _ | exact VLe.any _ | exact VLe.nil _ _) ?_))) ?_)
              · have h := ite_f hb h
                repeat refine sat_seq ?_
                refine sat_exit ?_
                repeat refine sat_seq ?_
                refine satO_reg ?_
                have g0 := hA.get (k := 0) rfl
                obtain ⟨w0a, w0b, w0c⟩ := hA.whole (j := 0) rfl
                refine satO_step 3 [] ⟨an 4 (v14 :: .int .i64 0 :: an 1 (.map (lv + 1) i4 :: an 2 (v14 :: an 18 (.sl 3 (a1.map GOver.el) false :: .int .i64 (a1.length : Int) :: .int .i64 x16 :: .bool (decide (x16 < (a1.length : Int))) :: an 10 (v14 :: []))))), ⟨lv + 1, L, E⟩, [], E⟩ [] (by simp -implicitDefEqProofs [GNode.cs, GOver.cs, g0, w0a, w0b, w0c]) claims_nil ?_
                refine satO_nil (by simp) ?_
                repeat refine sat_seq ?_
                refine sat_ret ?_
                have g0 := hA.get (k := 0) rfl
                obtain ⟨w0a, w0b, w0c⟩ := hA.whole (j := 0) rfl
                refine ends (v := .tup [v14, .int .i64 0]) (by simp [resultsV, resL, resV, tupOf, Tryd.f8, pLoad, g0, w0a, w0b, w0c, GNode.cs, GOver.cs]) rfl rfl ?_
                injection h with h
                subst h
                exact VS.tup' (.cons (hA.shut (j := 0) rfl (by simp [V.kin, V.kinL, GNode.cs, GOver.cs])) (.cons (.keep _ (by simp [V.kin, V.kinL, GNode.cs, GOver.cs])) .nil))
end Go.Proofs

namespace Go.Proofs
open Go Go.Ab
set_option maxRecDepth 10000
set_option maxHeartbeats 1000000
set_option linter.unusedSimpArgs false
set_option linter.unusedVariables false
theorem go_edit_Follow_ok (n : Nat) (a0 : List GOver) (a1 : List UInt8) (a2 : List UInt8) (r : (List GOver) × Int) (h : go_edit_Follow n a0 a1 a2 = some r) : PCall Tryd.prog 5 [.sl 3 (a0.map GOver.el) false, .str a1, .str a2] (.tup [.sl 3 (r.1.map GOver.el) false, .int .i64 r.2]) := by
  rcases n with _ | n
  · simp [go_edit_Follow] at h
  rw [go_edit_Follow] at h
  refine pcall_of Tryd.func5 rfl Tryd.ntmps5 (fun _ _ => Tryd.call5 _ _) fun lv E => ?_
  simp only [List.length_cons, List.length_nil, Nat.reduceAdd, Nat.reduceSub, List.replicate, List.cons_append, List.nil_append]
  have hA := AccG.nil (lv + 1)
  generalize ([] : List (Option AObj)) = L at hA ⊢
  repeat refine sat_seq ?_
  refine satO_reg ?_
  refine satO_step 2 [] ⟨.sl 3 (a0.map GOver.el) false :: .str a1 :: .str a2 :: an 3 (.nils :: .int .i64 0 :: an 86 []), ⟨lv + 1, L, E⟩, [], E⟩ [] (by simp -implicitDefEqProofs []) claims_nil ?_
  refine satO_nil (by simp) ?_
  repeat refine sat_seq ?_
  refine satO_reg ?_
  obtain ⟨y1, q2, h⟩ := bnd_hi h
  refine satO_step 7 [(.tup [.sl 1 (y1.1.map V.bool) false, .int .i64 y1.2], none)] ⟨.sl 3 (a0.map GOver.el) false :: .str a1 :: .str a2 :: an 3 (.nils :: .int .i64 0 :: .sl 1 (y1.1.map V.bool) false :: .int .i64 y1.2 :: an 9 (.tup [.sl 1 (y1.1.map V.bool) false, .int .i64 y1.2] :: .sl 3 (a0.map GOver.el) false :: .tup [.sl 1 (y1.1.map V.bool) false, .int .i64 y1.2] :: .sl 1 (y1.1.map V.bool) false :: .int .i64 y1.2 :: an 70 [])), ⟨lv + 1, L, E⟩, [], E⟩ [⟨8, [.nils, .sl 3 (a0.map GOver.el) false], ⟨lv + 1, L, E⟩, .tup [.sl 1 (y1.1.map V.bool) false, .int .i64 y1.2], ⟨lv + 1, L, E⟩⟩] (by simp -implicitDefEqProofs []) (claims_cons (hcall_le (go_override_Attach_ok _ _ _ _ q2 _) (by (try simp only [List.map_cons, List.map_nil]); (try simp only [an, List.map_cons, List.map_nil]); repeat (first | exact VLeL.nil | refine VLeL.cons (by first | exact VLe.refl _ | exact VLe.any _ | exact VLe.nil _ _ | exact VLe.full _ _ | (refine VLe.agg' ?_; repeat (first | exact VLeL.nil | refine VLeL.cons (by first | exact VLe.refl _ | exact VLe.any _ | exact VLe.nil _ _) ?_))) ?_))) claims_nil) ?_
  refine satO_nil (by simp) ?_
  repeat refine sat_seq ?_
  refine satO_reg ?_
  refine satO_step 2 [] ⟨.sl 3 (a0.map GOver.el) false :: .str a1 :: .str a2 :: an 3 (.nils :: .int .i64 0 :: .sl 1 (y1.1.map V.bool) false :: .int .i64 y1.2 :: an 9 (.tup [.sl 1 (y1.1.map V.bool) false, .int .i64 y1.2] :: .sl 3 (a0.map GOver.el) false :: .tup [.sl 1 (y1.1.map V.bool) false, .int .i64 y1.2] :: .sl 1 (y1.1.map V.bool) false :: .int .i64 y1.2 :: .int .i64 y1.2 :: .bool (!(y1.2 == 0)) :: an 68 [])), ⟨lv + 1, L, E⟩, [], E⟩ [] (by simp -implicitDefEqProofs []) claims_nil ?_
  refine satO_nil (by simp) ?_
  repeat refine sat_seq ?_
  refine sat_cond rfl (fun hb => ?_) (fun hb => ?_)
  · have h := ite_t hb h
    repeat refine sat_seq ?_
    refine satO_reg ?_
    refine satO_step 3 [] ⟨.sl 3 (a0.map GOver.el) false :: .str a1 :: .str a2 :: an 3 (.nils :: .int .i64 y1.2 :: .sl 1 (y1.1.map V.bool) false :: .int .i64 y1.2 :: an 9 (.tup [.sl 1 (y1.1.map V.bool) false, .int .i64 y1.2] :: .sl 3 (a0.map GOver.el) false :: .tup [.sl 1 (y1.1.map V.bool) false, .int .i64 y1.2] :: .sl 1 (y1.1.map V.bool) false :: .int .i64 y1.2 :: .int .i64 y1.2 :: .bool (!(y1.2 == 0)) :: .int .i64 y1.2 :: an 67 [])), ⟨lv + 1, L, E⟩, [], E⟩ [] (by simp -implicitDefEqProofs []) claims_nil ?_
    refine satO_nil (by simp) ?_
    repeat refine sat_seq ?_
    refine sat_ret ?_
    refine ends (v := .tup [.nils, .int .i64 y1.2]) (by simp [resultsV, resL, resV, tupOf, Tryd.f5, pLoad]) rfl rfl ?_
    injection h with h
    subst h
    exact VS.tup' (.cons (.nil _ _) (.cons (.keep _ (by simp [V.kin, V.kinL])) .nil))
  · have h := ite_f hb h
    repeat refine sat_seq ?_
    refine sat_skip ?_
    repeat refine sat_seq ?_
    refine sat_meet (fun σ => ∃ (k : Nat), k ≤ n ∧ ∃ (x3 : Bool) (L : List (Option AObj)), AccG (lv + 1) L [] [] ∧ go_edit_Follow_J1 k a0 a1 a2 x3 = some r ∧ σ = ⟨.sl 3 (a0.map GOver.el) false :: .str a1 :: .str a2 :: an 31 (.bool x3 :: an 59 []), ⟨lv + 1, L, E⟩, [], E⟩) ?_ ?_
    · refine satO_reg ?_
      obtain ⟨y4, q5, h⟩ := bnd_hi h
      rcases Bool.eq_false_or_eq_true (!y4) with hg6 | hg7
      · have h := ite_t hg6 h
        have hg6n := hg6
        try simp at hg6n
        refine satO_step 8 [(.bool y4, none)] ⟨.sl 3 (a0.map GOver.el) false :: .str a1 :: .str a2 :: an 3 (.nils :: .int .i64 0 :: .sl 1 (y1.1.map V.bool) false :: .int .i64 y1.2 :: an 9 (.tup [.sl 1 (y1.1.map V.bool) false, .int .i64 y1.2] :: .sl 3 (a0.map GOver.el) false :: .tup [.sl 1 (y1.1.map V.bool) false, .int .i64 y1.2] :: .sl 1 (y1.1.map V.bool) false :: .int .i64 y1.2 :: .int .i64 y1.2 :: .bool (!(y1.2 == 0)) :: an 1 (.str a1 :: .bool y4 :: .bool (!y4) :: .bool (!y4) :: .tup [] :: .tup [] :: .tup [] :: .bool true :: an 59 []))), ⟨lv + 1, L, E⟩, [], E⟩ [⟨9, [.str a1], ⟨lv + 1, L, E⟩, .bool y4, ⟨lv + 1, L, E⟩⟩] (by first | (simp -implicitDefEqProofs [hg6]; done) | simp -implicitDefEqProofs [hg6, hg6n]) (claims_cons (go_label_Name_ok _ _ _ q5 _) claims_nil) ?_
        refine satO_nil (by simp) ?_
        refine ⟨⟨.sl 3 (a0.map GOver.el) false :: .str a1 :: .str a2 :: an 31 (.bool true :: an 59 []), ⟨lv + 1, L, E⟩, [], E⟩, weak_tmps ?_, n, by omega, true, L, hA, h, rfl⟩
        (try simp only [an, List.map_cons, List.map_nil]); repeat (first | exact VLeL.nil | refine VLeL.cons (by first | exact VLe.refl _ | exact VLe.any _ | exact VLe.nil _ _ | exact VLe.full _ _ | (refine VLe.agg' ?_; repeat (first | exact VLeL.nil | refine VLeL.cons (by first | exact VLe.refl _ | exact VLe.any _ | exact VLe.nil _ _) ?_))) ?_)
      · have h := ite_f hg7 h
        have hg7n := hg7
        try simp at hg7n
        obtain ⟨y8, q9, h⟩ := bnd_hi h
        refine satO_step 8 [(.bool y4, none), (.bool y8, none)] ⟨.sl 3 (a0.map GOver.el) false :: .str a1 :: .str a2 :: an 3 (.nils :: .int .i64 0 :: .sl 1 (y1.1.map V.bool) false :: .int .i64 y1.2 :: an 9 (.tup [.sl 1 (y1.1.map V.bool) false, .int .i64 y1.2] :: .sl 3 (a0.map GOver.el) false :: .tup [.sl 1 (y1.1.map V.bool) false, .int .i64 y1.2] :: .sl 1 (y1.1.map V.bool) false :: .int .i64 y1.2 :: .int .i64 y1.2 :: .bool (!(y1.2 == 0)) :: an 1 (.str a1 :: .bool y4 :: .bool (!y4) :: .bool (!y4) :: .str a2 :: .bool y8 :: .bool (!y8) :: .bool (!y8) :: an 59 []))), ⟨lv + 1, L, E⟩, [], E⟩ [⟨9, [.str a1], ⟨lv + 1, L, E⟩, .bool y4, ⟨lv + 1, L, E⟩⟩, ⟨9, [.str a2], ⟨lv + 1, L, E⟩, .bool y8, ⟨lv + 1, L, E⟩⟩] (by first | (simp -implicitDefEqProofs [hg7]; done) | simp -implicitDefEqProofs [hg7, hg7n]) (claims_cons (go_label_Name_ok _ _ _ q5 _) (claims_cons (go_label_Name_ok _ _ _ q9 _) claims_nil)) ?_
        refine satO_nil (by simp) ?_
        refine ⟨⟨.sl 3 (a0.map GOver.el) false :: .str a1 :: .str a2 :: an 31 (.bool (!y8) :: an 59 []), ⟨lv + 1, L, E⟩, [], E⟩, weak_tmps ?_, n, by omega, (!y8), L, hA, h, rfl⟩
        (try simp only [an, List.map_cons, List.map_nil]); repeat (first | exact VLeL.nil | refine VLeL.cons (by first | exact VLe.refl _ | exact VLe.any _ | exact VLe.nil _ _ | exact VLe.full _ _ | (refine VLe.agg' ?_; repeat (first | exact VLeL.nil | refine VLeL.cons (by first | exact VLe.refl _ | exact VLe.any _ | exact VLe.nil _ _) ?_))) ?_)
    · rintro σ0 σ hw ⟨k, hk, x3, L, hA, h, rfl⟩
      rcases k with _ | n
      · simp [go_edit_Follow_J1] at h
      · rw [go_edit_Follow_J1] at h
        refine sat_weak hw ?_
        repeat refine sat_seq ?_
        refine sat_cond rfl (fun hb => ?_) (fun hb => ?_)
        · have h := ite_t hb h
          repeat refine sat_seq ?_
          refine satO_reg ?_
          refine satO_step 2 [] ⟨.sl 3 (a0.map GOver.el) false :: .str a1 :: .str a2 :: an 3 (.nils :: .int .i64 12 :: an 26 (.bool x3 :: an 59 [])), ⟨lv + 1, L, E⟩, [], E⟩ [] (by simp -implicitDefEqProofs []) claims_nil ?_
          refine satO_nil (by simp) ?_
          repeat refine sat_seq ?_
          refine sat_ret ?_
          refine ends (v := .tup [.nils, .int .i64 12]) (by simp [resultsV, resL, resV, tupOf, Tryd.f5, pLoad]) rfl rfl ?_
          injection h with h
          subst h
          exact VS.tup' (.cons (.nil _ _) (.cons (.keep _ (by simp [V.kin, V.kinL])) .nil))
        · have h := ite_f hb h
          repeat refine sat_seq ?_
          refine sat_skip ?_
          repeat refine sat_seq ?_
          refine satO_reg ?_
          refine satO_step 1 [] ⟨.sl 3 (a0.map GOver.el) false :: .str a1 :: .str a2 :: an 7 (.nils :: an 23 (.bool x3 :: an 59 [])), ⟨lv + 1, L, E⟩, [], E⟩ [] (by simp -implicitDefEqProofs []) claims_nil ?_
          refine satO_nil (by simp) ?_
          repeat refine sat_seq ?_
          refine satO_reg ?_
          refine satO_step 3 [] ⟨.sl 3 (a0.map GOver.el) false :: .str a1 :: .str a2 :: an 7 (.nils :: an 23 (.bool x3 :: .sl 3 (a0.map GOver.el) false :: .int .i64 (a0.length : Int) :: .int .i64 0 :: an 56 [])), ⟨lv + 1, L, E⟩, [], E⟩ [] (by simp -implicitDefEqProofs []) claims_nil ?_
          refine satO_nil (by simp) ?_
          repeat refine sat_seq ?_
          refine sat_block ?_
          repeat refine sat_seq ?_
          have hA := hA.cons 32 3 true
          refine sat_loop (fun k σ => ∃ (x13 : Int) (v11 : V) (l12 : List GOver) (L : List (Option AObj)), k ≤ n ∧ AccG (lv + 1) L [⟨32, 3, v11, l12.map GOver.el, true⟩] [] ∧ go_edit_Follow_L1 k a0 a1 a2 l12 x13 = some r ∧ σ = ⟨an 1 (.str a1 :: .str a2 :: an 7 (v11 :: an 24 (.sl 3 (a0.map GOver.el) false :: .int .i64 (a0.length : Int) :: .int .i64 x13 :: an 56 []))), ⟨lv + 1, L, E⟩, [], E⟩) n ⟨an 1 (.str a1 :: .str a2 :: an 7 (.nils :: an 24 (.sl 3 (a0.map GOver.el) false :: .int .i64 (a0.length : Int) :: .int .i64 0 :: an 56 []))), ⟨lv + 1, L, E⟩, [], E⟩ (weak_tmps ?_) ⟨0, .nils, ([]), L, Nat.le_refl _, hA, h, rfl⟩ ?_
          · (try simp only [an, List.map_cons, List.map_nil]); repeat (first | exact VLeL.nil | refine VLeL.cons (by first | exact VLe.refl _ | exact VLe.any _ | exact VLe.nil _ _ | exact VLe.full _ _ | (refine VLe.agg' ?_; repeat (first | exact VLeL.nil | refine VLeL.cons (by first | exact VLe.refl _ | exact VLe.any _ | exact VLe.nil _ _) ?_))) ?_)
          · rintro k σ ⟨x13, v11, l12, L, hk, hA, h, rfl⟩
            rcases k with _ | n
            · simp [go_edit_Follow_L1] at h
            · rw [go_edit_Follow_L1] at h
              repeat refine sat_seq ?_
              refine satO_reg ?_
              obtain ⟨w0a, w0b, w0c⟩ := hA.whole (j := 0) rfl
              refine satO_step 1 [] ⟨an 1 (.str a1 :: .str a2 :: an 7 (v11 :: an 24 (.sl 3 (a0.map GOver.el) false :: .int .i64 (a0.length : Int) :: .int .i64 x13 :: .bool (decide (x13 < (a0.length : Int))) :: an 55 []))), ⟨lv + 1, L, E⟩, [], E⟩ [] (by simp -implicitDefEqProofs [w0a, w0b, w0c]) claims_nil ?_
              refine satO_nil (by simp) ?_
              repeat refine sat_seq ?_
              refine sat_cond rfl (fun hb => ?_) (fun hb => ?_)
              · have h := ite_t hb h
                repeat refine sat_seq ?_
                refine sat_skip ?_
                repeat refine sat_seq ?_
                refine sat_block ?_
                repeat refine sat_seq ?_
                refine satO_reg ?_
                obtain ⟨x14, q15, h⟩ := bnd_hi h
                obtain ⟨q15, q16⟩ := ix_some q15
                obtain ⟨w0a, w0b, w0c⟩ := hA.whole (j := 0) rfl
                refine satO_step 2 [] ⟨an 1 (.str a1 :: .str a2 :: an 7 (v11 :: an 24 (.sl 3 (a0.map GOver.el) false :: .int .i64 (a0.length : Int) :: .int .i64 x13 :: .bool (decide (x13 < (a0.length : Int))) :: .ref x14.cs 0 :: .agg x14.cs :: an 53 []))), ⟨lv + 1, L, E⟩, [], E⟩ [] (by simp -implicitDefEqProofs [GOver.cs, w0a, w0b, w0c, q15, q16, GOver.el_cs]) claims_nil ?_
                refine satO_step 1 [] ⟨an 1 (.str a1 :: .str a2 :: an 7 (v11 :: an 1 (.ptr (lv + 1) L.length 0 :: an 22 (.sl 3 (a0.map GOver.el) false :: .int .i64 (a0.length : Int) :: .int .i64 x13 :: .bool (decide (x13 < (a0.length : Int))) :: .ref x14.cs 0 :: .agg x14.cs :: an 53 [])))), ⟨lv + 1, (L ++ [some (.cells [.str ([]), .int .u8 0, .str ([])])]), E⟩, [], E⟩ [] (by simp -implicitDefEqProofs [GOver.cs]) claims_nil ?_
                have hA : AccG (lv + 1) (L ++ [some (.cells [.str ([]), .int .u8 0, .str ([])])]) [⟨32, 3, v11, l12.map GOver.el, true⟩] [(L.length, .cells [.str ([]), .int .u8 0, .str ([])])] := hA.obj _
                generalize L.length = i18 at hA ⊢
                generalize (L ++ [some (.cells [.str ([]), .int .u8 0, .str ([])])]) = L at hA ⊢
                have g0 := hA.get (k := 0) rfl
                obtain ⟨w0a, w0b, w0c⟩ := hA.whole (j := 0) rfl
                refine satO_step 1 [] ⟨an 1 (.str a1 :: .str a2 :: an 7 (v11 :: an 1 (.ptr (lv + 1) i18 0 :: an 22 (.sl 3 (a0.map GOver.el) false :: .int .i64 (a0.length : Int) :: .int .i64 x13 :: .bool (decide (x13 < (a0.length : Int))) :: .ref x14.cs 0 :: .agg x14.cs :: an 53 [])))), ⟨lv + 1, (L.set i18 (some (.cells x14.cs))), E⟩, [], E⟩ [] (by simp -implicitDefEqProofs [GOver.cs, g0, w0a, w0b, w0c]) claims_nil ?_
                have hA : AccG (lv + 1) (L.set i18 (some (.cells x14.cs))) [⟨32, 3, v11, l12.map GOver.el, true⟩] [(i18, .cells x14.cs)] := hA.upd (k := 0) rfl _
                generalize (L.set i18 (some (.cells x14.cs))) = L at hA ⊢
                refine satO_nil (by simp) ?_
                repeat refine sat_seq ?_
                refine satO_reg ?_
                have g0 := hA.get (k := 0) rfl
                obtain ⟨w0a, w0b, w0c⟩ := hA.whole (j := 0) rfl
                refine satO_step 2 [] ⟨an 1 (.str a1 :: .str a2 :: an 7 (v11 :: an 1 (.ptr (lv + 1) i18 0 :: an 22 (.sl 3 (a0.map GOver.el) false :: .int .i64 (a0.length : Int) :: .int .i64 x13 :: .bool (decide (x13 < (a0.length : Int))) :: .ref x14.cs 0 :: .agg x14.cs :: .ptr (lv + 1) i18 0 :: .str x14.path :: an 51 [])))), ⟨lv + 1, L, E⟩, [], E⟩ [] (by simp -implicitDefEqProofs [GOver.cs, g0, w0a, w0b, w0c]) claims_nil ?_
                obtain ⟨y19, q20, h⟩ := bnd_hi h
                refine satO_call (f := 10) (args := [.str x14.path, .str ([47])]) rfl (by simp [wantedV]) rfl (by simp -implicitDefEqProofs [GOver.cs]) (go_strings_Split_own_s47_ok _ _ _ q20 (lv + 1) L E _ _ hA) (fun r0 H0 hp => ?_) (fun v0 H0 hp => ?_)
                · obtain ⟨L, v21, rfl, hA, ho⟩ := hp
                  replace ho := Out.ret.inj ho.symm
                  subst ho
                  change SatO _ _ _ ⟨an 1 (.str a1 :: .str a2 :: an 7 (v11 :: an 1 (.ptr (lv + 1) i18 0 :: an 22 (.sl 3 (a0.map GOver.el) false :: .int .i64 (a0.length : Int) :: .int .i64 x13 :: .bool (decide (x13 < (a0.length : Int))) :: .ref x14.cs 0 :: .agg x14.cs :: .ptr (lv + 1) i18 0 :: .str x14.path :: v21 :: an 50 [])))), ⟨lv + 1, L, E⟩, [], E⟩ _
                  have g0 := hA.get (k := 0) rfl
                  obtain ⟨w0a, w0b, w0c⟩ := hA.whole (j := 0) rfl
                  obtain ⟨w1a, w1b, w1c⟩ := hA.whole (j := 1) rfl
                  refine satO_step 1 [] ⟨an 1 (.str a1 :: .str a2 :: an 7 (v11 :: an 1 (.ptr (lv + 1) i18 0 :: v21 :: an 21 (.sl 3 (a0.map GOver.el) false :: .int .i64 (a0.length : Int) :: .int .i64 x13 :: .bool (decide (x13 < (a0.length : Int))) :: .ref x14.cs 0 :: .agg x14.cs :: .ptr (lv + 1) i18 0 :: .str x14.path :: v21 :: an 50 [])))), ⟨lv + 1, L, E⟩, [], E⟩ [] (by simp -implicitDefEqProofs [GOver.cs, g0, w0a, w0b, w0c, w1a, w1b, w1c]) claims_nil ?_
                  refine satO_nil (by simp) ?_
                  repeat refine sat_seq ?_
                  refine satO_reg ?_
                  have g23 := hA.len (P := Tryd.prog) (j := 0) rfl Tryd.underlying37 E
                  simp only [List.length_map] at g23
                  have g0 := hA.get (k := 0) rfl
                  obtain ⟨w0a, w0b, w0c⟩ := hA.whole (j := 0) rfl
                  obtain ⟨w1a, w1b, w1c⟩ := hA.whole (j := 1) rfl
                  refine satO_step 3 [] ⟨an 1 (.str a1 :: .str a2 :: an 7 (v11 :: an 1 (.ptr (lv + 1) i18 0 :: v21 :: an 21 (.sl 3 (a0.map GOver.el) false :: .int .i64 (a0.length : Int) :: .int .i64 x13 :: .bool (decide (x13 < (a0.length : Int))) :: .ref x14.cs 0 :: .agg x14.cs :: .ptr (lv + 1) i18 0 :: .str x14.path :: v21 :: v21 :: .int .i64 (y19.length : Int) :: .int .i64 0 :: an 47 [])))), ⟨lv + 1, L, E⟩, [], E⟩ [] (by simp -implicitDefEqProofs [GOver.cs, g0, w0a, w0b, w0c, w1a, w1b, w1c, g23]) claims_nil ?_
                  refine satO_nil (by simp) ?_
                  repeat refine sat_seq ?_
                  refine sat_block ?_
                  repeat refine sat_seq ?_
                  refine sat_loop (fun k σ => ∃ (x26 : Int) (v24 : V) (l25 : List (List UInt8)) (L : List (Option AObj)), k ≤ n ∧ AccG (lv + 1) L [⟨9, 1, v24, l25.map V.str, true⟩, ⟨32, 3, v11, l12.map GOver.el, true⟩] [(i18, .cells x14.cs)] ∧ go_edit_Follow_L2 k a0 a1 a2 l12 x13 x14 y19 l25 x26 = some r ∧ σ = ⟨an 1 (.str a1 :: .str a2 :: an 7 (v11 :: an 1 (.ptr (lv + 1) i18 0 :: v24 :: an 21 (.sl 3 (a0.map GOver.el) false :: .int .i64 (a0.length : Int) :: .int .i64 x13 :: an 6 (v24 :: .int .i64 (y19.length : Int) :: .int .i64 x26 :: an 47 []))))), ⟨lv + 1, L, E⟩, [], E⟩) n ⟨an 1 (.str a1 :: .str a2 :: an 7 (v11 :: an 1 (.ptr (lv + 1) i18 0 :: v21 :: an 21 (.sl 3 (a0.map GOver.el) false :: .int .i64 (a0.length : Int) :: .int .i64 x13 :: an 6 (v21 :: .int .i64 (y19.length : Int) :: .int .i64 0 :: an 47 []))))), ⟨lv + 1, L, E⟩, [], E⟩ (weak_tmps ?_) ⟨0, v21, y19, L, Nat.le_refl _, hA, h, rfl⟩ ?_
                  · (try simp only [an, List.map_cons, List.map_nil]); repeat (first | exact VLeL.nil | refine VLeL.cons (by first | exact VLe.refl _ | exact VLe.any _ | exact VLe.nil _ _ | exact VLe.full _ _ | (refine VLe.agg' ?_; repeat (first | exact VLeL.nil | refine VLeL.cons (by first | exact VLe.refl _ | exact VLe.any _ | exact VLe.nil _ _) ?_))) ?_)
                  · rintro k σ ⟨x26, v24, l25, L, hk, hA, h, rfl⟩
                    rcases k with _ | n
                    · simp [go_edit_Follow_L2] at h
                    · rw [go_edit_Follow_L2] at h
                      repeat refine sat_seq ?_
                      refine satO_reg ?_
                      have g0 := hA.get (k := 0) rfl
                      obtain ⟨w0a, w0b, w0c⟩ := hA.whole (j := 0) rfl
                      obtain ⟨w1a, w1b, w1c⟩ := hA.whole (j := 1) rfl
                      refine satO_step 1 [] ⟨an 1 (.str a1 :: .str a2 :: an 7 (v11 :: an 1 (.ptr (lv + 1) i18 0 :: v24 :: an 21 (.sl 3 (a0.map GOver.el) false :: .int .i64 (a0.length : Int) :: .int .i64 x13 :: an 6 (v24 :: .int .i64 (y19.length : Int) :: .int .i64 x26 :: .bool (decide (x26 < (y19.length : Int))) :: an 46 []))))), ⟨lv + 1, L, E⟩, [], E⟩ [] (by simp -implicitDefEqProofs [GOver.cs, g0, w0a, w0b, w0c, w1a, w1b, w1c]) claims_nil ?_
                      refine satO_nil (by simp) ?_
                      repeat refine sat_seq ?_
                      refine sat_cond rfl (fun hb => ?_) (fun hb => ?_)
                      · have h := ite_t hb h
                        repeat refine sat_seq ?_
                        refine sat_skip ?_
                        repeat refine sat_seq ?_
                        refine sat_block ?_
                        repeat refine sat_seq ?_
                        refine satO_reg ?_
                        obtain ⟨x27, q28, h⟩ := bnd_hi h
                        obtain ⟨q28, q29⟩ := ix_some q28
                        obtain ⟨p30, q31, q32, q33, q34⟩ := hA.put (P := Tryd.prog) (j := 0) rfl Tryd.underlying37 (by simp) (by simp) q28 (x := V.str x27) (by rw [List.getElem?_map, q29]; rfl) E
                        have g0 := hA.get (k := 0) rfl
                        obtain ⟨w0a, w0b, w0c⟩ := hA.whole (j := 0) rfl
                        obtain ⟨w1a, w1b, w1c⟩ := hA.whole (j := 1) rfl
                        refine satO_step 5 [] ⟨an 1 (.str a1 :: .str a2 :: an 7 (v11 :: an 1 (.ptr (lv + 1) i18 0 :: v24 :: .int .i64 x26 :: .str x27 :: an 19 (.sl 3 (a0.map GOver.el) false :: .int .i64 (a0.length : Int) :: .int .i64 x13 :: an 6 (v24 :: .int .i64 (y19.length : Int) :: .int .i64 x26 :: .bool (decide (x26 < (y19.length : Int))) :: .int .i64 x26 :: p30 0 :: .str x27 :: an 43 []))))), ⟨lv + 1, L, E⟩, [], E⟩ [] (by simp -implicitDefEqProofs [GOver.cs, g0, w0a, w0b, w0c, w1a, w1b, w1c, q31, q32, q33]) claims_nil ?_
                        refine satO_nil (by simp) ?_
                        repeat refine sat_seq ?_
                        refine satO_reg ?_
                        obtain ⟨y35, q36, h⟩ := bnd_hi h
                        have g0 := hA.get (k := 0) rfl
                        obtain ⟨w0a, w0b, w0c⟩ := hA.whole (j := 0) rfl
                        obtain ⟨w1a, w1b, w1c⟩ := hA.whole (j := 1) rfl
                        refine satO_step 9 [(.tup [.str y35.1, .str y35.2.1, .bool y35.2.2], none)] ⟨an 1 (.str a1 :: .str a2 :: an 7 (v11 :: an 1 (.ptr (lv + 1) i18 0 :: v24 :: .int .i64 x26 :: .str x27 :: .str y35.1 :: .str y35.2.1 :: .bool y35.2.2 :: an 16 (.sl 3 (a0.map GOver.el) false :: .int .i64 (a0.length : Int) :: .int .i64 x13 :: an 6 (v24 :: .int .i64 (y19.length : Int) :: .int .i64 x26 :: .bool (decide (x26 < (y19.length : Int))) :: .int .i64 x26 :: p30 0 :: .str x27 :: .tup [.str y35.1, .str y35.2.1, .bool y35.2.2] :: .str x27 :: .tup [.str y35.1, .str y35.2.1, .bool y35.2.2] :: .str y35.1 :: .str y35.2.1 :: .bool y35.2.2 :: an 37 []))))), ⟨lv + 1, L, E⟩, [], E⟩ [⟨11, [.str x27, .str ([91])], ⟨lv + 1, L, E⟩, .tup [.str y35.1, .str y35.2.1, .bool y35.2.2], ⟨lv + 1, L, E⟩⟩] (by simp -implicitDefEqProofs [GOver.cs, g0, w0a, w0b, w0c, w1a, w1b, w1c]) (claims_cons (go_strings_Cut_s91_ok _ _ _ q36 _) claims_nil) ?_
                        refine satO_nil (by simp) ?_
                        repeat refine sat_seq ?_
                        refine satO_reg ?_
                        have g0 := hA.get (k := 0) rfl
                        obtain ⟨w0a, w0b, w0c⟩ := hA.whole (j := 0) rfl
                        obtain ⟨w1a, w1b, w1c⟩ := hA.whole (j := 1) rfl
                        refine satO_step 3 [] ⟨an 1 (.str a1 :: .str a2 :: an 7 (v11 :: an 1 (.ptr (lv + 1) i18 0 :: v24 :: .int .i64 x26 :: .str x27 :: .str y35.1 :: .str y35.2.1 :: .bool y35.2.2 :: an 16 (.sl 3 (a0.map GOver.el) false :: .int .i64 (a0.length : Int) :: .int .i64 x13 :: an 6 (v24 :: .int .i64 (y19.length : Int) :: .int .i64 x26 :: .bool (decide (x26 < (y19.length : Int))) :: .int .i64 x26 :: p30 0 :: .str x27 :: .tup [.str y35.1, .str y35.2.1, .bool y35.2.2] :: .str x27 :: .tup [.str y35.1, .str y35.2.1, .bool y35.2.2] :: .str y35.1 :: .str y35.2.1 :: .bool y35.2.2 :: .str y35.1 :: .str a1 :: .bool (y35.1 == a1) :: an 34 []))))), ⟨lv + 1, L, E⟩, [], E⟩ [] (by simp -implicitDefEqProofs [GOver.cs, g0, w0a, w0b, w0c, w1a, w1b, w1c]) claims_nil ?_
                        refine satO_nil (by simp) ?_
                        repeat refine sat_seq ?_
                        refine sat_meet (fun σ => ∃ (k : Nat), k ≤ n ∧ ∃ (v37 : V) (l38 : List (List UInt8)) (L : List (Option AObj)), AccG (lv + 1) L [⟨9, 1, v37, l38.map V.str, true⟩, ⟨32, 3, v11, l12.map GOver.el, true⟩] [(i18, .cells x14.cs)] ∧ go_edit_Follow_J2 k a0 a1 a2 l12 x13 x14 y19 x26 l38 = some r ∧ σ = ⟨an 1 (.str a1 :: .str a2 :: an 7 (v11 :: an 1 (.ptr (lv + 1) i18 0 :: v37 :: an 21 (.sl 3 (a0.map GOver.el) false :: .int .i64 (a0.length : Int) :: .int .i64 x13 :: an 6 (v37 :: .int .i64 (y19.length : Int) :: .int .i64 x26 :: an 47 []))))), ⟨lv + 1, L, E⟩, [], E⟩) ?_ ?_
                        · refine sat_cond rfl (fun hb => ?_) (fun hb => ?_)
                          · have h := ite_t hb h
                            repeat refine sat_seq ?_
                            refine satO_reg ?_
                            obtain ⟨x39, q40, h⟩ := bnd_hi h
                            obtain ⟨q40, q41⟩ := ix_some q40
                            obtain ⟨p42, q43, q44, q45, q46⟩ := hA.put (P := Tryd.prog) (j := 0) rfl Tryd.underlying37 (by simp) (by simp) q40 (x := V.str x39) (by rw [List.getElem?_map, q41]; rfl) E
                            have g0 := hA.get (k := 0) rfl
                            obtain ⟨w0a, w0b, w0c⟩ := hA.whole (j := 0) rfl
                            obtain ⟨w1a, w1b, w1c⟩ := hA.whole (j := 1) rfl
                            refine satO_step 4 [] ⟨an 1 (.str a1 :: .str a2 :: an 7 (v11 :: an 1 (.ptr (lv + 1) i18 0 :: v24 :: .int .i64 x26 :: .str x27 :: .str y35.1 :: .str y35.2.1 :: .bool y35.2.2 :: an 16 (.sl 3 (a0.map GOver.el) false :: .int .i64 (a0.length : Int) :: .int .i64 x13 :: an 6 (v24 :: .int .i64 (y19.length : Int) :: .int .i64 x26 :: .bool (decide (x26 < (y19.length : Int))) :: .int .i64 x26 :: p30 0 :: .str x27 :: .tup [.str y35.1, .str y35.2.1, .bool y35.2.2] :: .str x27 :: .tup [.str y35.1, .str y35.2.1, .bool y35.2.2] :: .str y35.1 :: .str y35.2.1 :: .bool y35.2.2 :: .str y35.1 :: .str a1 :: .bool (y35.1 == a1) :: v24 :: .int .i64 x26 :: .str a2 :: p42 0 :: an 30 []))))), ⟨lv + 1, L, E⟩, [], E⟩ [] (by simp -implicitDefEqProofs [GOver.cs, g0, w0a, w0b, w0c, w1a, w1b, w1c, q43, q44, q45]) claims_nil ?_
                            have g0 := hA.get (k := 0) rfl
                            obtain ⟨w0a, w0b, w0c⟩ := hA.whole (j := 0) rfl
                            obtain ⟨w1a, w1b, w1c⟩ := hA.whole (j := 1) rfl
                            obtain ⟨L, q47, hA⟩ := q46 9 0 (.str a2) (by simp) (by simp) (by simp) (by simp) (by simp)
                            refine satO_step 1 [] ⟨an 1 (.str a1 :: .str a2 :: an 7 (v11 :: an 1 (.ptr (lv + 1) i18 0 :: v24 :: .int .i64 x26 :: .str x27 :: .str y35.1 :: .str y35.2.1 :: .bool y35.2.2 :: an 16 (.sl 3 (a0.map GOver.el) false :: .int .i64 (a0.length : Int) :: .int .i64 x13 :: an 6 (v24 :: .int .i64 (y19.length : Int) :: .int .i64 x26 :: .bool (decide (x26 < (y19.length : Int))) :: .int .i64 x26 :: p30 0 :: .str x27 :: .tup [.str y35.1, .str y35.2.1, .bool y35.2.2] :: .str x27 :: .tup [.str y35.1, .str y35.2.1, .bool y35.2.2] :: .str y35.1 :: .str y35.2.1 :: .bool y35.2.2 :: .str y35.1 :: .str a1 :: .bool (y35.1 == a1) :: v24 :: .int .i64 x26 :: .str a2 :: p42 0 :: an 30 []))))), ⟨lv + 1, L, E⟩, [], E⟩ [] (by simp -implicitDefEqProofs [-hStore, q47, g0, w0a, w0b, w0c, w1a, w1b, w1c]) claims_nil ?_
                            have hA : AccG (lv + 1) L [⟨9, 1, v24, (l25.set (x26).toNat a2).map V.str, true⟩, ⟨32, 3, v11, l12.map GOver.el, true⟩] [(i18, .cells x14.cs)] := by simpa [List.map_set] using hA
                            refine satO_nil (by simp) ?_
                            repeat refine sat_seq ?_
                            refine satO_reg ?_
                            have g0 := hA.get (k := 0) rfl
                            obtain ⟨w0a, w0b, w0c⟩ := hA.whole (j := 0) rfl
                            obtain ⟨w1a, w1b, w1c⟩ := hA.whole (j := 1) rfl
                            refine satO_step 1 [] ⟨an 1 (.str a1 :: .str a2 :: an 7 (v11 :: an 1 (.ptr (lv + 1) i18 0 :: v24 :: .int .i64 x26 :: .str x27 :: .str y35.1 :: .str y35.2.1 :: .bool y35.2.2 :: an 16 (.sl 3 (a0.map GOver.el) false :: .int .i64 (a0.length : Int) :: .int .i64 x13 :: an 6 (v24 :: .int .i64 (y19.length : Int) :: .int .i64 x26 :: .bool (decide (x26 < (y19.length : Int))) :: .int .i64 x26 :: p30 0 :: .str x27 :: .tup [.str y35.1, .str y35.2.1, .bool y35.2.2] :: .str x27 :: .tup [.str y35.1, .str y35.2.1, .bool y35.2.2] :: .str y35.1 :: .str y35.2.1 :: .bool y35.2.2 :: .str y35.1 :: .str a1 :: .bool (y35.1 == a1) :: v24 :: .int .i64 x26 :: .str a2 :: p42 0 :: .bool y35.2.2 :: an 29 []))))), ⟨lv + 1, L, E⟩, [], E⟩ [] (by simp -implicitDefEqProofs [GOver.cs, g0, w0a, w0b, w0c, w1a, w1b, w1c]) claims_nil ?_
                            refine satO_nil (by simp) ?_
                            repeat refine sat_seq ?_
                            refine sat_meet (fun σ => ∃ (k : Nat), k ≤ n ∧ ∃ (v48 : V) (l49 : List (List UInt8)) (L : List (Option AObj)), AccG (lv + 1) L [⟨9, 1, v48, l49.map V.str, true⟩, ⟨32, 3, v11, l12.map GOver.el, true⟩] [(i18, .cells x14.cs)] ∧ go_edit_Follow_J3 k a0 a1 a2 l12 x13 x14 y19 x26 l49 = some r ∧ σ = ⟨an 1 (.str a1 :: .str a2 :: an 7 (v11 :: an 1 (.ptr (lv + 1) i18 0 :: v48 :: an 21 (.sl 3 (a0.map GOver.el) false :: .int .i64 (a0.length : Int) :: .int .i64 x13 :: an 6 (v48 :: .int .i64 (y19.length : Int) :: .int .i64 x26 :: an 47 []))))), ⟨lv + 1, L, E⟩, [], E⟩) ?_ ?_
                            · refine sat_cond rfl (fun hb => ?_) (fun hb => ?_)
                              · have h := ite_t hb h
                                repeat refine sat_seq ?_
                                refine satO_reg ?_
                                obtain ⟨x50, q51, h⟩ := bnd_hi h
                                obtain ⟨q51, q52⟩ := ix_some q51
                                obtain ⟨p53, q54, q55, q56, q57⟩ := hA.put (P := Tryd.prog) (j := 0) rfl Tryd.underlying37 (by simp) (by simp) q51 (x := V.str x50) (by rw [List.getElem?_map, q52]; rfl) E
                                obtain ⟨x58, q59, h⟩ := bnd_hi h
                                obtain ⟨q59, q60⟩ := cat_some q59
                                simp only [List.length_cons, List.length_nil, Nat.zero_add, Nat.reduceAdd] at q59
                                obtain ⟨x61, q62, h⟩ := bnd_hi h
                                obtain ⟨q62, q63⟩ := cat_some q62
                                have q64 := q62
                                try simp [q60] at q64
                                have g0 := hA.get (k := 0) rfl
                                obtain ⟨w0a, w0b, w0c⟩ := hA.whole (j := 0) rfl
                                obtain ⟨w1a, w1b, w1c⟩ := hA.whole (j := 1) rfl
                                refine satO_step 8 [] ⟨an 1 (.str a1 :: .str a2 :: an 7 (v11 :: an 1 (.ptr (lv + 1) i18 0 :: v24 :: .int .i64 x26 :: .str x27 :: .str y35.1 :: .str y35.2.1 :: .bool y35.2.2 :: an 16 (.sl 3 (a0.map GOver.el) false :: .int .i64 (a0.length : Int) :: .int .i64 x13 :: an 6 (v24 :: .int .i64 (y19.length : Int) :: .int .i64 x26 :: .bool (decide (x26 < (y19.length : Int))) :: .int .i64 x26 :: p30 0 :: .str x27 :: .tup [.str y35.1, .str y35.2.1, .bool y35.2.2] :: .str x27 :: .tup [.str y35.1, .str y35.2.1, .bool y35.2.2] :: .str y35.1 :: .str y35.2.1 :: .bool y35.2.2 :: .str y35.1 :: .str a1 :: .bool (y35.1 == a1) :: v24 :: .int .i64 x26 :: .str a2 :: p42 0 :: .bool y35.2.2 :: v24 :: .int .i64 x26 :: p53 0 :: .str x50 :: .str y35.2.1 :: .str x58 :: .str x61 :: p53 0 :: an 21 []))))), ⟨lv + 1, L, E⟩, [], E⟩ [] (by simp -implicitDefEqProofs [GOver.cs, g0, w0a, w0b, w0c, w1a, w1b, w1c, q54, q55, q56, q59, q60, q62, q63, q64]) claims_nil ?_
                                have g0 := hA.get (k := 0) rfl
                                obtain ⟨w0a, w0b, w0c⟩ := hA.whole (j := 0) rfl
                                obtain ⟨w1a, w1b, w1c⟩ := hA.whole (j := 1) rfl
                                obtain ⟨L, q65, hA⟩ := q57 9 0 (.str x61) (by simp) (by simp) (by simp) (by simp) (by simp)
                                refine satO_step 1 [] ⟨an 1 (.str a1 :: .str a2 :: an 7 (v11 :: an 1 (.ptr (lv + 1) i18 0 :: v24 :: .int .i64 x26 :: .str x27 :: .str y35.1 :: .str y35.2.1 :: .bool y35.2.2 :: an 16 (.sl 3 (a0.map GOver.el) false :: .int .i64 (a0.length : Int) :: .int .i64 x13 :: an 6 (v24 :: .int .i64 (y19.length : Int) :: .int .i64 x26 :: .bool (decide (x26 < (y19.length : Int))) :: .int .i64 x26 :: p30 0 :: .str x27 :: .tup [.str y35.1, .str y35.2.1, .bool y35.2.2] :: .str x27 :: .tup [.str y35.1, .str y35.2.1, .bool y35.2.2] :: .str y35.1 :: .str y35.2.1 :: .bool y35.2.2 :: .str y35.1 :: .str a1 :: .bool (y35.1 == a1) :: v24 :: .int .i64 x26 :: .str a2 :: p42 0 :: .bool y35.2.2 :: v24 :: .int .i64 x26 :: p53 0 :: .str x50 :: .str y35.2.1 :: .str x58 :: .str x61 :: p53 0 :: an 21 []))))), ⟨lv + 1, L, E⟩, [], E⟩ [] (by simp -implicitDefEqProofs [-hStore, q65, g0, w0a, w0b, w0c, w1a, w1b, w1c]) claims_nil ?_
                                have hA : AccG (lv + 1) L [⟨9, 1, v24, ((l25.set (x26).toNat a2).set (x26).toNat x61).map V.str, true⟩, ⟨32, 3, v11, l12.map GOver.el, true⟩] [(i18, .cells x14.cs)] := by simpa [List.map_set] using hA
                                refine satO_nil (by simp) ?_
                                refine ⟨⟨an 1 (.str a1 :: .str a2 :: an 7 (v11 :: an 1 (.ptr (lv + 1) i18 0 :: v24 :: an 21 (.sl 3 (a0.map GOver.el) false :: .int .i64 (a0.length : Int) :: .int .i64 x13 :: an 6 (v24 :: .int .i64 (y19.length : Int) :: .int .i64 x26 :: an 47 []))))), ⟨lv + 1, L, E⟩, [], E⟩, weak_tmps ?_, n, by omega, v24, ((l25.set (x26).toNat a2).set (x26).toNat x61), L, hA, h, rfl⟩
                                (try simp only [an, List.map_cons, List.map_nil]); repeat (first | exact VLeL.nil | refine VLeL.cons (by first | exact VLe.refl _ | exact VLe.any _ | exact VLe.nil _ _ | exact VLe.full _ _ | (refine VLe.agg' ?_; repeat (first | exact VLeL.nil | refine VLeL.cons (by first | exact VLe.refl _ | exact VLe.any _ | exact VLe.nil _ _) ?_))) ?_)
                              · have h := ite_f hb h
                                repeat refine sat_seq ?_
                                refine sat_skip ?_
                                refine ⟨⟨an 1 (.str a1 :: .str a2 :: an 7 (v11 :: an 1 (.ptr (lv + 1) i18 0 :: v24 :: an 21 (.sl 3 (a0.map GOver.el) false :: .int .i64 (a0.length : Int) :: .int .i64 x13 :: an 6 (v24 :: .int .i64 (y19.length : Int) :: .int .i64 x26 :: an 47 []))))), ⟨lv + 1, L, E⟩, [], E⟩, weak_tmps ?_, n, by omega, v24, (l25.set (x26).toNat a2), L, hA, h, rfl⟩
                                (try simp only [an, List.map_cons, List.map_nil]); repeat (first | exact VLeL.nil | refine VLeL.cons (by first | exact VLe.refl _ | exact VLe.any _ | exact VLe.nil _ _ | exact VLe.full _ _ | (refine VLe.agg' ?_; repeat (first | exact VLeL.nil | refine VLeL.cons (by first | exact VLe.refl _ | exact VLe.any _ | exact VLe.nil _ _) ?_))) ?_)
                            · rintro σ0 σ hw ⟨k, hk, v48, l49, L, hA, h, rfl⟩
                              rcases k with _ | n
                              · simp [go_edit_Follow_J3] at h
                              · rw [go_edit_Follow_J3] at h
                                refine ⟨⟨an 1 (.str a1 :: .str a2 :: an 7 (v11 :: an 1 (.ptr (lv + 1) i18 0 :: v48 :: an 21 (.sl 3 (a0.map GOver.el) false :: .int .i64 (a0.length : Int) :: .int .i64 x13 :: an 6 (v48 :: .int .i64 (y19.length : Int) :: .int .i64 x26 :: an 47 []))))), ⟨lv + 1, L, E⟩, [], E⟩, hw.trans (weak_tmps ?_), n, by omega, v48, l49, L, hA, h, rfl⟩
                                (try simp only [an, List.map_cons, List.map_nil]); repeat (first | exact VLeL.nil | refine VLeL.cons (by first | exact VLe.refl _ | exact VLe.any _ | exact VLe.nil _ _ | exact VLe.full _ _ | (refine VLe.agg' ?_; repeat (first | exact VLeL.nil | refine VLeL.cons (by first | exact VLe.refl _ | exact VLe.any _ | exact VLe.nil _ _) ?_))) ?_)
                          · have h := ite_f hb h
                            repeat refine sat_seq ?_
                            refine sat_skip ?_
                            refine ⟨⟨an 1 (.str a1 :: .str a2 :: an 7 (v11 :: an 1 (.ptr (lv + 1) i18 0 :: v24 :: an 21 (.sl 3 (a0.map GOver.el) false :: .int .i64 (a0.length : Int) :: .int .i64 x13 :: an 6 (v24 :: .int .i64 (y19.length : Int) :: .int .i64 x26 :: an 47 []))))), ⟨lv + 1, L, E⟩, [], E⟩, weak_tmps ?_, n, by omega, v24, l25, L, hA, h, rfl⟩
                            (try simp only [an, List.map_cons, List.map_nil]); repeat (first | exact VLeL.nil | refine VLeL.cons (by first | exact VLe.refl _ | exact VLe.any _ | exact VLe.nil _ _ | exact VLe.full _ _ | (refine VLe.agg' ?_; repeat (first | exact VLeL.nil | refine VLeL.cons (by first | exact VLe.refl _ | exact VLe.any _ | exact VLe.nil _ _) ?_))) ?_)
                        · rintro σ0 σ hw ⟨k, hk, v37, l38, L, hA, h, rfl⟩
                          rcases k with _ | n
                          · simp [go_edit_Follow_J2] at h
                          · rw [go_edit_Follow_J2] at h
                            refine sat_weak hw ?_
                            repeat refine sat_seq ?_
                            refine satO_reg ?_
                            have g0 := hA.get (k := 0) rfl
                            obtain ⟨w0a, w0b, w0c⟩ := hA.whole (j := 0) rfl
                            obtain ⟨w1a, w1b, w1c⟩ := hA.whole (j := 1) rfl
                            refine satO_step 2 [] ⟨an 1 (.str a1 :: .str a2 :: an 7 (v11 :: an 1 (.ptr (lv + 1) i18 0 :: v37 :: an 21 (.sl 3 (a0.map GOver.el) false :: .int .i64 (a0.length : Int) :: .int .i64 x13 :: an 6 (v37 :: .int .i64 (y19.length : Int) :: .int .i64 (IntKind.i64.wrap (x26 + 1)) :: an 26 (.int .i64 (IntKind.i64.wrap (x26 + 1)) :: an 20 [])))))), ⟨lv + 1, L, E⟩, [], E⟩ [] (by simp -implicitDefEqProofs [GOver.cs, g0, w0a, w0b, w0c, w1a, w1b, w1c]) claims_nil ?_
                            refine satO_nil (by simp) ?_
                            refine ⟨n, ⟨an 1 (.str a1 :: .str a2 :: an 7 (v11 :: an 1 (.ptr (lv + 1) i18 0 :: v37 :: an 21 (.sl 3 (a0.map GOver.el) false :: .int .i64 (a0.length : Int) :: .int .i64 x13 :: an 6 (v37 :: .int .i64 (y19.length : Int) :: .int .i64 (IntKind.i64.wrap (x26 + 1)) :: an 47 []))))), ⟨lv + 1, L, E⟩, [], E⟩, weak_tmps ?_, ⟨(IntKind.i64.wrap (x26 + 1)), v37, l38, L, by omega, hA, h, rfl⟩, by omega⟩
                            (try simp only [an, List.map_cons, List.map_nil]); repeat (first | exact VLeL.nil | refine VLeL.cons (by first | exact VLe.refl _ | exact VLe.any _ | exact VLe.nil _ _ | exact VLe.full _ _ | (refine VLe.agg' ?_; repeat (first | exact VLeL.nil | refine VLeL.cons (by first | exact VLe.refl _ | exact VLe.any _ | exact VLe.nil _ _) ?_))) ?_)
                      · have h := ite_f hb h
                        repeat refine sat_seq ?_
                        refine sat_exit ?_
                        repeat refine sat_seq ?_
                        obtain ⟨L, hA, hw0⟩ := hA.freeze (j := 0) rfl (t := an 1 (.str a1 :: .str a2 :: an 7 (v11 :: an 1 (.ptr (lv + 1) i18 0 :: v24 :: an 21 (.sl 3 (a0.map GOver.el) false :: .int .i64 (a0.length : Int) :: .int .i64 x13 :: an 6 (v24 :: .int .i64 (y19.length : Int) :: .int .i64 x26 :: .bool (decide (x26 < (y19.length : Int))) :: an 46 [])))))) (t' := an 1 (.str a1 :: .str a2 :: an 7 (v11 :: an 1 (.ptr (lv + 1) i18 0 :: .sl 1 (l25.map V.str) false :: an 21 (.sl 3 (a0.map GOver.el) false :: .int .i64 (a0.length : Int) :: .int .i64 x13 :: an 6 (.sl 1 (l25.map V.str) false :: .int .i64 (y19.length : Int) :: .int .i64 x26 :: .bool (decide (x26 < (y19.length : Int))) :: an 46 [])))))) (os' := [(i18, .cells x14.cs)]) (by (try simp only [an]); repeat (first | exact FVL.nil | refine FVL.cons (by first | exact FV.keep _ | exact FV.it | exact FV.any _ | (refine FV.agg' ?_; repeat (first | exact FVL.nil | refine FVL.cons (by first | exact FV.keep _ | exact FV.it | exact FV.any _) ?_))) ?_)) (.refl _) E E
                        have hA : AccG (lv + 1) L [⟨32, 3, v11, l12.map GOver.el, true⟩] [(i18, .cells x14.cs)] := hA
                        refine sat_weak hw0 ?_
                        clear hw0
                        repeat refine sat_seq ?_
                        refine satO_reg ?_
                        obtain ⟨y66, q67, h⟩ := bnd_hi h
                        have g0 := hA.get (k := 0) rfl
                        obtain ⟨w0a, w0b, w0c⟩ := hA.whole (j := 0) rfl
                        refine satO_step 3 [(.str y66, none)] ⟨an 1 (.str a1 :: .str a2 :: an 7 (v11 :: an 1 (.ptr (lv + 1) i18 0 :: .sl 1 (l25.map V.str) false :: an 21 (.sl 3 (a0.map GOver.el) false :: .int .i64 (a0.length : Int) :: .int .i64 x13 :: an 6 (.sl 1 (l25.map V.str) false :: .int .i64 (y19.length : Int) :: .int .i64 x26 :: .bool (decide (x26 < (y19.length : Int))) :: an 26 (.sl 1 (l25.map V.str) false :: .str y66 :: .ptr (lv + 1) i18 0 :: an 17 [])))))), ⟨lv + 1, L, E⟩, [], E⟩ [⟨12, [.sl 1 (l25.map V.str) false, .str ([47])], ⟨lv + 1, L, E⟩, .str y66, ⟨lv + 1, L, E⟩⟩] (by simp -implicitDefEqProofs [GOver.cs, g0, w0a, w0b, w0c]) (claims_cons (go_strings_Join_s47_ok _ _ _ q67 _) claims_nil) ?_
                        have g0 := hA.get (k := 0) rfl
                        obtain ⟨w0a, w0b, w0c⟩ := hA.whole (j := 0) rfl
                        refine satO_step 1 [] ⟨an 1 (.str a1 :: .str a2 :: an 7 (v11 :: an 1 (.ptr (lv + 1) i18 0 :: .sl 1 (l25.map V.str) false :: an 21 (.sl 3 (a0.map GOver.el) false :: .int .i64 (a0.length : Int) :: .int .i64 x13 :: an 6 (.sl 1 (l25.map V.str) false :: .int .i64 (y19.length : Int) :: .int .i64 x26 :: .bool (decide (x26 < (y19.length : Int))) :: an 26 (.sl 1 (l25.map V.str) false :: .str y66 :: .ptr (lv + 1) i18 0 :: an 17 [])))))), ⟨lv + 1, (L.set i18 (some (.cells [.str y66, .int .u8 x14.kind, .str x14.name]))), E⟩, [], E⟩ [] (by simp -implicitDefEqProofs [GOver.cs, g0, w0a, w0b, w0c]) claims_nil ?_
                        have hA : AccG (lv + 1) (L.set i18 (some (.cells [.str y66, .int .u8 x14.kind, .str x14.name]))) [⟨32, 3, v11, l12.map GOver.el, true⟩] [(i18, .cells [.str y66, .int .u8 x14.kind, .str x14.name])] := hA.upd (k := 0) rfl _
                        generalize (L.set i18 (some (.cells [.str y66, .int .u8 x14.kind, .str x14.name]))) = L at hA ⊢
                        refine satO_nil (by simp) ?_
                        repeat refine sat_seq ?_
                        refine sat_meet (fun σ => ∃ (k : Nat), k ≤ n ∧ ∃ (x68 : Bool) (L : List (Option AObj)), AccG (lv + 1) L [⟨32, 3, v11, l12.map GOver.el, true⟩] [(i18, .cells [.str y66, .int .u8 x14.kind, .str x14.name])] ∧ go_edit_Follow_J4 k a0 a1 a2 l12 x13 x14 y66 x68 = some r ∧ σ = ⟨an 1 (.str a1 :: .str a2 :: an 7 (v11 :: an 1 (.ptr (lv + 1) i18 0 :: an 22 (.sl 3 (a0.map GOver.el) false :: .int .i64 (a0.length : Int) :: .int .i64 x13 :: an 47 (.bool x68 :: an 8 []))))), ⟨lv + 1, L, E⟩, [], E⟩) ?_ ?_
                        · refine satO_reg ?_
                          rcases Bool.eq_false_or_eq_true (x14.kind == 2) with hg69 | hg70
                          · have h := ite_t hg69 h
                            have hg69n := hg69
                            try simp at hg69n
                            have g0 := hA.get (k := 0) rfl
                            obtain ⟨w0a, w0b, w0c⟩ := hA.whole (j := 0) rfl
                            refine satO_step 9 [] ⟨an 1 (.str a1 :: .str a2 :: an 7 (v11 :: an 1 (.ptr (lv + 1) i18 0 :: .sl 1 (l25.map V.str) false :: an 21 (.sl 3 (a0.map GOver.el) false :: .int .i64 (a0.length : Int) :: .int .i64 x13 :: an 6 (.sl 1 (l25.map V.str) false :: .int .i64 (y19.length : Int) :: .int .i64 x26 :: .bool (decide (x26 < (y19.length : Int))) :: an 26 (.sl 1 (l25.map V.str) false :: .str y66 :: .ptr (lv + 1) i18 0 :: .ptr (lv + 1) i18 1 :: .int .u8 x14.kind :: .bool (x14.kind == 2) :: .bool (x14.kind == 2) :: .ptr (lv + 1) i18 2 :: .str x14.name :: .str a1 :: .bool (x14.name == a1) :: .bool (x14.name == a1) :: an 8 [])))))), ⟨lv + 1, L, E⟩, [], E⟩ [] (by first | (simp -implicitDefEqProofs [GOver.cs, g0, w0a, w0b, w0c, hg69]; done) | simp -implicitDefEqProofs [GOver.cs, g0, w0a, w0b, w0c, hg69, hg69n]) claims_nil ?_
                            refine satO_nil (by simp) ?_
                            refine ⟨⟨an 1 (.str a1 :: .str a2 :: an 7 (v11 :: an 1 (.ptr (lv + 1) i18 0 :: an 22 (.sl 3 (a0.map GOver.el) false :: .int .i64 (a0.length : Int) :: .int .i64 x13 :: an 47 (.bool (x14.name == a1) :: an 8 []))))), ⟨lv + 1, L, E⟩, [], E⟩, weak_tmps ?_, n, by omega, (x14.name == a1), L, hA, h, rfl⟩
                            (try simp only [an, List.map_cons, List.map_nil]); repeat (first | exact VLeL.nil | refine VLeL.cons (by first | exact VLe.refl _ | exact VLe.any _ | exact VLe.nil _ _ | exact VLe.full _ _ | (refine VLe.agg' ?_; repeat (first | exact VLeL.nil | refine VLeL.cons (by first | exact VLe.refl _ | exact VLe.any _ | exact VLe.nil _ _) ?_))) ?_)
                          · have h := ite_f hg70 h
                            have hg70n := hg70
                            try simp at hg70n
                            have g0 := hA.get (k := 0) rfl
                            obtain ⟨w0a, w0b, w0c⟩ := hA.whole (j := 0) rfl
                            refine satO_step 9 [] ⟨an 1 (.str a1 :: .str a2 :: an 7 (v11 :: an 1 (.ptr (lv + 1) i18 0 :: .sl 1 (l25.map V.str) false :: an 21 (.sl 3 (a0.map GOver.el) false :: .int .i64 (a0.length : Int) :: .int .i64 x13 :: an 6 (.sl 1 (l25.map V.str) false :: .int .i64 (y19.length : Int) :: .int .i64 x26 :: .bool (decide (x26 < (y19.length : Int))) :: an 26 (.sl 1 (l25.map V.str) false :: .str y66 :: .ptr (lv + 1) i18 0 :: .ptr (lv + 1) i18 1 :: .int .u8 x14.kind :: .bool (x14.kind == 2) :: .bool (x14.kind == 2) :: .tup [] :: .tup [] :: .tup [] :: .tup [] :: .bool false :: an 8 [])))))), ⟨lv + 1, L, E⟩, [], E⟩ [] (by first | (simp -implicitDefEqProofs [GOver.cs, g0, w0a, w0b, w0c, hg70]; done) | simp -implicitDefEqProofs [GOver.cs, g0, w0a, w0b, w0c, hg70, hg70n]) claims_nil ?_
                            refine satO_nil (by simp) ?_
                            refine ⟨⟨an 1 (.str a1 :: .str a2 :: an 7 (v11 :: an 1 (.ptr (lv + 1) i18 0 :: an 22 (.sl 3 (a0.map GOver.el) false :: .int .i64 (a0.length : Int) :: .int .i64 x13 :: an 47 (.bool false :: an 8 []))))), ⟨lv + 1, L, E⟩, [], E⟩, weak_tmps ?_, n, by omega, false, L, hA, h, rfl⟩
                            (try simp only [an, List.map_cons, List.map_nil]); repeat (first | exact VLeL.nil | refine VLeL.cons (by first | exact VLe.refl _ | exact VLe.any _ | exact VLe.nil _ _ | exact VLe.full _ _ | (refine VLe.agg' ?_; repeat (first | exact VLeL.nil | refine VLeL.cons (by first | exact VLe.refl _ | exact VLe.any _ | exact VLe.nil _ _) ?_))) ?_)
                        · rintro σ0 σ hw ⟨k, hk, x68, L, hA, h, rfl⟩
                          rcases k with _ | n
                          · simp [go_edit_Follow_J4] at h
                          · rw [go_edit_Follow_J4] at h
                            refine sat_weak hw ?_
                            repeat refine sat_seq ?_
                            refine sat_meet (fun σ => ∃ (k : Nat), k ≤ n ∧ ∃ (x71 : List UInt8) (L : List (Option AObj)), AccG (lv + 1) L [⟨32, 3, v11, l12.map GOver.el, true⟩] [(i18, .cells [.str y66, .int .u8 x14.kind, .str x71])] ∧ go_edit_Follow_J5 k a0 a1 a2 l12 x13 x14 y66 x71 = some r ∧ σ = ⟨an 1 (.str a1 :: .str a2 :: an 7 (v11 :: an 1 (.ptr (lv + 1) i18 0 :: an 22 (.sl 3 (a0.map GOver.el) false :: .int .i64 (a0.length : Int) :: .int .i64 x13 :: an 56 [])))), ⟨lv + 1, L, E⟩, [], E⟩) ?_ ?_
                            · refine sat_cond rfl (fun hb => ?_) (fun hb => ?_)
                              · have h := ite_t hb h
                                repeat refine sat_seq ?_
                                refine satO_reg ?_
                                have g0 := hA.get (k := 0) rfl
                                obtain ⟨w0a, w0b, w0c⟩ := hA.whole (j := 0) rfl
                                refine satO_step 2 [] ⟨an 1 (.str a1 :: .str a2 :: an 7 (v11 :: an 1 (.ptr (lv + 1) i18 0 :: an 22 (.sl 3 (a0.map GOver.el) false :: .int .i64 (a0.length : Int) :: .int .i64 x13 :: an 47 (.bool x68 :: .str a2 :: .ptr (lv + 1) i18 2 :: an 6 []))))), ⟨lv + 1, L, E⟩, [], E⟩ [] (by simp -implicitDefEqProofs [GOver.cs, g0, w0a, w0b, w0c]) claims_nil ?_
                                have g0 := hA.get (k := 0) rfl
                                obtain ⟨w0a, w0b, w0c⟩ := hA.whole (j := 0) rfl
                                refine satO_step 1 [] ⟨an 1 (.str a1 :: .str a2 :: an 7 (v11 :: an 1 (.ptr (lv + 1) i18 0 :: an 22 (.sl 3 (a0.map GOver.el) false :: .int .i64 (a0.length : Int) :: .int .i64 x13 :: an 47 (.bool x68 :: .str a2 :: .ptr (lv + 1) i18 2 :: an 6 []))))), ⟨lv + 1, (L.set i18 (some (.cells [.str y66, .int .u8 x14.kind, .str a2]))), E⟩, [], E⟩ [] (by simp -implicitDefEqProofs [GOver.cs, g0, w0a, w0b, w0c]) claims_nil ?_
                                have hA : AccG (lv + 1) (L.set i18 (some (.cells [.str y66, .int .u8 x14.kind, .str a2]))) [⟨32, 3, v11, l12.map GOver.el, true⟩] [(i18, .cells [.str y66, .int .u8 x14.kind, .str a2])] := hA.upd (k := 0) rfl _
                                generalize (L.set i18 (some (.cells [.str y66, .int .u8 x14.kind, .str a2]))) = L at hA ⊢
                                refine satO_nil (by simp) ?_
                                refine ⟨⟨an 1 (.str a1 :: .str a2 :: an 7 (v11 :: an 1 (.ptr (lv + 1) i18 0 :: an 22 (.sl 3 (a0.map GOver.el) false :: .int .i64 (a0.length : Int) :: .int .i64 x13 :: an 56 [])))), ⟨lv + 1, L, E⟩, [], E⟩, weak_tmps ?_, n, by omega, a2, L, hA, h, rfl⟩
                                (try simp only [an, List.map_cons, List.map_nil]); repeat (first | exact VLeL.nil | refine VLeL.cons (by first | exact VLe.refl _ | exact VLe.any _ | exact VLe.nil _ _ | exact VLe.full _ _ | (refine VLe.agg' ?_; repeat (first | exact VLeL.nil | refine VLeL.cons (by first | exact VLe.refl _ | exact VLe.any _ | exact VLe.nil _ _) ?_))) ?_)
                              · have h := ite_f hb h
                                repeat refine sat_seq ?_
                                refine sat_skip ?_
                                refine ⟨⟨an 1 (.str a1 :: .str a2 :: an 7 (v11 :: an 1 (.ptr (lv + 1) i18 0 :: an 22 (.sl 3 (a0.map GOver.el) false :: .int .i64 (a0.length : Int) :: .int .i64 x13 :: an 56 [])))), ⟨lv + 1, L, E⟩, [], E⟩, weak_tmps ?_, n, by omega, x14.name, L, hA, h, rfl⟩
                                (try simp only [an, List.map_cons, List.map_nil]); repeat (first | exact VLeL.nil | refine VLeL.cons (by first | exact VLe.refl _ | exact VLe.any _ | exact VLe.nil _ _ | exact VLe.full _ _ | (refine VLe.agg' ?_; repeat (first | exact VLeL.nil | refine VLeL.cons (by first | exact VLe.refl _ | exact VLe.any _ | exact VLe.nil _ _) ?_))) ?_)
                            · rintro σ0 σ hw ⟨k, hk, x71, L, hA, h, rfl⟩
                              rcases k with _ | n
                              · simp [go_edit_Follow_J5] at h
                              · rw [go_edit_Follow_J5] at h
                                refine sat_weak hw ?_
                                repeat refine sat_seq ?_
                                refine satO_reg ?_
                                have g0 := hA.get (k := 0) rfl
                                obtain ⟨w0a, w0b, w0c⟩ := hA.whole (j := 0) rfl
                                refine satO_step 3 [] ⟨an 1 (.str a1 :: .str a2 :: an 7 (v11 :: an 1 (.ptr (lv + 1) i18 0 :: an 22 (.sl 3 (a0.map GOver.el) false :: .int .i64 (a0.length : Int) :: .int .i64 x13 :: an 50 (v11 :: .agg [.str y66, .int .u8 x14.kind, .str x71] :: .sl 3 [.agg [.str y66, .int .u8 x14.kind, .str x71]] true :: an 3 []))))), ⟨lv + 1, L, E⟩, [], E⟩ [] (by simp -implicitDefEqProofs [GOver.cs, g0, w0a, w0b, w0c]) claims_nil ?_
                                obtain ⟨l72, q73, h⟩ := bnd_hi h
                                obtain ⟨q73, q74⟩ := ext_some q73
                                obtain ⟨v75, L, q76, hA⟩ := hA.push (j := 0) rfl [.agg [.str y66, .int .u8 x14.kind, .str x71]] (by simpa using q73) E
                                refine satO_step 1 [] ⟨an 1 (.str a1 :: .str a2 :: an 7 (v11 :: an 1 (.ptr (lv + 1) i18 0 :: an 22 (.sl 3 (a0.map GOver.el) false :: .int .i64 (a0.length : Int) :: .int .i64 x13 :: an 50 (v11 :: .agg [.str y66, .int .u8 x14.kind, .str x71] :: .sl 3 [.agg [.str y66, .int .u8 x14.kind, .str x71]] true :: v75 :: an 2 []))))), ⟨lv + 1, L, E⟩, [], E⟩ [] (by simp -implicitDefEqProofs [q76]) claims_nil ?_
                                have hA : AccG (lv + 1) L [⟨32, 3, v75, l72.map GOver.el, true⟩] [(i18, .cells [.str y66, .int .u8 x14.kind, .str x71])] := by rw [q74]; first | simpa [GOver.el_cs] using hA | simpa [GOver.el_eq] using hA
                                have g0 := hA.get (k := 0) rfl
                                obtain ⟨w0a, w0b, w0c⟩ := hA.whole (j := 0) rfl
                                refine satO_step 1 [] ⟨an 1 (.str a1 :: .str a2 :: an 7 (v75 :: an 1 (.ptr (lv + 1) i18 0 :: an 22 (.sl 3 (a0.map GOver.el) false :: .int .i64 (a0.length : Int) :: .int .i64 x13 :: an 50 (v11 :: .agg [.str y66, .int .u8 x14.kind, .str x71] :: .sl 3 [.agg [.str y66, .int .u8 x14.kind, .str x71]] true :: v75 :: an 2 []))))), ⟨lv + 1, L, E⟩, [], E⟩ [] (by simp -implicitDefEqProofs [GOver.cs, g0, w0a, w0b, w0c]) claims_nil ?_
                                refine satO_nil (by simp) ?_
                                repeat refine sat_seq ?_
                                refine satO_reg ?_
                                have g0 := hA.get (k := 0) rfl
                                obtain ⟨w0a, w0b, w0c⟩ := hA.whole (j := 0) rfl
                                refine satO_step 2 [] ⟨an 1 (.str a1 :: .str a2 :: an 7 (v75 :: an 1 (.ptr (lv + 1) i18 0 :: an 22 (.sl 3 (a0.map GOver.el) false :: .int .i64 (a0.length : Int) :: .int .i64 (IntKind.i64.wrap (x13 + 1)) :: an 50 (v11 :: .agg [.str y66, .int .u8 x14.kind, .str x71] :: .sl 3 [.agg [.str y66, .int .u8 x14.kind, .str x71]] true :: v75 :: .int .i64 (IntKind.i64.wrap (x13 + 1)) :: an 1 []))))), ⟨lv + 1, L, E⟩, [], E⟩ [] (by simp -implicitDefEqProofs [GOver.cs, g0, w0a, w0b, w0c]) claims_nil ?_
                                refine satO_nil (by simp) ?_
                                have hA : AccG (lv + 1) L [⟨32, 3, v75, l72.map GOver.el, true⟩] [] := hA.sel [0] (by simp) rfl (.cons _ .slnil)
                                refine ⟨n, ⟨an 1 (.str a1 :: .str a2 :: an 7 (v75 :: an 24 (.sl 3 (a0.map GOver.el) false :: .int .i64 (a0.length : Int) :: .int .i64 (IntKind.i64.wrap (x13 + 1)) :: an 56 []))), ⟨lv + 1, L, E⟩, [], E⟩, weak_tmps ?_, ⟨(IntKind.i64.wrap (x13 + 1)), v75, l72, L, by omega, hA, h, rfl⟩, by omega⟩
                                (try simp only [an, List.map_cons, List.map_nil]); repeat (first | exact VLeL.nil | refine VLeL.cons (by first | exact VLe.refl _ | exact VLe.any _ | exact VLe.nil _ _ | exact VLe.full _ _ | (refine VLe.agg' ?_; repeat (first | exact VLeL.nil | refine VLeL.cons (by first | exact VLe.refl _ | exact VLe.any _ | exact VLe.nil _ _) ?_))) ?_)
                · obtain ⟨L, _, _, _, ho⟩ := hp
                  cases ho
              · have h := ite_f hb h
                repeat refine sat_seq ?_
                refine sat_exit ?_
                repeat refine sat_seq ?_
                refine satO_reg ?_
                obtain ⟨w0a, w0b, w0c⟩ := hA.whole (j := 0) rfl
                refine satO_step 3 [] ⟨an 1 (.str a1 :: .str a2 :: an 3 (v11 :: .int .i64 0 :: an 2 (v11 :: an 24 (.sl 3 (a0.map GOver.el) false :: .int .i64 (a0.length : Int) :: .int .i64 x13 :: .bool (decide (x13 < (a0.length : Int))) :: an 54 (v11 :: []))))), ⟨lv + 1, L, E⟩, [], E⟩ [] (by simp -implicitDefEqProofs [GOver.cs, w0a, w0b, w0c]) claims_nil ?_
                refine satO_nil (by simp) ?_
                repeat refine sat_seq ?_
                refine sat_ret ?_
                obtain ⟨w0a, w0b, w0c⟩ := hA.whole (j := 0) rfl
                refine ends (v := .tup [v11, .int .i64 0]) (by simp [resultsV, resL, resV, tupOf, Tryd.f5, pLoad, w0a, w0b, w0c, GOver.cs]) rfl rfl ?_
                injection h with h
                subst h
                exact VS.tup' (.cons (hA.shut (j := 0) rfl (by simp [V.kin, V.kinL, GOver.cs])) (.cons (.keep _ (by simp [V.kin, V.kinL, GOver.cs])) .nil))
end Go.Proofs

namespace Go.Proofs
open Go Go.Ab
set_option maxRecDepth 10000
set_option maxHeartbeats 1000000
set_option linter.unusedSimpArgs false
set_option linter.unusedVariables false
theorem go_ref02_Cut_ok (n : Nat) (a0 : List UInt8) (r : (List (List UInt8))) (h : go_ref02_Cut n a0 = some r) : PCall Tryd.prog 26 [.str a0] (.sl 1 (r.map V.str) false) := by
  rcases n with _ | n
  · simp [go_ref02_Cut] at h
  rw [go_ref02_Cut] at h
  refine pcall_of Tryd.func26 rfl Tryd.ntmps26 (fun _ _ => Tryd.call26 _ _) fun lv E => ?_
  simp only [List.length_cons, List.length_nil, Nat.reduceAdd, Nat.reduceSub, List.replicate, List.cons_append, List.nil_append]
  have hA := AccG.nil (lv + 1)
  generalize ([] : List (Option AObj)) = L at hA ⊢
  repeat refine sat_seq ?_
  refine satO_reg ?_
  refine satO_step 1 [] ⟨.str a0 :: an 1 (.nils :: an 31 []), ⟨lv + 1, L, E⟩, [], E⟩ [] (by simp -implicitDefEqProofs []) claims_nil ?_
  refine satO_nil (by simp) ?_
  repeat refine sat_seq ?_
  refine satO_reg ?_
  refine satO_step 2 [] ⟨.str a0 :: an 1 (.nils :: an 3 (.str a0 :: .bool (a0 == ([])) :: an 26 [])), ⟨lv + 1, L, E⟩, [], E⟩ [] (by simp -implicitDefEqProofs []) claims_nil ?_
  refine satO_nil (by simp) ?_
  repeat refine sat_seq ?_
  refine sat_cond rfl (fun hb => ?_) (fun hb => ?_)
  · have h := ite_t hb h
    repeat refine sat_seq ?_
    refine satO_reg ?_
    refine satO_step 1 [] ⟨.str a0 :: an 1 (.nils :: an 3 (.str a0 :: .bool (a0 == ([])) :: an 26 [])), ⟨lv + 1, L, E⟩, [], E⟩ [] (by simp -implicitDefEqProofs []) claims_nil ?_
    refine satO_nil (by simp) ?_
    repeat refine sat_seq ?_
    refine sat_ret ?_
    refine ends (v := .nils) (by simp [resultsV, resL, resV, tupOf, Tryd.f26, pLoad]) rfl rfl ?_
    injection h with h
    subst h
    exact (.nil _ _)
  · have h := ite_f hb h
    repeat refine sat_seq ?_
    refine sat_skip ?_
    repeat refine sat_seq ?_
    refine satO_reg ?_
    refine satO_step 1 [] ⟨.str a0 :: an 1 (.nils :: .nils :: an 2 (.str a0 :: .bool (a0 == ([])) :: an 26 [])), ⟨lv + 1, L, E⟩, [], E⟩ [] (by simp -implicitDefEqProofs []) claims_nil ?_
    refine satO_nil (by simp) ?_
    repeat refine sat_seq ?_
    refine satO_reg ?_
    refine satO_step 1 [] ⟨.str a0 :: an 1 (.nils :: .nils :: .int .i64 0 :: an 1 (.str a0 :: .bool (a0 == ([])) :: an 26 [])), ⟨lv + 1, L, E⟩, [], E⟩ [] (by simp -implicitDefEqProofs []) claims_nil ?_
    refine satO_nil (by simp) ?_
    repeat refine sat_seq ?_
    refine satO_reg ?_
    refine satO_step 1 [] ⟨.str a0 :: an 1 (.nils :: .nils :: .int .i64 0 :: .int .i64 0 :: .str a0 :: .bool (a0 == ([])) :: an 26 []), ⟨lv + 1, L, E⟩, [], E⟩ [] (by simp -implicitDefEqProofs []) claims_nil ?_
    refine satO_nil (by simp) ?_
    repeat refine sat_seq ?_
    refine sat_block ?_
    repeat refine sat_seq ?_
    have hA := hA.cons 9 1 false
    refine sat_loop (fun k σ => ∃ (x4 : Int) (x5 : Int) (v2 : V) (l3 : List (List UInt8)) (L : List (Option AObj)), k ≤ n ∧ AccG (lv + 1) L [⟨9, 1, v2, l3.map V.str, false⟩] [] ∧ go_ref02_Cut_L1 k a0 l3 x4 x5 = some r ∧ σ = ⟨.str a0 :: an 2 (v2 :: .int .i64 x4 :: .int .i64 x5 :: an 28 []), ⟨lv + 1, L, E⟩, [], E⟩) n ⟨.str a0 :: an 2 (.nils :: .int .i64 0 :: .int .i64 0 :: an 28 []), ⟨lv + 1, L, E⟩, [], E⟩ (weak_tmps ?_) ⟨0, 0, .nils, ([]), L, Nat.le_refl _, hA, h, rfl⟩ ?_
    · (try simp only [an, List.map_cons, List.map_nil]); repeat (first | exact VLeL.nil | refine VLeL.cons (by first | exact VLe.refl _ | exact VLe.any _ | exact VLe.nil _ _ | exact VLe.full _ _ | (refine VLe.agg' ?_; repeat (first | exact VLeL.nil | refine VLeL.cons (by first | exact VLe.refl _ | exact VLe.any _ | exact VLe.nil _ _) ?_))) ?_)
    · rintro k σ ⟨x4, x5, v2, l3, L, hk, hA, h, rfl⟩
      rcases k with _ | n
      · simp [go_ref02_Cut_L1] at h
      · rw [go_ref02_Cut_L1] at h
        repeat refine sat_seq ?_
        refine satO_reg ?_
        obtain ⟨w0a, w0b, w0c⟩ := hA.whole (j := 0) rfl
        refine satO_step 4 [] ⟨.str a0 :: an 2 (v2 :: .int .i64 x4 :: .int .i64 x5 :: an 2 (.int .i64 x5 :: .str a0 :: .int .i64 (a0.length : Int) :: .bool (decide (x5 ≤ (a0.length : Int))) :: an 22 [])), ⟨lv + 1, L, E⟩, [], E⟩ [] (by simp -implicitDefEqProofs [w0a, w0b, w0c]) claims_nil ?_
        refine satO_nil (by simp) ?_
        repeat refine sat_seq ?_
        refine sat_cond rfl (fun hb => ?_) (fun hb => ?_)
        · have h := ite_t hb h
          repeat refine sat_seq ?_
          refine sat_skip ?_
          repeat refine sat_seq ?_
          refine sat_block ?_
          repeat refine sat_seq ?_
          refine sat_meet (fun σ => ∃ (k : Nat), k ≤ n ∧ ∃ (x6 : Bool) (L : List (Option AObj)), AccG (lv + 1) L [⟨9, 1, v2, l3.map V.str, false⟩] [] ∧ go_ref02_Cut_J1 k a0 l3 x4 x5 x6 = some r ∧ σ = ⟨.str a0 :: an 2 (v2 :: .int .i64 x4 :: .int .i64 x5 :: an 17 (.bool x6 :: an 10 [])), ⟨lv + 1, L, E⟩, [], E⟩) ?_ ?_
          · refine satO_reg ?_
            rcases Bool.eq_false_or_eq_true (x5 == (a0.length : Int)) with hg7 | hg8
            · have h := ite_t hg7 h
              have hg7n := hg7
              try simp at hg7n
              obtain ⟨w0a, w0b, w0c⟩ := hA.whole (j := 0) rfl
              refine satO_step 10 [] ⟨.str a0 :: an 2 (v2 :: .int .i64 x4 :: .int .i64 x5 :: an 2 (.int .i64 x5 :: .str a0 :: .int .i64 (a0.length : Int) :: .bool (decide (x5 ≤ (a0.length : Int))) :: an 2 (.int .i64 x5 :: .str a0 :: .int .i64 (a0.length : Int) :: .bool (x5 == (a0.length : Int)) :: .bool (x5 == (a0.length : Int)) :: .tup [] :: .tup [] :: .tup [] :: .tup [] :: .bool true :: an 10 []))), ⟨lv + 1, L, E⟩, [], E⟩ [] (by first | (simp -implicitDefEqProofs [w0a, w0b, w0c, hg7]; done) | simp -implicitDefEqProofs [w0a, w0b, w0c, hg7, hg7n]) claims_nil ?_
              refine satO_nil (by simp) ?_
              refine ⟨⟨.str a0 :: an 2 (v2 :: .int .i64 x4 :: .int .i64 x5 :: an 17 (.bool true :: an 10 [])), ⟨lv + 1, L, E⟩, [], E⟩, weak_tmps ?_, n, by omega, true, L, hA, h, rfl⟩
              (try simp only [an, List.map_cons, List.map_nil]); repeat (first | exact VLeL.nil | refine VLeL.cons (by first | exact VLe.refl _ | exact VLe.any _ | exact VLe.nil _ _ | exact VLe.full _ _ | (refine VLe.agg' ?_; repeat (first | exact VLeL.nil | refine VLeL.cons (by first | exact VLe.refl _ | exact VLe.any _ | exact VLe.nil _ _) ?_))) ?_)
            · have h := ite_f hg8 h
              have hg8n := hg8
              try simp at hg8n
              obtain ⟨x9, q10, h⟩ := bnd_hi h
              obtain ⟨q10, q11⟩ := ix_some q10
              obtain ⟨w0a, w0b, w0c⟩ := hA.whole (j := 0) rfl
              refine satO_step 10 [] ⟨.str a0 :: an 2 (v2 :: .int .i64 x4 :: .int .i64 x5 :: an 2 (.int .i64 x5 :: .str a0 :: .int .i64 (a0.length : Int) :: .bool (decide (x5 ≤ (a0.length : Int))) :: an 2 (.int .i64 x5 :: .str a0 :: .int .i64 (a0.length : Int) :: .bool (x5 == (a0.length : Int)) :: .bool (x5 == (a0.length : Int)) :: .str a0 :: .int .i64 x5 :: .int .u8 (x9.toNat : Int) :: .bool ((x9.toNat : Int) == 47) :: .bool ((x9.toNat : Int) == 47) :: an 10 []))), ⟨lv + 1, L, E⟩, [], E⟩ [] (by first | (simp -implicitDefEqProofs [w0a, w0b, w0c, hg8, q10, q11]; done) | simp -implicitDefEqProofs [w0a, w0b, w0c, hg8, q10, q11, hg8n]) claims_nil ?_
              refine satO_nil (by simp) ?_
              refine ⟨⟨.str a0 :: an 2 (v2 :: .int .i64 x4 :: .int .i64 x5 :: an 17 (.bool ((x9.toNat : Int) == 47) :: an 10 [])), ⟨lv + 1, L, E⟩, [], E⟩, weak_tmps ?_, n, by omega, ((x9.toNat : Int) == 47), L, hA, h, rfl⟩
              (try simp only [an, List.map_cons, List.map_nil]); repeat (first | exact VLeL.nil | refine VLeL.cons (by first | exact VLe.refl _ | exact VLe.any _ | exact VLe.nil _ _ | exact VLe.full _ _ | (refine VLe.agg' ?_; repeat (first | exact VLeL.nil | refine VLeL.cons (by first | exact VLe.refl _ | exact VLe.any _ | exact VLe.nil _ _) ?_))) ?_)
          · rintro σ0 σ hw ⟨k, hk, x6, L, hA, h, rfl⟩
            rcases k with _ | n
            · simp [go_ref02_Cut_J1] at h
            · rw [go_ref02_Cut_J1] at h
              refine sat_weak hw ?_
              repeat refine sat_seq ?_
              refine sat_meet (fun σ => ∃ (k : Nat), k ≤ n ∧ ∃ (x14 : Int) (v12 : V) (l13 : List (List UInt8)) (L : List (Option AObj)), AccG (lv + 1) L [⟨9, 1, v12, l13.map V.str, false⟩] [] ∧ go_ref02_Cut_J2 k a0 x5 l13 x14 = some r ∧ σ = ⟨.str a0 :: an 2 (v12 :: .int .i64 x14 :: .int .i64 x5 :: an 28 []), ⟨lv + 1, L, E⟩, [], E⟩) ?_ ?_
              · refine sat_cond rfl (fun hb => ?_) (fun hb => ?_)
                · have h := ite_t hb h
                  repeat refine sat_seq ?_
                  refine satO_reg ?_
                  obtain ⟨x15, q16, h⟩ := bnd_hi h
                  obtain ⟨q16, q17, q18, q19, q20, q21⟩ := sub_some q16
                  have q22 := q17
                  try simp only [Int.ofNat_le] at q22
                  obtain ⟨w0a, w0b, w0c⟩ := hA.whole (j := 0) rfl
                  refine satO_step 6 [] ⟨.str a0 :: an 2 (v2 :: .int .i64 x4 :: .int .i64 x5 :: an 17 (.bool x6 :: v2 :: .str a0 :: .int .i64 x4 :: .int .i64 x5 :: .str x15 :: .sl 1 [.str x15] true :: an 4 [])), ⟨lv + 1, L, E⟩, [], E⟩ [] (by simp -implicitDefEqProofs [w0a, w0b, w0c, q16, q17, q18, q19, q20, q21, q22, List.map_take, List.map_drop, Int.max_eq_left]) claims_nil ?_
                  obtain ⟨l23, q24, h⟩ := bnd_hi h
                  obtain ⟨q24, q25⟩ := ext_some q24
                  obtain ⟨v26, L, q27, hA⟩ := hA.push (j := 0) rfl [.str x15] (by simpa using q24) E
                  refine satO_step 1 [] ⟨.str a0 :: an 2 (v2 :: .int .i64 x4 :: .int .i64 x5 :: an 17 (.bool x6 :: v2 :: .str a0 :: .int .i64 x4 :: .int .i64 x5 :: .str x15 :: .sl 1 [.str x15] true :: v26 :: an 3 [])), ⟨lv + 1, L, E⟩, [], E⟩ [] (by simp -implicitDefEqProofs [q27]) claims_nil ?_
                  have hA : AccG (lv + 1) L [⟨9, 1, v26, l23.map V.str, false⟩] [] := by rw [q25]; simpa using hA
                  obtain ⟨w0a, w0b, w0c⟩ := hA.whole (j := 0) rfl
                  refine satO_step 1 [] ⟨.str a0 :: an 2 (v26 :: .int .i64 x4 :: .int .i64 x5 :: an 17 (.bool x6 :: v2 :: .str a0 :: .int .i64 x4 :: .int .i64 x5 :: .str x15 :: .sl 1 [.str x15] true :: v26 :: an 3 [])), ⟨lv + 1, L, E⟩, [], E⟩ [] (by simp -implicitDefEqProofs [w0a, w0b, w0c]) claims_nil ?_
                  refine satO_nil (by simp) ?_
                  repeat refine sat_seq ?_
                  refine satO_reg ?_
                  obtain ⟨w0a, w0b, w0c⟩ := hA.whole (j := 0) rfl
                  refine satO_step 3 [] ⟨.str a0 :: an 2 (v26 :: .int .i64 (IntKind.i64.wrap (x5 + 1)) :: .int .i64 x5 :: an 17 (.bool x6 :: v2 :: .str a0 :: .int .i64 x4 :: .int .i64 x5 :: .str x15 :: .sl 1 [.str x15] true :: v26 :: .int .i64 x5 :: .int .i64 (IntKind.i64.wrap (x5 + 1)) :: an 1 [])), ⟨lv + 1, L, E⟩, [], E⟩ [] (by simp -implicitDefEqProofs [w0a, w0b, w0c]) claims_nil ?_
                  refine satO_nil (by simp) ?_
                  refine ⟨⟨.str a0 :: an 2 (v26 :: .int .i64 (IntKind.i64.wrap (x5 + 1)) :: .int .i64 x5 :: an 28 []), ⟨lv + 1, L, E⟩, [], E⟩, weak_tmps ?_, n, by omega, (IntKind.i64.wrap (x5 + 1)), v26, l23, L, hA, h, rfl⟩
                  (try simp only [an, List.map_cons, List.map_nil]); repeat (first | exact VLeL.nil | refine VLeL.cons (by first | exact VLe.refl _ | exact VLe.any _ | exact VLe.nil _ _ | exact VLe.full _ _ | (refine VLe.agg' ?_; repeat (first | exact VLeL.nil | refine VLeL.cons (by first | exact VLe.refl _ | exact VLe.any _ | exact VLe.nil _ _) ?_))) ?_)
                · have h := ite_f hb h
                  repeat refine sat_seq ?_
                  refine sat_skip ?_
                  refine ⟨⟨.str a0 :: an 2 (v2 :: .int .i64 x4 :: .int .i64 x5 :: an 28 []), ⟨lv + 1, L, E⟩, [], E⟩, weak_tmps ?_, n, by omega, x4, v2, l3, L, hA, h, rfl⟩
                  (try simp only [an, List.map_cons, List.map_nil]); repeat (first | exact VLeL.nil | refine VLeL.cons (by first | exact VLe.refl _ | exact VLe.any _ | exact VLe.nil _ _ | exact VLe.full _ _ | (refine VLe.agg' ?_; repeat (first | exact VLeL.nil | refine VLeL.cons (by first | exact VLe.refl _ | exact VLe.any _ | exact VLe.nil _ _) ?_))) ?_)
              · rintro σ0 σ hw ⟨k, hk, x14, v12, l13, L, hA, h, rfl⟩
                rcases k with _ | n
                · simp [go_ref02_Cut_J2] at h
                · rw [go_ref02_Cut_J2] at h
                  refine sat_weak hw ?_
                  repeat refine sat_seq ?_
                  refine satO_reg ?_
                  obtain ⟨w0a, w0b, w0c⟩ := hA.whole (j := 0) rfl
                  refine satO_step 3 [] ⟨.str a0 :: an 2 (v12 :: .int .i64 x14 :: .int .i64 (IntKind.i64.wrap (x5 + 1)) :: an 6 (.int .i64 x5 :: .int .i64 (IntKind.i64.wrap (x5 + 1)) :: an 20 [])), ⟨lv + 1, L, E⟩, [], E⟩ [] (by simp -implicitDefEqProofs [w0a, w0b, w0c]) claims_nil ?_
                  refine satO_nil (by simp) ?_
                  refine ⟨n, ⟨.str a0 :: an 2 (v12 :: .int .i64 x14 :: .int .i64 (IntKind.i64.wrap (x5 + 1)) :: an 28 []), ⟨lv + 1, L, E⟩, [], E⟩, weak_tmps ?_, ⟨x14, (IntKind.i64.wrap (x5 + 1)), v12, l13, L, by omega, hA, h, rfl⟩, by omega⟩
                  (try simp only [an, List.map_cons, List.map_nil]); repeat (first | exact VLeL.nil | refine VLeL.cons (by first | exact VLe.refl _ | exact VLe.any _ | exact VLe.nil _ _ | exact VLe.full _ _ | (refine VLe.agg' ?_; repeat (first | exact VLeL.nil | refine VLeL.cons (by first | exact VLe.refl _ | exact VLe.any _ | exact VLe.nil _ _) ?_))) ?_)
        · have h := ite_f hb h
          repeat refine sat_seq ?_
          refine sat_exit ?_
          repeat refine sat_seq ?_
          refine satO_reg ?_
          obtain ⟨w0a, w0b, w0c⟩ := hA.whole (j := 0) rfl
          refine satO_step 2 [] ⟨.str a0 :: an 1 (v2 :: v2 :: .int .i64 x4 :: .int .i64 x5 :: an 2 (.int .i64 x5 :: .str a0 :: .int .i64 (a0.length : Int) :: .bool (decide (x5 ≤ (a0.length : Int))) :: an 21 (v2 :: []))), ⟨lv + 1, L, E⟩, [], E⟩ [] (by simp -implicitDefEqProofs [w0a, w0b, w0c]) claims_nil ?_
          refine satO_nil (by simp) ?_
          repeat refine sat_seq ?_
          refine sat_ret ?_
          obtain ⟨w0a, w0b, w0c⟩ := hA.whole (j := 0) rfl
          refine ends (v := v2) (by simp [resultsV, resL, resV, tupOf, Tryd.f26, pLoad, w0a, w0b, w0c]) rfl rfl ?_
          injection h with h
          subst h
          exact (hA.shut (j := 0) rfl (by simp [V.kin, V.kinL]))
end Go.Proofs

namespace Go.Proofs
open Go Go.Ab
set_option maxRecDepth 10000
set_option maxHeartbeats 1000000
set_option linter.unusedSimpArgs false
set_option linter.unusedVariables false
theorem go_ref02_letter_ok (n : Nat) (a0 : Int) (r : Bool) (h : go_ref02_letter n a0 = some r) : PCall Tryd.prog 24 [.int .u8 a0] (.bool r) := by
  rw [go_ref02_letter] at h
  refine pcall_of Tryd.func24 rfl Tryd.ntmps24 (fun _ _ => Tryd.call24 _ _) fun lv E => ?_
  simp only [List.length_cons, List.length_nil, Nat.reduceAdd, Nat.reduceSub, List.replicate, List.cons_append, List.nil_append]
  have hA := AccG.nil (lv + 1)
  generalize ([] : List (Option AObj)) = L at hA ⊢
  repeat refine sat_seq ?_
  refine satO_reg ?_
  refine satO_step 1 [] ⟨.int .u8 a0 :: an 1 (.bool false :: an 6 []), ⟨lv + 1, L, E⟩, [], E⟩ [] (by simp -implicitDefEqProofs []) claims_nil ?_
  refine satO_nil (by simp) ?_
  repeat refine sat_seq ?_
  refine sat_meet (fun σ => ∃ (x1 : Bool) (L : List (Option AObj)), AccG (lv + 1) L [] [] ∧ go_ref02_letter_J1 n x1 = some r ∧ σ = ⟨an 2 (.bool x1 :: an 6 []), ⟨lv + 1, L, E⟩, [], E⟩) ?_ ?_
  · refine satO_reg ?_
    rcases Bool.eq_false_or_eq_true (decide (97 ≤ a0)) with hg2 | hg3
    · have h := ite_t hg2 h
      have hg2n := hg2
      try simp at hg2n
      refine satO_step 7 [] ⟨.int .u8 a0 :: an 1 (.bool (decide (a0 ≤ 122)) :: .int .u8 a0 :: .bool (decide (97 ≤ a0)) :: .bool (decide (97 ≤ a0)) :: .int .u8 a0 :: .bool (decide (a0 ≤ 122)) :: .bool (decide (a0 ≤ 122)) :: []), ⟨lv + 1, L, E⟩, [], E⟩ [] (by first | (simp -implicitDefEqProofs [hg2]; done) | simp -implicitDefEqProofs [hg2, hg2n]) claims_nil ?_
      refine satO_nil (by simp) ?_
      refine ⟨⟨an 2 (.bool (decide (a0 ≤ 122)) :: an 6 []), ⟨lv + 1, L, E⟩, [], E⟩, weak_tmps ?_, (decide (a0 ≤ 122)), L, hA, h, rfl⟩
      (try simp only [an, List.map_cons, List.map_nil]); repeat (first | exact VLeL.nil | refine VLeL.cons (by first | exact VLe.refl _ | exact VLe.any _ | exact VLe.nil _ _ | exact VLe.full _ _ | (refine VLe.agg' ?_; repeat (first | exact VLeL.nil | refine VLeL.cons (by first | exact VLe.refl _ | exact VLe.any _ | exact VLe.nil _ _) ?_))) ?_)
    · have h := ite_f hg3 h
      have hg3n := hg3
      try simp at hg3n
      refine satO_step 7 [] ⟨.int .u8 a0 :: an 1 (.bool false :: .int .u8 a0 :: .bool (decide (97 ≤ a0)) :: .bool (decide (97 ≤ a0)) :: .tup [] :: .tup [] :: .bool false :: []), ⟨lv + 1, L, E⟩, [], E⟩ [] (by first | (simp -implicitDefEqProofs [hg3]; done) | simp -implicitDefEqProofs [hg3, hg3n]) claims_nil ?_
      refine satO_nil (by simp) ?_
      refine ⟨⟨an 2 (.bool false :: an 6 []), ⟨lv + 1, L, E⟩, [], E⟩, weak_tmps ?_, false, L, hA, h, rfl⟩
      (try simp only [an, List.map_cons, List.map_nil]); repeat (first | exact VLeL.nil | refine VLeL.cons (by first | exact VLe.refl _ | exact VLe.any _ | exact VLe.nil _ _ | exact VLe.full _ _ | (refine VLe.agg' ?_; repeat (first | exact VLeL.nil | refine VLeL.cons (by first | exact VLe.refl _ | exact VLe.any _ | exact VLe.nil _ _) ?_))) ?_)
  · rintro σ0 σ hw ⟨x1, L, hA, h, rfl⟩
    rw [go_ref02_letter_J1] at h
    refine sat_weak hw ?_
    repeat refine sat_seq ?_
    refine sat_ret ?_
    refine ends (v := .bool x1) (by simp [resultsV, resL, resV, tupOf, Tryd.f24, pLoad]) rfl rfl ?_
    injection h with h
    subst h
    exact (.keep _ (by simp [V.kin, V.kinL]))
end Go.Proofs

namespace Go.Proofs
open Go Go.Ab
set_option maxRecDepth 10000
set_option maxHeartbeats 1000000
set_option linter.unusedSimpArgs false
set_option linter.unusedVariables false
theorem go_ref02_digit_ok (n : Nat) (a0 : Int) (r : Bool) (h : go_ref02_digit n a0 = some r) : PCall Tryd.prog 25 [.int .u8 a0] (.bool r) := by
  rw [go_ref02_digit] at h
  refine pcall_of Tryd.func25 rfl Tryd.ntmps25 (fun _ _ => Tryd.call25 _ _) fun lv E => ?_
  simp only [List.length_cons, List.length_nil, Nat.reduceAdd, Nat.reduceSub, List.replicate, List.cons_append, List.nil_append]
  have hA := AccG.nil (lv + 1)
  generalize ([] : List (Option AObj)) = L at hA ⊢
  repeat refine sat_seq ?_
  refine satO_reg ?_
  refine satO_step 1 [] ⟨.int .u8 a0 :: an 1 (.bool false :: an 6 []), ⟨lv + 1, L, E⟩, [], E⟩ [] (by simp -implicitDefEqProofs []) claims_nil ?_
  refine satO_nil (by simp) ?_
  repeat refine sat_seq ?_
  refine sat_meet (fun σ => ∃ (x1 : Bool) (L : List (Option AObj)), AccG (lv + 1) L [] [] ∧ go_ref02_digit_J1 n x1 = some r ∧ σ = ⟨an 2 (.bool x1 :: an 6 []), ⟨lv + 1, L, E⟩, [], E⟩) ?_ ?_
  · refine satO_reg ?_
    rcases Bool.eq_false_or_eq_true (decide (48 ≤ a0)) with hg2 | hg3
    · have h := ite_t hg2 h
      have hg2n := hg2
      try simp at hg2n
      refine satO_step 7 [] ⟨.int .u8 a0 :: an 1 (.bool (decide (a0 ≤ 57)) :: .int .u8 a0 :: .bool (decide (48 ≤ a0)) :: .bool (decide (48 ≤ a0)) :: .int .u8 a0 :: .bool (decide (a0 ≤ 57)) :: .bool (decide (a0 ≤ 57)) :: []), ⟨lv + 1, L, E⟩, [], E⟩ [] (by first | (simp -implicitDefEqProofs [hg2]; done) | simp -implicitDefEqProofs [hg2, hg2n]) claims_nil ?_
      refine satO_nil (by simp) ?_
      refine ⟨⟨an 2 (.bool (decide (a0 ≤ 57)) :: an 6 []), ⟨lv + 1, L, E⟩, [], E⟩, weak_tmps ?_, (decide (a0 ≤ 57)), L, hA, h, rfl⟩
      (try simp only [an, List.map_cons, List.map_nil]); repeat (first | exact VLeL.nil | refine VLeL.cons (by first | exact VLe.refl _ | exact VLe.any _ | exact VLe.nil _ _ | exact VLe.full _ _ | (refine VLe.agg' ?_; repeat (first | exact VLeL.nil | refine VLeL.cons (by first | exact VLe.refl _ | exact VLe.any _ | exact VLe.nil _ _) ?_))) ?_)
    · have h := ite_f hg3 h
      have hg3n := hg3
      try simp at hg3n
      refine satO_step 7 [] ⟨.int .u8 a0 :: an 1 (.bool false :: .int .u8 a0 :: .bool (decide (48 ≤ a0)) :: .bool (decide (48 ≤ a0)) :: .tup [] :: .tup [] :: .bool false :: []), ⟨lv + 1, L, E⟩, [], E⟩ [] (by first | (simp -implicitDefEqProofs [hg3]; done) | simp -implicitDefEqProofs [hg3, hg3n]) claims_nil ?_
      refine satO_nil (by simp) ?_
      refine ⟨⟨an 2 (.bool false :: an 6 []), ⟨lv + 1, L, E⟩, [], E⟩, weak_tmps ?_, false, L, hA, h, rfl⟩
      (try simp only [an, List.map_cons, List.map_nil]); repeat (first | exact VLeL.nil | refine VLeL.cons (by first | exact VLe.refl _ | exact VLe.any _ | exact VLe.nil _ _ | exact VLe.full _ _ | (refine VLe.agg' ?_; repeat (first | exact VLeL.nil | refine VLeL.cons (by first | exact VLe.refl _ | exact VLe.any _ | exact VLe.nil _ _) ?_))) ?_)
  · rintro σ0 σ hw ⟨x1, L, hA, h, rfl⟩
    rw [go_ref02_digit_J1] at h
    refine sat_weak hw ?_
    repeat refine sat_seq ?_
    refine sat_ret ?_
    refine ends (v := .bool x1) (by simp [resultsV, resL, resV, tupOf, Tryd.f25, pLoad]) rfl rfl ?_
    injection h with h
    subst h
    exact (.keep _ (by simp [V.kin, V.kinL]))
end Go.Proofs
