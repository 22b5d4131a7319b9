/-
  The Go functions compute what their Lean functions do, by a program of this repo.
-/
import Derived.Test.YtabknpjajioneaaFns
import Derived.Test.YtabknpjajioneaaFacts
import Derived.Test.YtabknpjajioneaaAbSimp
import Derived.Lib.Bytealg
import Derived.Laws.Externs
import Derived.KernelRfl
import Derived.Test.YtabknpjajioneaaWalk0
namespace Go.Proofs
open Go Go.Ab
set_option maxRecDepth 10000
set_option maxHeartbeats 1000000
set_option linter.unusedSimpArgs false
set_option linter.unusedVariables false
theorem go_label_read_ok (n : Nat) (a0 : List UInt8) (r : GStepT × Bool) (h : go_label_read n a0 = some r) : PCall Try.prog 63 [.str a0] (.tup [.agg r.1.cs, .bool r.2]) := by
  rcases n with _ | n
  · simp [go_label_read] at h
  rw [go_label_read] at h
  refine pcall_of Try.func63 rfl Try.ntmps63 (fun _ _ => Try.call63 _ _) fun lv E => ?_
  simp only [List.length_cons, List.length_nil, Nat.reduceAdd, Nat.reduceSub, List.replicate, List.cons_append, List.nil_append]
  have hA := AccG.nil (lv + 1)
  generalize ([] : List (Option AObj)) = L at hA ⊢
  repeat refine sat_seq ?_
  refine satO_reg ?_
  refine satO_step 1 [] ⟨.str a0 :: an 1 (.ptr (lv + 1) L.length 0 :: an 79 []), ⟨lv + 1, (L ++ [some (.cells [.str ([]), .int .i64 0])]), E⟩, [], E⟩ [] (by simp -implicitDefEqProofs [GStepT.cs]) claims_nil ?_
  have hA : AccG (lv + 1) (L ++ [some (.cells [.str ([]), .int .i64 0])]) [] [(L.length, .cells [.str ([]), .int .i64 0])] := hA.obj _
  generalize L.length = i2 at hA ⊢
  generalize (L ++ [some (.cells [.str ([]), .int .i64 0])]) = L at hA ⊢
  have g0 := hA.get (k := 0) rfl
  refine satO_step 1 [] ⟨.str a0 :: an 1 (.ptr (lv + 1) i2 0 :: .bool false :: an 78 []), ⟨lv + 1, L, E⟩, [], E⟩ [] (by simp -implicitDefEqProofs [GStepT.cs, g0]) claims_nil ?_
  refine satO_nil (by simp) ?_
  repeat refine sat_seq ?_
  refine satO_reg ?_
  obtain ⟨y3, q4, h⟩ := bnd_hi h
  have g0 := hA.get (k := 0) rfl
  refine satO_step 9 [(.tup [.str y3.1, .str y3.2.1, .bool y3.2.2], none)] ⟨.str a0 :: an 1 (.ptr (lv + 1) i2 0 :: .bool false :: .str y3.1 :: .str y3.2.1 :: .bool y3.2.2 :: an 5 (.tup [.str y3.1, .str y3.2.1, .bool y3.2.2] :: .str a0 :: .tup [.str y3.1, .str y3.2.1, .bool y3.2.2] :: .str y3.1 :: .str y3.2.1 :: .bool y3.2.2 :: an 64 [])), ⟨lv + 1, L, E⟩, [], E⟩ [⟨78, [.str a0, .str ([91])], ⟨lv + 1, L, E⟩, .tup [.str y3.1, .str y3.2.1, .bool y3.2.2], ⟨lv + 1, L, E⟩⟩] (by simp -implicitDefEqProofs [GStepT.cs, g0]) (claims_cons (go_strings_Cut_s91_ok _ _ _ q4 _) claims_nil) ?_
  refine satO_nil (by simp) ?_
  repeat refine sat_seq ?_
  refine sat_meet (fun σ => ∃ (k : Nat), k ≤ n ∧ ∃ (x5 : Bool) (L : List (Option AObj)), AccG (lv + 1) L [] [(i2, .cells [.str ([]), .int .i64 0])] ∧ go_label_read_J1 k y3 x5 = some r ∧ σ = ⟨an 2 (.ptr (lv + 1) i2 0 :: an 1 (.str y3.1 :: .str y3.2.1 :: .bool y3.2.2 :: an 17 (.bool x5 :: an 57 []))), ⟨lv + 1, L, E⟩, [], E⟩) ?_ ?_
  · refine satO_reg ?_
    obtain ⟨y6, q7, h⟩ := bnd_hi h
    rcases Bool.eq_false_or_eq_true (!y6) with hg8 | hg9
    · have h := ite_t hg8 h
      have hg8n := hg8
      try simp at hg8n
      have g0 := hA.get (k := 0) rfl
      refine satO_step 7 [(.bool y6, none)] ⟨.str a0 :: an 1 (.ptr (lv + 1) i2 0 :: .bool false :: .str y3.1 :: .str y3.2.1 :: .bool y3.2.2 :: an 5 (.tup [.str y3.1, .str y3.2.1, .bool y3.2.2] :: .str a0 :: .tup [.str y3.1, .str y3.2.1, .bool y3.2.2] :: .str y3.1 :: .str y3.2.1 :: .bool y3.2.2 :: .str y3.1 :: .bool y6 :: .bool (!y6) :: .bool (!y6) :: .tup [] :: .tup [] :: .bool true :: an 57 [])), ⟨lv + 1, L, E⟩, [], E⟩ [⟨47, [.str y3.1], ⟨lv + 1, L, E⟩, .bool y6, ⟨lv + 1, L, E⟩⟩] (by first | (simp -implicitDefEqProofs [GStepT.cs, g0, hg8]; done) | simp -implicitDefEqProofs [GStepT.cs, g0, hg8, hg8n]) (claims_cons (go_label_Name_ok _ _ _ q7 _) claims_nil) ?_
      refine satO_nil (by simp) ?_
      refine ⟨⟨an 2 (.ptr (lv + 1) i2 0 :: an 1 (.str y3.1 :: .str y3.2.1 :: .bool y3.2.2 :: an 17 (.bool true :: an 57 []))), ⟨lv + 1, L, E⟩, [], E⟩, weak_tmps ?_, n, by omega, true, L, hA, h, rfl⟩
      (try simp only [an, List.map_cons, List.map_nil]); repeat (first | exact VLeL.nil | refine VLeL.cons (by first | exact VLe.refl _ | exact VLe.any _ | exact VLe.nil _ _ | exact VLe.full _ _ | (refine VLe.agg' ?_; repeat (first | exact VLeL.nil | refine VLeL.cons (by first | exact VLe.refl _ | exact VLe.any _ | exact VLe.nil _ _) ?_))) ?_)
    · have h := ite_f hg9 h
      have hg9n := hg9
      try simp at hg9n
      have g0 := hA.get (k := 0) rfl
      refine satO_step 7 [(.bool y6, none)] ⟨.str a0 :: an 1 (.ptr (lv + 1) i2 0 :: .bool false :: .str y3.1 :: .str y3.2.1 :: .bool y3.2.2 :: an 5 (.tup [.str y3.1, .str y3.2.1, .bool y3.2.2] :: .str a0 :: .tup [.str y3.1, .str y3.2.1, .bool y3.2.2] :: .str y3.1 :: .str y3.2.1 :: .bool y3.2.2 :: .str y3.1 :: .bool y6 :: .bool (!y6) :: .bool (!y6) :: .bool y3.2.2 :: .bool (!y3.2.2) :: .bool (!y3.2.2) :: an 57 [])), ⟨lv + 1, L, E⟩, [], E⟩ [⟨47, [.str y3.1], ⟨lv + 1, L, E⟩, .bool y6, ⟨lv + 1, L, E⟩⟩] (by first | (simp -implicitDefEqProofs [GStepT.cs, g0, hg9]; done) | simp -implicitDefEqProofs [GStepT.cs, g0, hg9, hg9n]) (claims_cons (go_label_Name_ok _ _ _ q7 _) claims_nil) ?_
      refine satO_nil (by simp) ?_
      refine ⟨⟨an 2 (.ptr (lv + 1) i2 0 :: an 1 (.str y3.1 :: .str y3.2.1 :: .bool y3.2.2 :: an 17 (.bool (!y3.2.2) :: an 57 []))), ⟨lv + 1, L, E⟩, [], E⟩, weak_tmps ?_, n, by omega, (!y3.2.2), L, hA, h, rfl⟩
      (try simp only [an, List.map_cons, List.map_nil]); repeat (first | exact VLeL.nil | refine VLeL.cons (by first | exact VLe.refl _ | exact VLe.any _ | exact VLe.nil _ _ | exact VLe.full _ _ | (refine VLe.agg' ?_; repeat (first | exact VLeL.nil | refine VLeL.cons (by first | exact VLe.refl _ | exact VLe.any _ | exact VLe.nil _ _) ?_))) ?_)
  · rintro σ0 σ hw ⟨k, hk, x5, L, hA, h, rfl⟩
    rcases k with _ | n
    · simp [go_label_read_J1] at h
    · rw [go_label_read_J1] at h
      refine sat_weak hw ?_
      repeat refine sat_seq ?_
      refine sat_cond rfl (fun hb => ?_) (fun hb => ?_)
      · have h := ite_t hb h
        repeat refine sat_seq ?_
        refine sat_meet (fun σ => ∃ (k : Nat), k ≤ n ∧ ∃ (x10 : GStepT) (x11 : Bool) (L : List (Option AObj)), AccG (lv + 1) L [] [(i2, .cells x10.cs)] ∧ go_label_read_J2 k x10 x11 = some r ∧ σ = ⟨an 2 (.ptr (lv + 1) i2 0 :: .bool x11 :: an 78 []), ⟨lv + 1, L, E⟩, [], E⟩) ?_ ?_
        · refine satO_reg ?_
          rcases Bool.eq_false_or_eq_true (!y3.2.2) with hg12 | hg15
          · have h := ite_t hg12 h
            have hg12n := hg12
            try simp at hg12n
            obtain ⟨y13, q14, h⟩ := bnd_hi h
            have g0 := hA.get (k := 0) rfl
            refine satO_step 8 [(.bool y13, none)] ⟨an 2 (.ptr (lv + 1) i2 0 :: an 1 (.str y3.1 :: .str y3.2.1 :: .bool y3.2.2 :: an 17 (.bool x5 :: .str y3.1 :: .agg [.str y3.1, .int .i64 (-1)] :: .bool y3.2.2 :: .bool (!y3.2.2) :: .bool (!y3.2.2) :: .str y3.1 :: .bool y13 :: .bool y13 :: an 49 []))), ⟨lv + 1, L, E⟩, [], E⟩ [⟨47, [.str y3.1], ⟨lv + 1, L, E⟩, .bool y13, ⟨lv + 1, L, E⟩⟩] (by first | (simp -implicitDefEqProofs [GStepT.cs, g0, hg12]; done) | simp -implicitDefEqProofs [GStepT.cs, g0, hg12, hg12n]) (claims_cons (go_label_Name_ok _ _ _ q14 _) claims_nil) ?_
            have g0 := hA.get (k := 0) rfl
            refine satO_step 1 [] ⟨an 2 (.ptr (lv + 1) i2 0 :: an 1 (.str y3.1 :: .str y3.2.1 :: .bool y3.2.2 :: an 17 (.bool x5 :: .str y3.1 :: .agg [.str y3.1, .int .i64 (-1)] :: .bool y3.2.2 :: .bool (!y3.2.2) :: .bool (!y3.2.2) :: .str y3.1 :: .bool y13 :: .bool y13 :: an 49 []))), ⟨lv + 1, (L.set i2 (some (.cells [.str y3.1, .int .i64 (-1)]))), E⟩, [], E⟩ [] (by first | (simp -implicitDefEqProofs [GStepT.cs, g0, hg12]; done) | simp -implicitDefEqProofs [GStepT.cs, g0, hg12, hg12n]) claims_nil ?_
            have hA : AccG (lv + 1) (L.set i2 (some (.cells [.str y3.1, .int .i64 (-1)]))) [] [(i2, .cells [.str y3.1, .int .i64 (-1)])] := hA.upd (k := 0) rfl _
            generalize (L.set i2 (some (.cells [.str y3.1, .int .i64 (-1)]))) = L at hA ⊢
            have g0 := hA.get (k := 0) rfl
            refine satO_step 1 [] ⟨an 2 (.ptr (lv + 1) i2 0 :: .bool y13 :: .str y3.1 :: .str y3.2.1 :: .bool y3.2.2 :: an 17 (.bool x5 :: .str y3.1 :: .agg [.str y3.1, .int .i64 (-1)] :: .bool y3.2.2 :: .bool (!y3.2.2) :: .bool (!y3.2.2) :: .str y3.1 :: .bool y13 :: .bool y13 :: an 49 [])), ⟨lv + 1, L, E⟩, [], E⟩ [] (by first | (simp -implicitDefEqProofs [GStepT.cs, g0, hg12]; done) | simp -implicitDefEqProofs [GStepT.cs, g0, hg12, hg12n]) claims_nil ?_
            refine satO_nil (by simp) ?_
            refine ⟨⟨an 2 (.ptr (lv + 1) i2 0 :: .bool y13 :: an 78 []), ⟨lv + 1, L, E⟩, [], E⟩, weak_tmps ?_, n, by omega, (GStepT.mk y3.1 (-1)), y13, L, hA, h, rfl⟩
            (try simp only [an, List.map_cons, List.map_nil]); repeat (first | exact VLeL.nil | refine VLeL.cons (by first | exact VLe.refl _ | exact VLe.any _ | exact VLe.nil _ _ | exact VLe.full _ _ | (refine VLe.agg' ?_; repeat (first | exact VLeL.nil | refine VLeL.cons (by first | exact VLe.refl _ | exact VLe.any _ | exact VLe.nil _ _) ?_))) ?_)
          · have h := ite_f hg15 h
            have hg15n := hg15
            try simp at hg15n
            have g0 := hA.get (k := 0) rfl
            refine satO_step 8 [] ⟨an 2 (.ptr (lv + 1) i2 0 :: an 1 (.str y3.1 :: .str y3.2.1 :: .bool y3.2.2 :: an 17 (.bool x5 :: .str y3.1 :: .agg [.str y3.1, .int .i64 (-1)] :: .bool y3.2.2 :: .bool (!y3.2.2) :: .bool (!y3.2.2) :: .tup [] :: .tup [] :: .bool false :: an 49 []))), ⟨lv + 1, L, E⟩, [], E⟩ [] (by first | (simp -implicitDefEqProofs [GStepT.cs, g0, hg15]; done) | simp -implicitDefEqProofs [GStepT.cs, g0, hg15, hg15n]) claims_nil ?_
            have g0 := hA.get (k := 0) rfl
            refine satO_step 1 [] ⟨an 2 (.ptr (lv + 1) i2 0 :: an 1 (.str y3.1 :: .str y3.2.1 :: .bool y3.2.2 :: an 17 (.bool x5 :: .str y3.1 :: .agg [.str y3.1, .int .i64 (-1)] :: .bool y3.2.2 :: .bool (!y3.2.2) :: .bool (!y3.2.2) :: .tup [] :: .tup [] :: .bool false :: an 49 []))), ⟨lv + 1, (L.set i2 (some (.cells [.str y3.1, .int .i64 (-1)]))), E⟩, [], E⟩ [] (by first | (simp -implicitDefEqProofs [GStepT.cs, g0, hg15]; done) | simp -implicitDefEqProofs [GStepT.cs, g0, hg15, hg15n]) claims_nil ?_
            have hA : AccG (lv + 1) (L.set i2 (some (.cells [.str y3.1, .int .i64 (-1)]))) [] [(i2, .cells [.str y3.1, .int .i64 (-1)])] := hA.upd (k := 0) rfl _
            generalize (L.set i2 (some (.cells [.str y3.1, .int .i64 (-1)]))) = L at hA ⊢
            have g0 := hA.get (k := 0) rfl
            refine satO_step 1 [] ⟨an 2 (.ptr (lv + 1) i2 0 :: .bool false :: .str y3.1 :: .str y3.2.1 :: .bool y3.2.2 :: an 17 (.bool x5 :: .str y3.1 :: .agg [.str y3.1, .int .i64 (-1)] :: .bool y3.2.2 :: .bool (!y3.2.2) :: .bool (!y3.2.2) :: .tup [] :: .tup [] :: .bool false :: an 49 [])), ⟨lv + 1, L, E⟩, [], E⟩ [] (by first | (simp -implicitDefEqProofs [GStepT.cs, g0, hg15]; done) | simp -implicitDefEqProofs [GStepT.cs, g0, hg15, hg15n]) claims_nil ?_
            refine satO_nil (by simp) ?_
            refine ⟨⟨an 2 (.ptr (lv + 1) i2 0 :: .bool false :: an 78 []), ⟨lv + 1, L, E⟩, [], E⟩, weak_tmps ?_, n, by omega, (GStepT.mk y3.1 (-1)), false, L, hA, h, rfl⟩
            (try simp only [an, List.map_cons, List.map_nil]); repeat (first | exact VLeL.nil | refine VLeL.cons (by first | exact VLe.refl _ | exact VLe.any _ | exact VLe.nil _ _ | exact VLe.full _ _ | (refine VLe.agg' ?_; repeat (first | exact VLeL.nil | refine VLeL.cons (by first | exact VLe.refl _ | exact VLe.any _ | exact VLe.nil _ _) ?_))) ?_)
        · rintro σ0 σ hw ⟨k, hk, x10, x11, L, hA, h, rfl⟩
          rcases k with _ | n
          · simp [go_label_read_J2] at h
          · rw [go_label_read_J2] at h
            refine sat_weak hw ?_
            repeat refine sat_seq ?_
            refine sat_ret ?_
            have g0 := hA.get (k := 0) rfl
            refine ends (v := .tup [.agg x10.cs, .bool x11]) (by simp [resultsV, resL, resV, tupOf, Try.f63, pLoad, g0, GStepT.cs]) rfl rfl ?_
            injection h with h
            subst h
            exact .keep _ (by simp [V.kin, V.kinL, GStepT.cs])
      · have h := ite_f hb h
        repeat refine sat_seq ?_
        refine sat_skip ?_
        repeat refine sat_seq ?_
        refine satO_reg ?_
        obtain ⟨y16, q17, h⟩ := bnd_hi h
        have g0 := hA.get (k := 0) rfl
        refine satO_step 7 [(.tup [.str y16.1, .bool y16.2], none)] ⟨an 2 (.ptr (lv + 1) i2 0 :: an 1 (.str y3.1 :: .str y3.2.1 :: .bool y3.2.2 :: .str y16.1 :: .bool y16.2 :: an 15 (.bool x5 :: an 8 (.tup [.str y16.1, .bool y16.2] :: .str y3.2.1 :: .tup [.str y16.1, .bool y16.2] :: .str y16.1 :: .bool y16.2 :: an 44 [])))), ⟨lv + 1, L, E⟩, [], E⟩ [⟨79, [.str y3.2.1, .str ([93])], ⟨lv + 1, L, E⟩, .tup [.str y16.1, .bool y16.2], ⟨lv + 1, L, E⟩⟩] (by simp -implicitDefEqProofs [GStepT.cs, g0]) (claims_cons (go_strings_CutSuffix_s93_ok _ _ _ q17 _) claims_nil) ?_
        refine satO_nil (by simp) ?_
        repeat refine sat_seq ?_
        refine sat_meet (fun σ => ∃ (k : Nat), k ≤ n ∧ ∃ (x18 : Bool) (L : List (Option AObj)), AccG (lv + 1) L [] [(i2, .cells [.str ([]), .int .i64 0])] ∧ go_label_read_J3 k y3 y16 x18 = some r ∧ σ = ⟨an 2 (.ptr (lv + 1) i2 0 :: an 1 (.str y3.1 :: an 2 (.str y16.1 :: an 51 (.bool x18 :: an 22 [])))), ⟨lv + 1, L, E⟩, [], E⟩) ?_ ?_
        · refine satO_reg ?_
          rcases Bool.eq_false_or_eq_true (!y16.2) with hg19 | hg20
          · have h := ite_t hg19 h
            have hg19n := hg19
            try simp at hg19n
            have g0 := hA.get (k := 0) rfl
            refine satO_step 22 [] ⟨an 2 (.ptr (lv + 1) i2 0 :: an 1 (.str y3.1 :: .str y3.2.1 :: .bool y3.2.2 :: .str y16.1 :: .bool y16.2 :: an 15 (.bool x5 :: an 8 (.tup [.str y16.1, .bool y16.2] :: .str y3.2.1 :: .tup [.str y16.1, .bool y16.2] :: .str y16.1 :: .bool y16.2 :: .bool y16.2 :: .bool (!y16.2) :: .bool (!y16.2) :: .tup [] :: .tup [] :: .tup [] :: .bool true :: .bool true :: .tup [] :: .tup [] :: .tup [] :: .bool true :: .bool true :: .tup [] :: .tup [] :: .tup [] :: .tup [] :: .tup [] :: .tup [] :: .tup [] :: .tup [] :: .bool true :: an 22 [])))), ⟨lv + 1, L, E⟩, [], E⟩ [] (by first | (simp -implicitDefEqProofs [GStepT.cs, g0, hg19]; done) | simp -implicitDefEqProofs [GStepT.cs, g0, hg19, hg19n]) claims_nil ?_
            refine satO_nil (by simp) ?_
            refine ⟨⟨an 2 (.ptr (lv + 1) i2 0 :: an 1 (.str y3.1 :: an 2 (.str y16.1 :: an 51 (.bool true :: an 22 [])))), ⟨lv + 1, L, E⟩, [], E⟩, weak_tmps ?_, n, by omega, true, L, hA, h, rfl⟩
            (try simp only [an, List.map_cons, List.map_nil]); repeat (first | exact VLeL.nil | refine VLeL.cons (by first | exact VLe.refl _ | exact VLe.any _ | exact VLe.nil _ _ | exact VLe.full _ _ | (refine VLe.agg' ?_; repeat (first | exact VLeL.nil | refine VLeL.cons (by first | exact VLe.refl _ | exact VLe.any _ | exact VLe.nil _ _) ?_))) ?_)
          · have h := ite_f hg20 h
            have hg20n := hg20
            try simp at hg20n
            rcases Bool.eq_false_or_eq_true ((y16.1.length : Int) == 0) with hg21 | hg22
            · have h := ite_t hg21 h
              have hg21n := hg21
              try simp at hg21n
              have g0 := hA.get (k := 0) rfl
              refine satO_step 22 [] ⟨an 2 (.ptr (lv + 1) i2 0 :: an 1 (.str y3.1 :: .str y3.2.1 :: .bool y3.2.2 :: .str y16.1 :: .bool y16.2 :: an 15 (.bool x5 :: an 8 (.tup [.str y16.1, .bool y16.2] :: .str y3.2.1 :: .tup [.str y16.1, .bool y16.2] :: .str y16.1 :: .bool y16.2 :: .bool y16.2 :: .bool (!y16.2) :: .bool (!y16.2) :: .str y16.1 :: .int .i64 (y16.1.length : Int) :: .bool ((y16.1.length : Int) == 0) :: .bool ((y16.1.length : Int) == 0) :: .bool ((y16.1.length : Int) == 0) :: .tup [] :: .tup [] :: .tup [] :: .bool true :: .bool true :: .tup [] :: .tup [] :: .tup [] :: .tup [] :: .tup [] :: .tup [] :: .tup [] :: .tup [] :: .bool true :: an 22 [])))), ⟨lv + 1, L, E⟩, [], E⟩ [] (by first | (simp -implicitDefEqProofs [GStepT.cs, g0, hg20, hg21]; done) | simp -implicitDefEqProofs [GStepT.cs, g0, hg20, hg21, hg20n, hg21n]) claims_nil ?_
              refine satO_nil (by simp) ?_
              refine ⟨⟨an 2 (.ptr (lv + 1) i2 0 :: an 1 (.str y3.1 :: an 2 (.str y16.1 :: an 51 (.bool true :: an 22 [])))), ⟨lv + 1, L, E⟩, [], E⟩, weak_tmps ?_, n, by omega, true, L, hA, h, rfl⟩
              (try simp only [an, List.map_cons, List.map_nil]); repeat (first | exact VLeL.nil | refine VLeL.cons (by first | exact VLe.refl _ | exact VLe.any _ | exact VLe.nil _ _ | exact VLe.full _ _ | (refine VLe.agg' ?_; repeat (first | exact VLeL.nil | refine VLeL.cons (by first | exact VLe.refl _ | exact VLe.any _ | exact VLe.nil _ _) ?_))) ?_)
            · have h := ite_f hg22 h
              have hg22n := hg22
              try simp at hg22n
              rcases Bool.eq_false_or_eq_true (decide (4 < (y16.1.length : Int))) with hg23 | hg24
              · have h := ite_t hg23 h
                have hg23n := hg23
                try simp at hg23n
                have g0 := hA.get (k := 0) rfl
                refine satO_step 22 [] ⟨an 2 (.ptr (lv + 1) i2 0 :: an 1 (.str y3.1 :: .str y3.2.1 :: .bool y3.2.2 :: .str y16.1 :: .bool y16.2 :: an 15 (.bool x5 :: an 8 (.tup [.str y16.1, .bool y16.2] :: .str y3.2.1 :: .tup [.str y16.1, .bool y16.2] :: .str y16.1 :: .bool y16.2 :: .bool y16.2 :: .bool (!y16.2) :: .bool (!y16.2) :: .str y16.1 :: .int .i64 (y16.1.length : Int) :: .bool ((y16.1.length : Int) == 0) :: .bool ((y16.1.length : Int) == 0) :: .bool ((y16.1.length : Int) == 0) :: .str y16.1 :: .int .i64 (y16.1.length : Int) :: .bool (decide (4 < (y16.1.length : Int))) :: .bool (decide (4 < (y16.1.length : Int))) :: .bool (decide (4 < (y16.1.length : Int))) :: .tup [] :: .tup [] :: .tup [] :: .tup [] :: .tup [] :: .tup [] :: .tup [] :: .tup [] :: .bool true :: an 22 [])))), ⟨lv + 1, L, E⟩, [], E⟩ [] (by first | (simp -implicitDefEqProofs [GStepT.cs, g0, hg20, hg22, hg23]; done) | simp -implicitDefEqProofs [GStepT.cs, g0, hg20, hg22, hg23, hg20n, hg22n, hg23n]) claims_nil ?_
                refine satO_nil (by simp) ?_
                refine ⟨⟨an 2 (.ptr (lv + 1) i2 0 :: an 1 (.str y3.1 :: an 2 (.str y16.1 :: an 51 (.bool true :: an 22 [])))), ⟨lv + 1, L, E⟩, [], E⟩, weak_tmps ?_, n, by omega, true, L, hA, h, rfl⟩
                (try simp only [an, List.map_cons, List.map_nil]); repeat (first | exact VLeL.nil | refine VLeL.cons (by first | exact VLe.refl _ | exact VLe.any _ | exact VLe.nil _ _ | exact VLe.full _ _ | (refine VLe.agg' ?_; repeat (first | exact VLeL.nil | refine VLeL.cons (by first | exact VLe.refl _ | exact VLe.any _ | exact VLe.nil _ _) ?_))) ?_)
              · have h := ite_f hg24 h
                have hg24n := hg24
                try simp at hg24n
                obtain ⟨x25, q26, h⟩ := bnd_hi h
                obtain ⟨q26, q27⟩ := ix_some q26
                have q27 : (y16.1)[0]? = some x25 := q27
                rcases Bool.eq_false_or_eq_true ((x25.toNat : Int) == 48) with hg28 | hg29
                · have h := ite_t hg28 h
                  have hg28n := hg28
                  try simp at hg28n
                  have g0 := hA.get (k := 0) rfl
                  refine satO_step 22 [] ⟨an 2 (.ptr (lv + 1) i2 0 :: an 1 (.str y3.1 :: .str y3.2.1 :: .bool y3.2.2 :: .str y16.1 :: .bool y16.2 :: an 15 (.bool x5 :: an 8 (.tup [.str y16.1, .bool y16.2] :: .str y3.2.1 :: .tup [.str y16.1, .bool y16.2] :: .str y16.1 :: .bool y16.2 :: .bool y16.2 :: .bool (!y16.2) :: .bool (!y16.2) :: .str y16.1 :: .int .i64 (y16.1.length : Int) :: .bool ((y16.1.length : Int) == 0) :: .bool ((y16.1.length : Int) == 0) :: .bool ((y16.1.length : Int) == 0) :: .str y16.1 :: .int .i64 (y16.1.length : Int) :: .bool (decide (4 < (y16.1.length : Int))) :: .bool (decide (4 < (y16.1.length : Int))) :: .bool (decide (4 < (y16.1.length : Int))) :: .str y16.1 :: .int .u8 (x25.toNat : Int) :: .bool ((x25.toNat : Int) == 48) :: .bool ((x25.toNat : Int) == 48) :: .str y16.1 :: .int .i64 (y16.1.length : Int) :: .bool (decide (1 < (y16.1.length : Int))) :: .bool (decide (1 < (y16.1.length : Int))) :: .bool (decide (1 < (y16.1.length : Int))) :: an 22 [])))), ⟨lv + 1, L, E⟩, [], E⟩ [] (by first | (simp -implicitDefEqProofs [GStepT.cs, g0, hg20, hg22, hg24, q26, q27, hg28]; done) | simp -implicitDefEqProofs [GStepT.cs, g0, hg20, hg22, hg24, q26, q27, hg28, hg20n, hg22n, hg24n, hg28n]) claims_nil ?_
                  refine satO_nil (by simp) ?_
                  refine ⟨⟨an 2 (.ptr (lv + 1) i2 0 :: an 1 (.str y3.1 :: an 2 (.str y16.1 :: an 51 (.bool (decide (1 < (y16.1.length : Int))) :: an 22 [])))), ⟨lv + 1, L, E⟩, [], E⟩, weak_tmps ?_, n, by omega, (decide (1 < (y16.1.length : Int))), L, hA, h, rfl⟩
                  (try simp only [an, List.map_cons, List.map_nil]); repeat (first | exact VLeL.nil | refine VLeL.cons (by first | exact VLe.refl _ | exact VLe.any _ | exact VLe.nil _ _ | exact VLe.full _ _ | (refine VLe.agg' ?_; repeat (first | exact VLeL.nil | refine VLeL.cons (by first | exact VLe.refl _ | exact VLe.any _ | exact VLe.nil _ _) ?_))) ?_)
                · have h := ite_f hg29 h
                  have hg29n := hg29
                  try simp at hg29n
                  have g0 := hA.get (k := 0) rfl
                  refine satO_step 22 [] ⟨an 2 (.ptr (lv + 1) i2 0 :: an 1 (.str y3.1 :: .str y3.2.1 :: .bool y3.2.2 :: .str y16.1 :: .bool y16.2 :: an 15 (.bool x5 :: an 8 (.tup [.str y16.1, .bool y16.2] :: .str y3.2.1 :: .tup [.str y16.1, .bool y16.2] :: .str y16.1 :: .bool y16.2 :: .bool y16.2 :: .bool (!y16.2) :: .bool (!y16.2) :: .str y16.1 :: .int .i64 (y16.1.length : Int) :: .bool ((y16.1.length : Int) == 0) :: .bool ((y16.1.length : Int) == 0) :: .bool ((y16.1.length : Int) == 0) :: .str y16.1 :: .int .i64 (y16.1.length : Int) :: .bool (decide (4 < (y16.1.length : Int))) :: .bool (decide (4 < (y16.1.length : Int))) :: .bool (decide (4 < (y16.1.length : Int))) :: .str y16.1 :: .int .u8 (x25.toNat : Int) :: .bool ((x25.toNat : Int) == 48) :: .bool ((x25.toNat : Int) == 48) :: .tup [] :: .tup [] :: .tup [] :: .bool false :: .bool false :: an 22 [])))), ⟨lv + 1, L, E⟩, [], E⟩ [] (by first | (simp -implicitDefEqProofs [GStepT.cs, g0, hg20, hg22, hg24, q26, q27, hg29]; done) | simp -implicitDefEqProofs [GStepT.cs, g0, hg20, hg22, hg24, q26, q27, hg29, hg20n, hg22n, hg24n, hg29n]) claims_nil ?_
                  refine satO_nil (by simp) ?_
                  refine ⟨⟨an 2 (.ptr (lv + 1) i2 0 :: an 1 (.str y3.1 :: an 2 (.str y16.1 :: an 51 (.bool false :: an 22 [])))), ⟨lv + 1, L, E⟩, [], E⟩, weak_tmps ?_, n, by omega, false, L, hA, h, rfl⟩
                  (try simp only [an, List.map_cons, List.map_nil]); repeat (first | exact VLeL.nil | refine VLeL.cons (by first | exact VLe.refl _ | exact VLe.any _ | exact VLe.nil _ _ | exact VLe.full _ _ | (refine VLe.agg' ?_; repeat (first | exact VLeL.nil | refine VLeL.cons (by first | exact VLe.refl _ | exact VLe.any _ | exact VLe.nil _ _) ?_))) ?_)
        · rintro σ0 σ hw ⟨k, hk, x18, L, hA, h, rfl⟩
          rcases k with _ | n
          · simp [go_label_read_J3] at h
          · rw [go_label_read_J3] at h
            refine sat_weak hw ?_
            repeat refine sat_seq ?_
            refine sat_cond rfl (fun hb => ?_) (fun hb => ?_)
            · have h := ite_t hb h
              repeat refine sat_seq ?_
              refine satO_reg ?_
              have g0 := hA.get (k := 0) rfl
              refine satO_step 1 [] ⟨an 2 (.ptr (lv + 1) i2 0 :: an 1 (.str y3.1 :: an 2 (.str y16.1 :: an 51 (.bool x18 :: .agg [.str ([]), .int .i64 0] :: an 21 [])))), ⟨lv + 1, L, E⟩, [], E⟩ [] (by simp -implicitDefEqProofs [GStepT.cs, g0]) claims_nil ?_
              have g0 := hA.get (k := 0) rfl
              refine satO_step 1 [] ⟨an 2 (.ptr (lv + 1) i2 0 :: an 1 (.str y3.1 :: an 2 (.str y16.1 :: an 51 (.bool x18 :: .agg [.str ([]), .int .i64 0] :: an 21 [])))), ⟨lv + 1, (L.set i2 (some (.cells [.str ([]), .int .i64 0]))), E⟩, [], E⟩ [] (by simp -implicitDefEqProofs [GStepT.cs, g0]) claims_nil ?_
              have hA : AccG (lv + 1) (L.set i2 (some (.cells [.str ([]), .int .i64 0]))) [] [(i2, .cells [.str ([]), .int .i64 0])] := hA.upd (k := 0) rfl _
              generalize (L.set i2 (some (.cells [.str ([]), .int .i64 0]))) = L at hA ⊢
              have g0 := hA.get (k := 0) rfl
              refine satO_step 1 [] ⟨an 2 (.ptr (lv + 1) i2 0 :: .bool false :: .str y3.1 :: an 2 (.str y16.1 :: an 51 (.bool x18 :: .agg [.str ([]), .int .i64 0] :: an 21 []))), ⟨lv + 1, L, E⟩, [], E⟩ [] (by simp -implicitDefEqProofs [GStepT.cs, g0]) claims_nil ?_
              refine satO_nil (by simp) ?_
              repeat refine sat_seq ?_
              refine sat_ret ?_
              have g0 := hA.get (k := 0) rfl
              refine ends (v := .tup [.agg [.str ([]), .int .i64 0], .bool false]) (by simp [resultsV, resL, resV, tupOf, Try.f63, pLoad, g0, GStepT.cs]) rfl rfl ?_
              injection h with h
              subst h
              exact .keep _ (by simp [V.kin, V.kinL, GStepT.cs])
            · have h := ite_f hb h
              repeat refine sat_seq ?_
              refine sat_skip ?_
              repeat refine sat_seq ?_
              refine satO_reg ?_
              have g0 := hA.get (k := 0) rfl
              refine satO_step 1 [] ⟨an 2 (.ptr (lv + 1) i2 0 :: an 1 (.str y3.1 :: an 2 (.str y16.1 :: an 1 (.int .i64 0 :: an 49 (.bool x18 :: an 22 []))))), ⟨lv + 1, L, E⟩, [], E⟩ [] (by simp -implicitDefEqProofs [GStepT.cs, g0]) claims_nil ?_
              refine satO_nil (by simp) ?_
              repeat refine sat_seq ?_
              refine satO_reg ?_
              have g0 := hA.get (k := 0) rfl
              refine satO_step 1 [] ⟨an 2 (.ptr (lv + 1) i2 0 :: an 1 (.str y3.1 :: an 2 (.str y16.1 :: an 1 (.int .i64 0 :: an 49 (.bool x18 :: an 1 (.str y16.1 :: an 20 [])))))), ⟨lv + 1, L, E⟩, [], E⟩ [] (by simp -implicitDefEqProofs [GStepT.cs, g0]) claims_nil ?_
              refine satO_step 1 [] ⟨an 2 (.ptr (lv + 1) i2 0 :: an 1 (.str y3.1 :: an 2 (.str y16.1 :: an 1 (.int .i64 0 :: an 49 (.bool x18 :: an 1 (.str y16.1 :: .ptr (lv + 1) L.length 0 :: an 19 [])))))), ⟨lv + 1, (L ++ [some (.siter y16.1 0)]), E⟩, [], E⟩ [] (by simp -implicitDefEqProofs [GStepT.cs]) claims_nil ?_
              have hA : AccG (lv + 1) (L ++ [some (.siter y16.1 0)]) [] [(L.length, .siter y16.1 0), (i2, .cells [.str ([]), .int .i64 0])] := hA.obj _
              generalize L.length = i31 at hA ⊢
              generalize (L ++ [some (.siter y16.1 0)]) = L at hA ⊢
              refine satO_nil (by simp) ?_
              repeat refine sat_seq ?_
              refine sat_block ?_
              repeat refine sat_seq ?_
              refine sat_loop (fun k σ => ∃ (x32 : Nat) (x33 : GStepT) (x34 : Int) (L : List (Option AObj)), k ≤ n ∧ AccG (lv + 1) L [] [(i31, .siter y16.1 x32), (i2, .cells x33.cs)] ∧ go_label_read_L1 k y3 y16 x32 x33 x34 = some r ∧ σ = ⟨an 2 (.ptr (lv + 1) i2 0 :: an 1 (.str y3.1 :: an 4 (.int .i64 x34 :: an 52 (.ptr (lv + 1) i31 0 :: an 19 [])))), ⟨lv + 1, L, E⟩, [], E⟩) n ⟨an 2 (.ptr (lv + 1) i2 0 :: an 1 (.str y3.1 :: an 4 (.int .i64 0 :: an 52 (.ptr (lv + 1) i31 0 :: an 19 [])))), ⟨lv + 1, L, E⟩, [], E⟩ (weak_tmps ?_) ⟨0, (GStepT.mk ([]) 0), 0, L, Nat.le_refl _, hA, h, rfl⟩ ?_
              · (try simp only [an, List.map_cons, List.map_nil]); repeat (first | exact VLeL.nil | refine VLeL.cons (by first | exact VLe.refl _ | exact VLe.any _ | exact VLe.nil _ _ | exact VLe.full _ _ | (refine VLe.agg' ?_; repeat (first | exact VLeL.nil | refine VLeL.cons (by first | exact VLe.refl _ | exact VLe.any _ | exact VLe.nil _ _) ?_))) ?_)
              · rintro k σ ⟨x32, x33, x34, L, hk, hA, h, rfl⟩
                rcases k with _ | n
                · simp [go_label_read_L1] at h
                · rw [go_label_read_L1] at h
                  repeat refine sat_seq ?_
                  refine satO_reg ?_
                  have g0 := hA.get (k := 0) rfl
                  have g1 := hA.get (k := 1) rfl
                  rcases Bool.eq_false_or_eq_true (decide (x32 < y16.1.length)) with hg35 | hg35
                  · have h := ite_t hg35 h
                    refine satO_step 1 [] ⟨an 2 (.ptr (lv + 1) i2 0 :: an 1 (.str y3.1 :: an 4 (.int .i64 x34 :: an 52 (.ptr (lv + 1) i31 0 :: .tup [.bool true, .int .i64 ((x32 : Nat) : Int), .int .i32 ((decL y16.1 x32).1 : Int)] :: an 18 [])))), ⟨lv + 1, (L.set i31 (some (.siter y16.1 (x32 + (decL y16.1 x32).2)))), E⟩, [], E⟩ [] (by simp -implicitDefEqProofs [GStepT.cs, g0, g1, hg35, of_decide_eq_true hg35]) claims_nil ?_
                    have hA : AccG (lv + 1) (L.set i31 (some (.siter y16.1 (x32 + (decL y16.1 x32).2)))) [] [(i31, .siter y16.1 (x32 + (decL y16.1 x32).2)), (i2, .cells x33.cs)] := hA.upd (k := 0) rfl _
                    generalize (L.set i31 (some (.siter y16.1 (x32 + (decL y16.1 x32).2)))) = L at hA ⊢
                    have g0 := hA.get (k := 0) rfl
                    have g1 := hA.get (k := 1) rfl
                    refine satO_step 1 [] ⟨an 2 (.ptr (lv + 1) i2 0 :: an 1 (.str y3.1 :: an 4 (.int .i64 x34 :: an 52 (.ptr (lv + 1) i31 0 :: .tup [.bool true, .int .i64 ((x32 : Nat) : Int), .int .i32 ((decL y16.1 x32).1 : Int)] :: .bool true :: an 17 [])))), ⟨lv + 1, L, E⟩, [], E⟩ [] (by simp -implicitDefEqProofs [GStepT.cs, g0, g1]) claims_nil ?_
                    refine satO_nil (by simp) ?_
                    repeat refine sat_seq ?_
                    refine sat_cond rfl (fun hb => ?_) (fun hb => by cases hb)
                    repeat refine sat_seq ?_
                    refine sat_skip ?_
                    repeat refine sat_seq ?_
                    refine sat_block ?_
                    repeat refine sat_seq ?_
                    refine satO_reg ?_
                    have g0 := hA.get (k := 0) rfl
                    have g1 := hA.get (k := 1) rfl
                    refine satO_step 2 [] ⟨an 2 (.ptr (lv + 1) i2 0 :: an 1 (.str y3.1 :: an 4 (.int .i64 x34 :: an 1 (.int .i32 ((decL y16.1 x32).1 : Int) :: an 50 (.ptr (lv + 1) i31 0 :: .tup [.bool true, .int .i64 ((x32 : Nat) : Int), .int .i32 ((decL y16.1 x32).1 : Int)] :: .bool true :: .int .i32 ((decL y16.1 x32).1 : Int) :: an 16 []))))), ⟨lv + 1, L, E⟩, [], E⟩ [] (by simp -implicitDefEqProofs [GStepT.cs, g0, g1]) claims_nil ?_
                    refine satO_nil (by simp) ?_
                    repeat refine sat_seq ?_
                    refine sat_meet (fun σ => ∃ (k : Nat), k ≤ n ∧ ∃ (x36 : Bool) (L : List (Option AObj)), AccG (lv + 1) L [] [(i31, .siter y16.1 (x32 + (decL y16.1 x32).2)), (i2, .cells x33.cs)] ∧ go_label_read_J4 k y3 y16 x32 x33 x34 x36 = some r ∧ σ = ⟨an 2 (.ptr (lv + 1) i2 0 :: an 1 (.str y3.1 :: an 4 (.int .i64 x34 :: an 1 (.int .i32 ((decL y16.1 x32).1 : Int) :: an 50 (.ptr (lv + 1) i31 0 :: an 8 (.bool x36 :: an 10 [])))))), ⟨lv + 1, L, E⟩, [], E⟩) ?_ ?_
                    · refine satO_reg ?_
                      rcases Bool.eq_false_or_eq_true (decide (((decL y16.1 x32).1 : Int) < 48)) with hg37 | hg38
                      · have h := ite_t hg37 h
                        have hg37n := hg37
                        try simp at hg37n
                        have g0 := hA.get (k := 0) rfl
                        have g1 := hA.get (k := 1) rfl
                        refine satO_step 6 [] ⟨an 2 (.ptr (lv + 1) i2 0 :: an 1 (.str y3.1 :: an 4 (.int .i64 x34 :: an 1 (.int .i32 ((decL y16.1 x32).1 : Int) :: an 50 (.ptr (lv + 1) i31 0 :: .tup [.bool true, .int .i64 ((x32 : Nat) : Int), .int .i32 ((decL y16.1 x32).1 : Int)] :: .bool true :: .int .i32 ((decL y16.1 x32).1 : Int) :: .int .i32 ((decL y16.1 x32).1 : Int) :: .bool (decide (((decL y16.1 x32).1 : Int) < 48)) :: .bool (decide (((decL y16.1 x32).1 : Int) < 48)) :: .tup [] :: .tup [] :: .bool true :: an 10 []))))), ⟨lv + 1, L, E⟩, [], E⟩ [] (by first | (simp -implicitDefEqProofs [GStepT.cs, g0, g1, hg37]; done) | simp -implicitDefEqProofs [GStepT.cs, g0, g1, hg37, hg37n]) claims_nil ?_
                        refine satO_nil (by simp) ?_
                        refine ⟨⟨an 2 (.ptr (lv + 1) i2 0 :: an 1 (.str y3.1 :: an 4 (.int .i64 x34 :: an 1 (.int .i32 ((decL y16.1 x32).1 : Int) :: an 50 (.ptr (lv + 1) i31 0 :: an 8 (.bool true :: an 10 [])))))), ⟨lv + 1, L, E⟩, [], E⟩, weak_tmps ?_, n, by omega, true, L, hA, h, rfl⟩
                        (try simp only [an, List.map_cons, List.map_nil]); repeat (first | exact VLeL.nil | refine VLeL.cons (by first | exact VLe.refl _ | exact VLe.any _ | exact VLe.nil _ _ | exact VLe.full _ _ | (refine VLe.agg' ?_; repeat (first | exact VLeL.nil | refine VLeL.cons (by first | exact VLe.refl _ | exact VLe.any _ | exact VLe.nil _ _) ?_))) ?_)
                      · have h := ite_f hg38 h
                        have hg38n := hg38
                        try simp at hg38n
                        have g0 := hA.get (k := 0) rfl
                        have g1 := hA.get (k := 1) rfl
                        refine satO_step 6 [] ⟨an 2 (.ptr (lv + 1) i2 0 :: an 1 (.str y3.1 :: an 4 (.int .i64 x34 :: an 1 (.int .i32 ((decL y16.1 x32).1 : Int) :: an 50 (.ptr (lv + 1) i31 0 :: .tup [.bool true, .int .i64 ((x32 : Nat) : Int), .int .i32 ((decL y16.1 x32).1 : Int)] :: .bool true :: .int .i32 ((decL y16.1 x32).1 : Int) :: .int .i32 ((decL y16.1 x32).1 : Int) :: .bool (decide (((decL y16.1 x32).1 : Int) < 48)) :: .bool (decide (((decL y16.1 x32).1 : Int) < 48)) :: .int .i32 ((decL y16.1 x32).1 : Int) :: .bool (decide (57 < ((decL y16.1 x32).1 : Int))) :: .bool (decide (57 < ((decL y16.1 x32).1 : Int))) :: an 10 []))))), ⟨lv + 1, L, E⟩, [], E⟩ [] (by first | (simp -implicitDefEqProofs [GStepT.cs, g0, g1, hg38]; done) | simp -implicitDefEqProofs [GStepT.cs, g0, g1, hg38, hg38n]) claims_nil ?_
                        refine satO_nil (by simp) ?_
                        refine ⟨⟨an 2 (.ptr (lv + 1) i2 0 :: an 1 (.str y3.1 :: an 4 (.int .i64 x34 :: an 1 (.int .i32 ((decL y16.1 x32).1 : Int) :: an 50 (.ptr (lv + 1) i31 0 :: an 8 (.bool (decide (57 < ((decL y16.1 x32).1 : Int))) :: an 10 [])))))), ⟨lv + 1, L, E⟩, [], E⟩, weak_tmps ?_, n, by omega, (decide (57 < ((decL y16.1 x32).1 : Int))), L, hA, h, rfl⟩
                        (try simp only [an, List.map_cons, List.map_nil]); repeat (first | exact VLeL.nil | refine VLeL.cons (by first | exact VLe.refl _ | exact VLe.any _ | exact VLe.nil _ _ | exact VLe.full _ _ | (refine VLe.agg' ?_; repeat (first | exact VLeL.nil | refine VLeL.cons (by first | exact VLe.refl _ | exact VLe.any _ | exact VLe.nil _ _) ?_))) ?_)
                    · rintro σ0 σ hw ⟨k, hk, x36, L, hA, h, rfl⟩
                      rcases k with _ | n
                      · simp [go_label_read_J4] at h
                      · rw [go_label_read_J4] at h
                        refine sat_weak hw ?_
                        repeat refine sat_seq ?_
                        refine sat_cond rfl (fun hb => ?_) (fun hb => ?_)
                        · have h := ite_t hb h
                          repeat refine sat_seq ?_
                          refine satO_reg ?_
                          have g0 := hA.get (k := 0) rfl
                          have g1 := hA.get (k := 1) rfl
                          refine satO_step 1 [] ⟨an 2 (.ptr (lv + 1) i2 0 :: an 1 (.str y3.1 :: an 4 (.int .i64 x34 :: an 1 (.int .i32 ((decL y16.1 x32).1 : Int) :: an 50 (.ptr (lv + 1) i31 0 :: an 8 (.bool x36 :: .agg [.str ([]), .int .i64 0] :: an 9 [])))))), ⟨lv + 1, L, E⟩, [], E⟩ [] (by simp -implicitDefEqProofs [GStepT.cs, g0, g1]) claims_nil ?_
                          have g0 := hA.get (k := 0) rfl
                          have g1 := hA.get (k := 1) rfl
                          refine satO_step 1 [] ⟨an 2 (.ptr (lv + 1) i2 0 :: an 1 (.str y3.1 :: an 4 (.int .i64 x34 :: an 1 (.int .i32 ((decL y16.1 x32).1 : Int) :: an 50 (.ptr (lv + 1) i31 0 :: an 8 (.bool x36 :: .agg [.str ([]), .int .i64 0] :: an 9 [])))))), ⟨lv + 1, (L.set i2 (some (.cells [.str ([]), .int .i64 0]))), E⟩, [], E⟩ [] (by simp -implicitDefEqProofs [GStepT.cs, g0, g1]) claims_nil ?_
                          have hA : AccG (lv + 1) (L.set i2 (some (.cells [.str ([]), .int .i64 0]))) [] [(i31, .siter y16.1 (x32 + (decL y16.1 x32).2)), (i2, .cells [.str ([]), .int .i64 0])] := hA.upd (k := 1) rfl _
                          generalize (L.set i2 (some (.cells [.str ([]), .int .i64 0]))) = L at hA ⊢
                          have g0 := hA.get (k := 0) rfl
                          have g1 := hA.get (k := 1) rfl
                          refine satO_step 1 [] ⟨an 2 (.ptr (lv + 1) i2 0 :: .bool false :: .str y3.1 :: an 4 (.int .i64 x34 :: an 1 (.int .i32 ((decL y16.1 x32).1 : Int) :: an 50 (.ptr (lv + 1) i31 0 :: an 8 (.bool x36 :: .agg [.str ([]), .int .i64 0] :: an 9 []))))), ⟨lv + 1, L, E⟩, [], E⟩ [] (by simp -implicitDefEqProofs [GStepT.cs, g0, g1]) claims_nil ?_
                          refine satO_nil (by simp) ?_
                          repeat refine sat_seq ?_
                          refine sat_ret ?_
                          have g0 := hA.get (k := 0) rfl
                          have g1 := hA.get (k := 1) rfl
                          refine ends (v := .tup [.agg [.str ([]), .int .i64 0], .bool false]) (by simp [resultsV, resL, resV, tupOf, Try.f63, pLoad, g0, g1, GStepT.cs]) rfl rfl ?_
                          injection h with h
                          subst h
                          exact .keep _ (by simp [V.kin, V.kinL, GStepT.cs])
                        · have h := ite_f hb h
                          repeat refine sat_seq ?_
                          refine sat_skip ?_
                          repeat refine sat_seq ?_
                          refine satO_reg ?_
                          have g0 := hA.get (k := 0) rfl
                          have g1 := hA.get (k := 1) rfl
                          refine satO_step 7 [] ⟨an 2 (.ptr (lv + 1) i2 0 :: an 1 (.str y3.1 :: an 4 (.int .i64 (IntKind.i64.wrap ((IntKind.i64.wrap (10 * x34)) + (IntKind.i64.wrap (IntKind.i32.wrap (((decL y16.1 x32).1 : Int) - 48))))) :: an 1 (.int .i32 ((decL y16.1 x32).1 : Int) :: an 50 (.ptr (lv + 1) i31 0 :: an 8 (.bool x36 :: an 1 (.int .i64 x34 :: .int .i64 (IntKind.i64.wrap (10 * x34)) :: .int .i32 ((decL y16.1 x32).1 : Int) :: .int .i32 (IntKind.i32.wrap (((decL y16.1 x32).1 : Int) - 48)) :: .int .i64 (IntKind.i64.wrap (IntKind.i32.wrap (((decL y16.1 x32).1 : Int) - 48))) :: .int .i64 (IntKind.i64.wrap ((IntKind.i64.wrap (10 * x34)) + (IntKind.i64.wrap (IntKind.i32.wrap (((decL y16.1 x32).1 : Int) - 48))))) :: an 3 []))))))), ⟨lv + 1, L, E⟩, [], E⟩ [] (by simp -implicitDefEqProofs [GStepT.cs, g0, g1]) claims_nil ?_
                          refine satO_nil (by simp) ?_
                          refine ⟨n, ⟨an 2 (.ptr (lv + 1) i2 0 :: an 1 (.str y3.1 :: an 4 (.int .i64 (IntKind.i64.wrap ((IntKind.i64.wrap (10 * x34)) + (IntKind.i64.wrap (IntKind.i32.wrap (((decL y16.1 x32).1 : Int) - 48))))) :: an 52 (.ptr (lv + 1) i31 0 :: an 19 [])))), ⟨lv + 1, L, E⟩, [], E⟩, weak_tmps ?_, ⟨(x32 + (decL y16.1 x32).2), x33, (IntKind.i64.wrap ((IntKind.i64.wrap (10 * x34)) + (IntKind.i64.wrap (IntKind.i32.wrap (((decL y16.1 x32).1 : Int) - 48))))), L, by omega, hA, h, rfl⟩, by omega⟩
                          (try simp only [an, List.map_cons, List.map_nil]); repeat (first | exact VLeL.nil | refine VLeL.cons (by first | exact VLe.refl _ | exact VLe.any _ | exact VLe.nil _ _ | exact VLe.full _ _ | (refine VLe.agg' ?_; repeat (first | exact VLeL.nil | refine VLeL.cons (by first | exact VLe.refl _ | exact VLe.any _ | exact VLe.nil _ _) ?_))) ?_)
                  · have h := ite_f hg35 h
                    refine satO_step 1 [] ⟨an 2 (.ptr (lv + 1) i2 0 :: an 1 (.str y3.1 :: an 4 (.int .i64 x34 :: an 52 (.ptr (lv + 1) i31 0 :: .tup [.bool false] :: an 18 [])))), ⟨lv + 1, L, E⟩, [], E⟩ [] (by simp -implicitDefEqProofs [GStepT.cs, g0, g1, hg35, of_decide_eq_false hg35]) claims_nil ?_
                    have g0 := hA.get (k := 0) rfl
                    have g1 := hA.get (k := 1) rfl
                    refine satO_step 1 [] ⟨an 2 (.ptr (lv + 1) i2 0 :: an 1 (.str y3.1 :: an 4 (.int .i64 x34 :: an 52 (.ptr (lv + 1) i31 0 :: .tup [.bool false] :: .bool false :: an 17 [])))), ⟨lv + 1, L, E⟩, [], E⟩ [] (by simp -implicitDefEqProofs [GStepT.cs, g0, g1]) claims_nil ?_
                    refine satO_nil (by simp) ?_
                    repeat refine sat_seq ?_
                    refine sat_cond rfl (fun hb => by cases hb) (fun hb => ?_)
                    repeat refine sat_seq ?_
                    refine sat_exit ?_
                    repeat refine sat_seq ?_
                    refine satO_reg ?_
                    have g0 := hA.get (k := 0) rfl
                    have g1 := hA.get (k := 1) rfl
                    refine satO_step 3 [] ⟨an 2 (.ptr (lv + 1) i2 0 :: an 1 (.str y3.1 :: an 4 (.int .i64 x34 :: an 52 (.ptr (lv + 1) i31 0 :: .tup [.bool false] :: .bool false :: an 14 (.str y3.1 :: .int .i64 x34 :: .agg [.str y3.1, .int .i64 x34] :: []))))), ⟨lv + 1, L, E⟩, [], E⟩ [] (by simp -implicitDefEqProofs [GStepT.cs, g0, g1]) claims_nil ?_
                    have g0 := hA.get (k := 0) rfl
                    have g1 := hA.get (k := 1) rfl
                    refine satO_step 1 [] ⟨an 2 (.ptr (lv + 1) i2 0 :: an 1 (.str y3.1 :: an 4 (.int .i64 x34 :: an 52 (.ptr (lv + 1) i31 0 :: .tup [.bool false] :: .bool false :: an 14 (.str y3.1 :: .int .i64 x34 :: .agg [.str y3.1, .int .i64 x34] :: []))))), ⟨lv + 1, (L.set i2 (some (.cells [.str y3.1, .int .i64 x34]))), E⟩, [], E⟩ [] (by simp -implicitDefEqProofs [GStepT.cs, g0, g1]) claims_nil ?_
                    have hA : AccG (lv + 1) (L.set i2 (some (.cells [.str y3.1, .int .i64 x34]))) [] [(i31, .siter y16.1 x32), (i2, .cells [.str y3.1, .int .i64 x34])] := hA.upd (k := 1) rfl _
                    generalize (L.set i2 (some (.cells [.str y3.1, .int .i64 x34]))) = L at hA ⊢
                    have g0 := hA.get (k := 0) rfl
                    have g1 := hA.get (k := 1) rfl
                    refine satO_step 1 [] ⟨an 2 (.ptr (lv + 1) i2 0 :: .bool true :: .str y3.1 :: an 4 (.int .i64 x34 :: an 52 (.ptr (lv + 1) i31 0 :: .tup [.bool false] :: .bool false :: an 14 (.str y3.1 :: .int .i64 x34 :: .agg [.str y3.1, .int .i64 x34] :: [])))), ⟨lv + 1, L, E⟩, [], E⟩ [] (by simp -implicitDefEqProofs [GStepT.cs, g0, g1]) claims_nil ?_
                    refine satO_nil (by simp) ?_
                    repeat refine sat_seq ?_
                    refine sat_ret ?_
                    have g0 := hA.get (k := 0) rfl
                    have g1 := hA.get (k := 1) rfl
                    refine ends (v := .tup [.agg [.str y3.1, .int .i64 x34], .bool true]) (by simp [resultsV, resL, resV, tupOf, Try.f63, pLoad, g0, g1, GStepT.cs]) rfl rfl ?_
                    injection h with h
                    subst h
                    exact .keep _ (by simp [V.kin, V.kinL, GStepT.cs])
end Go.Proofs

namespace Go.Proofs
open Go Go.Ab
set_option maxRecDepth 10000
set_option maxHeartbeats 1000000
set_option linter.unusedSimpArgs false
set_option linter.unusedVariables false
theorem go_override_formed_1_ok (n : Nat) (a0 : Int) (r : Bool) (h : go_override_formed_1 n a0 = some r) : PCall Try.prog 48 [.int .i32 a0] (.bool r) := by
  rw [go_override_formed_1] at h
  refine pcall_of Try.func48 rfl Try.ntmps48 (fun _ _ => Try.call48 _ _) fun lv E => ?_
  simp only [List.length_cons, List.length_nil, Nat.reduceAdd, Nat.reduceSub, List.replicate, List.cons_append, List.nil_append]
  have hA := AccG.nil (lv + 1)
  generalize ([] : List (Option AObj)) = L at hA ⊢
  repeat refine sat_seq ?_
  refine satO_reg ?_
  refine satO_step 1 [] ⟨.int .i32 a0 :: an 1 (.bool false :: an 6 []), ⟨lv + 1, L, E⟩, [], E⟩ [] (by simp -implicitDefEqProofs []) claims_nil ?_
  refine satO_nil (by simp) ?_
  repeat refine sat_seq ?_
  refine sat_meet (fun σ => ∃ (x1 : Bool) (L : List (Option AObj)), AccG (lv + 1) L [] [] ∧ go_override_formed_1_J1 n x1 = some r ∧ σ = ⟨an 2 (.bool x1 :: an 6 []), ⟨lv + 1, L, E⟩, [], E⟩) ?_ ?_
  · refine satO_reg ?_
    rcases Bool.eq_false_or_eq_true (decide (a0 < 32)) with hg2 | hg3
    · have h := ite_t hg2 h
      have hg2n := hg2
      try simp at hg2n
      refine satO_step 7 [] ⟨.int .i32 a0 :: an 1 (.bool true :: .int .i32 a0 :: .bool (decide (a0 < 32)) :: .bool (decide (a0 < 32)) :: .tup [] :: .tup [] :: .bool true :: []), ⟨lv + 1, L, E⟩, [], E⟩ [] (by first | (simp -implicitDefEqProofs [hg2]; done) | simp -implicitDefEqProofs [hg2, hg2n]) claims_nil ?_
      refine satO_nil (by simp) ?_
      refine ⟨⟨an 2 (.bool true :: an 6 []), ⟨lv + 1, L, E⟩, [], E⟩, weak_tmps ?_, true, L, hA, h, rfl⟩
      (try simp only [an, List.map_cons, List.map_nil]); repeat (first | exact VLeL.nil | refine VLeL.cons (by first | exact VLe.refl _ | exact VLe.any _ | exact VLe.nil _ _ | exact VLe.full _ _ | (refine VLe.agg' ?_; repeat (first | exact VLeL.nil | refine VLeL.cons (by first | exact VLe.refl _ | exact VLe.any _ | exact VLe.nil _ _) ?_))) ?_)
    · have h := ite_f hg3 h
      have hg3n := hg3
      try simp at hg3n
      refine satO_step 7 [] ⟨.int .i32 a0 :: an 1 (.bool (decide (126 < a0)) :: .int .i32 a0 :: .bool (decide (a0 < 32)) :: .bool (decide (a0 < 32)) :: .int .i32 a0 :: .bool (decide (126 < a0)) :: .bool (decide (126 < a0)) :: []), ⟨lv + 1, L, E⟩, [], E⟩ [] (by first | (simp -implicitDefEqProofs [hg3]; done) | simp -implicitDefEqProofs [hg3, hg3n]) claims_nil ?_
      refine satO_nil (by simp) ?_
      refine ⟨⟨an 2 (.bool (decide (126 < a0)) :: an 6 []), ⟨lv + 1, L, E⟩, [], E⟩, weak_tmps ?_, (decide (126 < a0)), L, hA, h, rfl⟩
      (try simp only [an, List.map_cons, List.map_nil]); repeat (first | exact VLeL.nil | refine VLeL.cons (by first | exact VLe.refl _ | exact VLe.any _ | exact VLe.nil _ _ | exact VLe.full _ _ | (refine VLe.agg' ?_; repeat (first | exact VLeL.nil | refine VLeL.cons (by first | exact VLe.refl _ | exact VLe.any _ | exact VLe.nil _ _) ?_))) ?_)
  · rintro σ0 σ hw ⟨x1, L, hA, h, rfl⟩
    rw [go_override_formed_1_J1] at h
    refine sat_weak hw ?_
    repeat refine sat_seq ?_
    refine sat_ret ?_
    refine ends (v := .bool x1) (by simp [resultsV, resL, resV, tupOf, Try.f48, pLoad]) rfl rfl ?_
    injection h with h
    subst h
    exact (.keep _ (by simp [V.kin, V.kinL]))
end Go.Proofs

namespace Go.Proofs
open Go Go.Ab
set_option maxRecDepth 10000
set_option maxHeartbeats 1000000
set_option linter.unusedSimpArgs false
set_option linter.unusedVariables false
theorem go_strings_indexFunc__override_formed_1_ok (n : Nat) (a0 : List UInt8) (a2 : Bool) (r : Int) (h : go_strings_indexFunc__override_formed_1 n a0 a2 = some r) : PCall Try.prog 64 [.str a0, .fn 48 [] [], .bool a2] (.int .i64 r) := by
  rcases n with _ | n
  · simp [go_strings_indexFunc__override_formed_1] at h
  rw [go_strings_indexFunc__override_formed_1] at h
  refine pcall_of Try.func64 rfl Try.ntmps64 (fun _ _ => Try.call64 _ _) fun lv E => ?_
  simp only [List.length_cons, List.length_nil, Nat.reduceAdd, Nat.reduceSub, List.replicate, List.cons_append, List.nil_append]
  have hA := AccG.nil (lv + 1)
  generalize ([] : List (Option AObj)) = L at hA ⊢
  repeat refine sat_seq ?_
  refine satO_reg ?_
  refine satO_step 1 [] ⟨.str a0 :: .fn 48 [] [] :: .bool a2 :: an 3 (.int .i64 0 :: an 14 []), ⟨lv + 1, L, E⟩, [], E⟩ [] (by simp -implicitDefEqProofs []) claims_nil ?_
  refine satO_nil (by simp) ?_
  repeat refine sat_seq ?_
  refine satO_reg ?_
  refine satO_step 1 [] ⟨.str a0 :: .fn 48 [] [] :: .bool a2 :: an 3 (.int .i64 0 :: an 2 (.str a0 :: an 11 [])), ⟨lv + 1, L, E⟩, [], E⟩ [] (by simp -implicitDefEqProofs []) claims_nil ?_
  refine satO_step 1 [] ⟨.str a0 :: .fn 48 [] [] :: .bool a2 :: an 3 (.int .i64 0 :: an 2 (.str a0 :: .ptr (lv + 1) L.length 0 :: an 10 [])), ⟨lv + 1, (L ++ [some (.siter a0 0)]), E⟩, [], E⟩ [] (by simp -implicitDefEqProofs []) claims_nil ?_
  have hA : AccG (lv + 1) (L ++ [some (.siter a0 0)]) [] [(L.length, .siter a0 0)] := hA.obj _
  generalize L.length = i2 at hA ⊢
  generalize (L ++ [some (.siter a0 0)]) = L at hA ⊢
  refine satO_nil (by simp) ?_
  repeat refine sat_seq ?_
  refine sat_block ?_
  repeat refine sat_seq ?_
  refine sat_loop (fun k σ => ∃ (x3 : Nat) (L : List (Option AObj)), k ≤ n ∧ AccG (lv + 1) L [] [(i2, .siter a0 x3)] ∧ go_strings_indexFunc__override_formed_1_L1 k a0 a2 x3 = some r ∧ σ = ⟨an 1 (.fn 48 [] [] :: .bool a2 :: an 7 (.ptr (lv + 1) i2 0 :: an 10 [])), ⟨lv + 1, L, E⟩, [], E⟩) n ⟨an 1 (.fn 48 [] [] :: .bool a2 :: an 7 (.ptr (lv + 1) i2 0 :: an 10 [])), ⟨lv + 1, L, E⟩, [], E⟩ (weak_tmps ?_) ⟨0, L, Nat.le_refl _, hA, h, rfl⟩ ?_
  · (try simp only [an, List.map_cons, List.map_nil]); repeat (first | exact VLeL.nil | refine VLeL.cons (by first | exact VLe.refl _ | exact VLe.any _ | exact VLe.nil _ _ | exact VLe.full _ _ | (refine VLe.agg' ?_; repeat (first | exact VLeL.nil | refine VLeL.cons (by first | exact VLe.refl _ | exact VLe.any _ | exact VLe.nil _ _) ?_))) ?_)
  · rintro k σ ⟨x3, L, hk, hA, h, rfl⟩
    rcases k with _ | n
    · simp [go_strings_indexFunc__override_formed_1_L1] at h
    · rw [go_strings_indexFunc__override_formed_1_L1] at h
      repeat refine sat_seq ?_
      refine satO_reg ?_
      have g0 := hA.get (k := 0) rfl
      rcases Bool.eq_false_or_eq_true (decide (x3 < a0.length)) with hg4 | hg4
      · have h := ite_t hg4 h
        refine satO_step 1 [] ⟨an 1 (.fn 48 [] [] :: .bool a2 :: an 7 (.ptr (lv + 1) i2 0 :: .tup [.bool true, .int .i64 ((x3 : Nat) : Int), .int .i32 ((decL a0 x3).1 : Int)] :: an 9 [])), ⟨lv + 1, (L.set i2 (some (.siter a0 (x3 + (decL a0 x3).2)))), E⟩, [], E⟩ [] (by simp -implicitDefEqProofs [g0, hg4, of_decide_eq_true hg4]) claims_nil ?_
        have hA : AccG (lv + 1) (L.set i2 (some (.siter a0 (x3 + (decL a0 x3).2)))) [] [(i2, .siter a0 (x3 + (decL a0 x3).2))] := hA.upd (k := 0) rfl _
        generalize (L.set i2 (some (.siter a0 (x3 + (decL a0 x3).2)))) = L at hA ⊢
        have g0 := hA.get (k := 0) rfl
        refine satO_step 1 [] ⟨an 1 (.fn 48 [] [] :: .bool a2 :: an 7 (.ptr (lv + 1) i2 0 :: .tup [.bool true, .int .i64 ((x3 : Nat) : Int), .int .i32 ((decL a0 x3).1 : Int)] :: .bool true :: an 8 [])), ⟨lv + 1, L, E⟩, [], E⟩ [] (by simp -implicitDefEqProofs [g0]) claims_nil ?_
        refine satO_nil (by simp) ?_
        repeat refine sat_seq ?_
        refine sat_cond rfl (fun hb => ?_) (fun hb => by cases hb)
        repeat refine sat_seq ?_
        refine sat_skip ?_
        repeat refine sat_seq ?_
        refine sat_block ?_
        repeat refine sat_seq ?_
        refine satO_reg ?_
        have g0 := hA.get (k := 0) rfl
        refine satO_step 4 [] ⟨an 1 (.fn 48 [] [] :: .bool a2 :: an 4 (.int .i64 ((x3 : Nat) : Int) :: .int .i32 ((decL a0 x3).1 : Int) :: an 1 (.ptr (lv + 1) i2 0 :: .tup [.bool true, .int .i64 ((x3 : Nat) : Int), .int .i32 ((decL a0 x3).1 : Int)] :: .bool true :: .int .i64 ((x3 : Nat) : Int) :: .int .i32 ((decL a0 x3).1 : Int) :: an 6 []))), ⟨lv + 1, L, E⟩, [], E⟩ [] (by simp -implicitDefEqProofs [g0]) claims_nil ?_
        refine satO_nil (by simp) ?_
        repeat refine sat_seq ?_
        refine satO_reg ?_
        obtain ⟨y5, q6, h⟩ := bnd_hi h
        have g0 := hA.get (k := 0) rfl
        refine satO_step 5 [(.bool y5, none)] ⟨an 1 (.fn 48 [] [] :: .bool a2 :: an 4 (.int .i64 ((x3 : Nat) : Int) :: .int .i32 ((decL a0 x3).1 : Int) :: an 1 (.ptr (lv + 1) i2 0 :: .tup [.bool true, .int .i64 ((x3 : Nat) : Int), .int .i32 ((decL a0 x3).1 : Int)] :: .bool true :: .int .i64 ((x3 : Nat) : Int) :: .int .i32 ((decL a0 x3).1 : Int) :: .fn 48 [] [] :: .int .i32 ((decL a0 x3).1 : Int) :: .bool y5 :: .bool a2 :: .bool (y5 == a2) :: an 1 []))), ⟨lv + 1, L, E⟩, [], E⟩ [⟨48, [.int .i32 ((decL a0 x3).1 : Int)], ⟨lv + 1, L, E⟩, .bool y5, ⟨lv + 1, L, E⟩⟩] (by simp -implicitDefEqProofs [g0]) (claims_cons (go_override_formed_1_ok _ _ _ q6 _) claims_nil) ?_
        refine satO_nil (by simp) ?_
        repeat refine sat_seq ?_
        refine sat_cond rfl (fun hb => ?_) (fun hb => ?_)
        · have h := ite_t hb h
          repeat refine sat_seq ?_
          refine satO_reg ?_
          have g0 := hA.get (k := 0) rfl
          refine satO_step 2 [] ⟨an 1 (.fn 48 [] [] :: .bool a2 :: an 3 (.int .i64 ((x3 : Nat) : Int) :: .int .i64 ((x3 : Nat) : Int) :: .int .i32 ((decL a0 x3).1 : Int) :: an 1 (.ptr (lv + 1) i2 0 :: .tup [.bool true, .int .i64 ((x3 : Nat) : Int), .int .i32 ((decL a0 x3).1 : Int)] :: .bool true :: .int .i64 ((x3 : Nat) : Int) :: .int .i32 ((decL a0 x3).1 : Int) :: .fn 48 [] [] :: .int .i32 ((decL a0 x3).1 : Int) :: .bool y5 :: .bool a2 :: .bool (y5 == a2) :: .int .i64 ((x3 : Nat) : Int) :: []))), ⟨lv + 1, L, E⟩, [], E⟩ [] (by simp -implicitDefEqProofs [g0]) claims_nil ?_
          refine satO_nil (by simp) ?_
          repeat refine sat_seq ?_
          refine sat_ret ?_
          have g0 := hA.get (k := 0) rfl
          refine ends (v := .int .i64 ((x3 : Nat) : Int)) (by simp [resultsV, resL, resV, tupOf, Try.f64, pLoad, g0]) rfl rfl ?_
          injection h with h
          subst h
          exact (.keep _ (by simp [V.kin, V.kinL]))
        · have h := ite_f hb h
          repeat refine sat_seq ?_
          refine sat_skip ?_
          refine ⟨n, ⟨an 1 (.fn 48 [] [] :: .bool a2 :: an 7 (.ptr (lv + 1) i2 0 :: an 10 [])), ⟨lv + 1, L, E⟩, [], E⟩, weak_tmps ?_, ⟨(x3 + (decL a0 x3).2), L, by omega, hA, h, rfl⟩, by omega⟩
          (try simp only [an, List.map_cons, List.map_nil]); repeat (first | exact VLeL.nil | refine VLeL.cons (by first | exact VLe.refl _ | exact VLe.any _ | exact VLe.nil _ _ | exact VLe.full _ _ | (refine VLe.agg' ?_; repeat (first | exact VLeL.nil | refine VLeL.cons (by first | exact VLe.refl _ | exact VLe.any _ | exact VLe.nil _ _) ?_))) ?_)
      · have h := ite_f hg4 h
        refine satO_step 1 [] ⟨an 1 (.fn 48 [] [] :: .bool a2 :: an 7 (.ptr (lv + 1) i2 0 :: .tup [.bool false] :: an 9 [])), ⟨lv + 1, L, E⟩, [], E⟩ [] (by simp -implicitDefEqProofs [g0, hg4, of_decide_eq_false hg4]) claims_nil ?_
        have g0 := hA.get (k := 0) rfl
        refine satO_step 1 [] ⟨an 1 (.fn 48 [] [] :: .bool a2 :: an 7 (.ptr (lv + 1) i2 0 :: .tup [.bool false] :: .bool false :: an 8 [])), ⟨lv + 1, L, E⟩, [], E⟩ [] (by simp -implicitDefEqProofs [g0]) claims_nil ?_
        refine satO_nil (by simp) ?_
        repeat refine sat_seq ?_
        refine sat_cond rfl (fun hb => by cases hb) (fun hb => ?_)
        repeat refine sat_seq ?_
        refine sat_exit ?_
        repeat refine sat_seq ?_
        refine satO_reg ?_
        have g0 := hA.get (k := 0) rfl
        refine satO_step 1 [] ⟨an 1 (.fn 48 [] [] :: .bool a2 :: an 3 (.int .i64 (-1) :: an 3 (.ptr (lv + 1) i2 0 :: .tup [.bool false] :: .bool false :: an 8 []))), ⟨lv + 1, L, E⟩, [], E⟩ [] (by simp -implicitDefEqProofs [g0]) claims_nil ?_
        refine satO_nil (by simp) ?_
        repeat refine sat_seq ?_
        refine sat_ret ?_
        have g0 := hA.get (k := 0) rfl
        refine ends (v := .int .i64 (-1)) (by simp [resultsV, resL, resV, tupOf, Try.f64, pLoad, g0]) rfl rfl ?_
        injection h with h
        subst h
        exact (.keep _ (by simp [V.kin, V.kinL]))
end Go.Proofs

namespace Go.Proofs
open Go Go.Ab
set_option maxRecDepth 10000
set_option maxHeartbeats 1000000
set_option linter.unusedSimpArgs false
set_option linter.unusedVariables false
theorem go_strings_IndexFunc__override_formed_1_ok (n : Nat) (a0 : List UInt8) (r : Int) (h : go_strings_IndexFunc__override_formed_1 n a0 = some r) : PCall Try.prog 49 [.str a0, .fn 48 [] []] (.int .i64 r) := by
  rw [go_strings_IndexFunc__override_formed_1] at h
  refine pcall_of Try.func49 rfl Try.ntmps49 (fun _ _ => Try.call49 _ _) fun lv E => ?_
  simp only [List.length_cons, List.length_nil, Nat.reduceAdd, Nat.reduceSub, List.replicate, List.cons_append, List.nil_append]
  have hA := AccG.nil (lv + 1)
  generalize ([] : List (Option AObj)) = L at hA ⊢
  repeat refine sat_seq ?_
  refine satO_reg ?_
  refine satO_step 1 [] ⟨.str a0 :: .fn 48 [] [] :: an 2 (.int .i64 0 :: an 3 []), ⟨lv + 1, L, E⟩, [], E⟩ [] (by simp -implicitDefEqProofs []) claims_nil ?_
  refine satO_nil (by simp) ?_
  repeat refine sat_seq ?_
  refine satO_reg ?_
  obtain ⟨y1, q2, h⟩ := bnd_hi h
  refine satO_step 4 [(.int .i64 y1, none)] ⟨.str a0 :: .fn 48 [] [] :: an 2 (.int .i64 y1 :: .str a0 :: .fn 48 [] [] :: .int .i64 y1 :: []), ⟨lv + 1, L, E⟩, [], E⟩ [⟨64, [.str a0, .fn 48 [] [], .bool true], ⟨lv + 1, L, E⟩, .int .i64 y1, ⟨lv + 1, L, E⟩⟩] (by simp -implicitDefEqProofs []) (claims_cons (go_strings_indexFunc__override_formed_1_ok _ _ _ _ q2 _) claims_nil) ?_
  refine satO_nil (by simp) ?_
  repeat refine sat_seq ?_
  refine sat_ret ?_
  refine ends (v := .int .i64 y1) (by simp [resultsV, resL, resV, tupOf, Try.f49, pLoad]) rfl rfl ?_
  injection h with h
  subst h
  exact (.keep _ (by simp [V.kin, V.kinL]))
end Go.Proofs
