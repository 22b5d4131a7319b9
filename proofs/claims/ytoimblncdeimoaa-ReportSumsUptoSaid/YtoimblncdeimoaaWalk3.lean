/-
  The Go functions compute what their Lean functions do, by a program of this repo.
-/
import Derived.Test.YtoimblncdeimoaaFns
import Derived.Test.YtoimblncdeimoaaFacts
import Derived.Test.YtoimblncdeimoaaAbSimp
import Derived.Lib.Bytealg
import Derived.Laws.Externs
import Derived.KernelRfl
import Derived.Test.YtoimblncdeimoaaWalk0
import Derived.Test.YtoimblncdeimoaaWalk1
import Derived.Test.YtoimblncdeimoaaWalk2
namespace Go.Proofs
open Go Go.Ab
set_option maxRecDepth 10000
set_option maxHeartbeats 1000000
set_option linter.unusedSimpArgs false
set_option linter.unusedVariables false
theorem go_ref45_Same_at_2_ok (n : Nat) (a0 : List GTally) (a1 : List GTally) (r : Bool) (h : go_ref45_Same_at_2 n a0 a1 = some r) : ∀ (lv : Nat) (L : List (Option AObj)) (E : Nat → Nat → Option AObj) (asl : List AccE) (osl : List (Nat × AObj)) (u1 : V), AccG lv L (⟨30, 3, u1, a1.map GTally.el, true⟩ :: asl) (osl) → HRel Try.prog 12 [.sl 3 (a0.map GTally.el) false, u1] ⟨lv, L, E⟩ (fun o H' => ∃ (L' : List (Option AObj)), H' = ⟨lv, L', E⟩ ∧ AccG lv L' (⟨30, 3, u1, a1.map GTally.el, true⟩ :: asl) (osl) ∧ o = .ret (.bool r)) := by
  rcases n with _ | n
  · simp [go_ref45_Same_at_2] at h
  rw [go_ref45_Same_at_2] at h
  intro lv L E asl osl u1 hA
  refine hrel_flat Try.func12 rfl Try.ntmps12 (fun _ _ => Try.call12 _ _) ?_
  simp only [List.length_cons, List.length_nil, Nat.reduceAdd, Nat.reduceSub, List.replicate, List.cons_append, List.nil_append]
  repeat refine sat_seq ?_
  refine satO_reg ?_
  refine satO_step 1 [] ⟨.sl 3 (a0.map GTally.el) false :: u1 :: an 2 (.bool false :: an 21 []), ⟨lv, L, E⟩, [], E⟩ [] (by simp -implicitDefEqProofs []) claims_nil ?_
  refine satO_nil (by simp) ?_
  repeat refine sat_seq ?_
  refine satO_reg ?_
  have g1 := hA.len (P := Try.prog) (j := 0) rfl Try.underlying22 E
  simp only [List.length_map] at g1
  refine satO_step 5 [] ⟨.sl 3 (a0.map GTally.el) false :: u1 :: an 2 (.bool false :: an 1 (.sl 3 (a0.map GTally.el) false :: .int .i64 (a0.length : Int) :: u1 :: .int .i64 (a1.length : Int) :: .bool (!((a0.length : Int) == (a1.length : Int))) :: an 15 [])), ⟨lv, L, E⟩, [], E⟩ [] (by simp -implicitDefEqProofs [g1]) claims_nil ?_
  refine satO_nil (by simp) ?_
  repeat refine sat_seq ?_
  refine sat_cond rfl (fun hb => ?_) (fun hb => ?_)
  · have h := ite_t hb h
    repeat refine sat_seq ?_
    refine satO_reg ?_
    refine satO_step 1 [] ⟨.sl 3 (a0.map GTally.el) false :: u1 :: an 2 (.bool false :: an 1 (.sl 3 (a0.map GTally.el) false :: .int .i64 (a0.length : Int) :: u1 :: .int .i64 (a1.length : Int) :: .bool (!((a0.length : Int) == (a1.length : Int))) :: an 15 [])), ⟨lv, L, E⟩, [], E⟩ [] (by simp -implicitDefEqProofs []) claims_nil ?_
    refine satO_nil (by simp) ?_
    repeat refine sat_seq ?_
    refine sat_ret ?_
    have hA : AccG lv L (⟨30, 3, u1, a1.map GTally.el, true⟩ :: asl) (osl) := hA.selT (pre := [⟨30, 3, u1, a1.map GTally.el, true⟩]) (tl := asl) (preo := []) (tlo := osl) (pre' := [⟨30, 3, u1, a1.map GTally.el, true⟩]) (preo' := []) [0] (by simp) rfl [] (by simp) rfl
    injection h with h
    subst h
    try dsimp only [AExit.then, AExit.inBlock]
    refine endsF (.bool false) (.bool false) (by simp [resultsV, resL, resV, tupOf, Try.f12, pLoad]) rfl ?_ ⟨L, rfl, hA, rfl⟩
    exact VLe.refl _
  · have h := ite_f hb h
    repeat refine sat_seq ?_
    refine sat_skip ?_
    repeat refine sat_seq ?_
    refine satO_reg ?_
    refine satO_step 1 [] ⟨.sl 3 (a0.map GTally.el) false :: u1 :: an 2 (.bool false :: .int .i64 0 :: .sl 3 (a0.map GTally.el) false :: .int .i64 (a0.length : Int) :: u1 :: .int .i64 (a1.length : Int) :: .bool (!((a0.length : Int) == (a1.length : Int))) :: an 15 []), ⟨lv, L, E⟩, [], E⟩ [] (by simp -implicitDefEqProofs []) claims_nil ?_
    refine satO_nil (by simp) ?_
    repeat refine sat_seq ?_
    refine sat_block ?_
    repeat refine sat_seq ?_
    refine sat_loop (fun k σ => ∃ (x2 : Int) (L : List (Option AObj)), k ≤ n ∧ AccG lv L (⟨30, 3, u1, a1.map GTally.el, true⟩ :: asl) (osl) ∧ go_ref45_Same_at_2_L1 k a0 a1 x2 = some r ∧ σ = ⟨.sl 3 (a0.map GTally.el) false :: u1 :: an 3 (.int .i64 x2 :: an 20 []), ⟨lv, L, E⟩, [], E⟩) n ⟨.sl 3 (a0.map GTally.el) false :: u1 :: an 3 (.int .i64 0 :: an 20 []), ⟨lv, L, E⟩, [], E⟩ (weak_tmps ?_) ⟨0, L, Nat.le_refl _, hA, h, rfl⟩ ?_
    · (try simp only [an, List.map_cons, List.map_nil]); repeat (first | exact VLeL.nil | refine VLeL.cons (by first | exact VLe.refl _ | exact VLe.any _ | exact VLe.nil _ _ | exact VLe.full _ _ | (refine VLe.agg' ?_; repeat (first | exact VLeL.nil | refine VLeL.cons (by first | exact VLe.refl _ | exact VLe.any _ | exact VLe.nil _ _) ?_))) ?_)
    · rintro k σ ⟨x2, L, hk, hA, h, rfl⟩
      rcases k with _ | n
      · simp [go_ref45_Same_at_2_L1] at h
      · rw [go_ref45_Same_at_2_L1] at h
        repeat refine sat_seq ?_
        refine satO_reg ?_
        refine satO_step 4 [] ⟨.sl 3 (a0.map GTally.el) false :: u1 :: an 3 (.int .i64 x2 :: an 5 (.int .i64 x2 :: .sl 3 (a0.map GTally.el) false :: .int .i64 (a0.length : Int) :: .bool (decide (x2 < (a0.length : Int))) :: an 11 [])), ⟨lv, L, E⟩, [], E⟩ [] (by simp -implicitDefEqProofs []) claims_nil ?_
        refine satO_nil (by simp) ?_
        repeat refine sat_seq ?_
        refine sat_cond rfl (fun hb => ?_) (fun hb => ?_)
        · have h := ite_t hb h
          repeat refine sat_seq ?_
          refine sat_skip ?_
          repeat refine sat_seq ?_
          refine sat_block ?_
          repeat refine sat_seq ?_
          obtain ⟨x3, q4, h⟩ := bnd_hi h
          obtain ⟨q4, q5⟩ := ix_some q4
          obtain ⟨x6, q7, h⟩ := bnd_hi h
          obtain ⟨q7, q8⟩ := ix_some q7
          obtain ⟨p9, q10, q11, q12, q13⟩ := hA.put (P := Try.prog) (j := 0) rfl Try.underlying22 (by simp) (by simp) q7 (x := GTally.el x6) (by rw [List.getElem?_map, q8]; rfl) E
          refine satO_drw (by kernel_rfl) (by kernel_rfl) [] ⟨.sl 3 (a0.map GTally.el) false :: u1 :: an 3 (.int .i64 x2 :: an 5 (.int .i64 x2 :: .sl 3 (a0.map GTally.el) false :: .int .i64 (a0.length : Int) :: .bool (decide (x2 < (a0.length : Int))) :: an 2 (.sl 3 (a0.map GTally.el) false :: .int .i64 x2 :: .ref x3.cs 0 :: .agg x3.cs :: u1 :: .int .i64 x2 :: p9 0 :: .agg x6.cs :: .bool (!((x3.name == x6.name) && ((x3.count == x6.count) && (x3.volume == x6.volume)))) :: []))), ⟨lv, L, E⟩, [], E⟩ [] (by simp -implicitDefEqProofs [GTally.cs, q4, q5, GTally.el_cs, q10, q11, q12, GTally.el_cs]) claims_nil ?_
          repeat refine sat_seq ?_
          refine sat_cond rfl (fun hb => ?_) (fun hb => ?_)
          · have h := ite_t hb h
            repeat refine sat_seq ?_
            refine satO_reg ?_
            refine satO_step 1 [] ⟨.sl 3 (a0.map GTally.el) false :: u1 :: an 2 (.bool false :: .int .i64 x2 :: an 5 (.int .i64 x2 :: .sl 3 (a0.map GTally.el) false :: .int .i64 (a0.length : Int) :: .bool (decide (x2 < (a0.length : Int))) :: an 2 (.sl 3 (a0.map GTally.el) false :: .int .i64 x2 :: .ref x3.cs 0 :: .agg x3.cs :: u1 :: .int .i64 x2 :: p9 0 :: .agg x6.cs :: .bool (!((x3.name == x6.name) && ((x3.count == x6.count) && (x3.volume == x6.volume)))) :: []))), ⟨lv, L, E⟩, [], E⟩ [] (by simp -implicitDefEqProofs [GTally.cs]) claims_nil ?_
            refine satO_nil (by simp) ?_
            repeat refine sat_seq ?_
            refine sat_ret ?_
            have hA : AccG lv L (⟨30, 3, u1, a1.map GTally.el, true⟩ :: asl) (osl) := hA.selT (pre := [⟨30, 3, u1, a1.map GTally.el, true⟩]) (tl := asl) (preo := []) (tlo := osl) (pre' := [⟨30, 3, u1, a1.map GTally.el, true⟩]) (preo' := []) [0] (by simp) rfl [] (by simp) rfl
            injection h with h
            subst h
            try dsimp only [AExit.then, AExit.inBlock]
            refine endsF (.bool false) (.bool false) (by simp [resultsV, resL, resV, tupOf, Try.f12, pLoad, GTally.cs]) rfl ?_ ⟨L, rfl, hA, rfl⟩
            exact VLe.refl _
          · have h := ite_f hb h
            repeat refine sat_seq ?_
            refine sat_skip ?_
            repeat refine sat_seq ?_
            refine satO_reg ?_
            refine satO_step 3 [] ⟨.sl 3 (a0.map GTally.el) false :: u1 :: an 3 (.int .i64 (IntKind.i64.wrap (x2 + 1)) :: an 5 (.int .i64 x2 :: .sl 3 (a0.map GTally.el) false :: .int .i64 (a0.length : Int) :: .bool (decide (x2 < (a0.length : Int))) :: .int .i64 x2 :: .int .i64 (IntKind.i64.wrap (x2 + 1)) :: .sl 3 (a0.map GTally.el) false :: .int .i64 x2 :: .ref x3.cs 0 :: .agg x3.cs :: u1 :: .int .i64 x2 :: p9 0 :: .agg x6.cs :: .bool (!((x3.name == x6.name) && ((x3.count == x6.count) && (x3.volume == x6.volume)))) :: [])), ⟨lv, L, E⟩, [], E⟩ [] (by simp -implicitDefEqProofs [GTally.cs]) claims_nil ?_
            refine satO_nil (by simp) ?_
            refine ⟨n, ⟨.sl 3 (a0.map GTally.el) false :: u1 :: an 3 (.int .i64 (IntKind.i64.wrap (x2 + 1)) :: an 20 []), ⟨lv, L, E⟩, [], E⟩, weak_tmps ?_, ⟨(IntKind.i64.wrap (x2 + 1)), L, by omega, hA, h, rfl⟩, by omega⟩
            (try simp only [an, List.map_cons, List.map_nil]); repeat (first | exact VLeL.nil | refine VLeL.cons (by first | exact VLe.refl _ | exact VLe.any _ | exact VLe.nil _ _ | exact VLe.full _ _ | (refine VLe.agg' ?_; repeat (first | exact VLeL.nil | refine VLeL.cons (by first | exact VLe.refl _ | exact VLe.any _ | exact VLe.nil _ _) ?_))) ?_)
        · have h := ite_f hb h
          repeat refine sat_seq ?_
          refine sat_exit ?_
          repeat refine sat_seq ?_
          refine satO_reg ?_
          refine satO_step 1 [] ⟨.sl 3 (a0.map GTally.el) false :: u1 :: an 2 (.bool true :: .int .i64 x2 :: an 5 (.int .i64 x2 :: .sl 3 (a0.map GTally.el) false :: .int .i64 (a0.length : Int) :: .bool (decide (x2 < (a0.length : Int))) :: an 11 [])), ⟨lv, L, E⟩, [], E⟩ [] (by simp -implicitDefEqProofs [GTally.cs]) claims_nil ?_
          refine satO_nil (by simp) ?_
          repeat refine sat_seq ?_
          refine sat_ret ?_
          have hA : AccG lv L (⟨30, 3, u1, a1.map GTally.el, true⟩ :: asl) (osl) := hA.selT (pre := [⟨30, 3, u1, a1.map GTally.el, true⟩]) (tl := asl) (preo := []) (tlo := osl) (pre' := [⟨30, 3, u1, a1.map GTally.el, true⟩]) (preo' := []) [0] (by simp) rfl [] (by simp) rfl
          injection h with h
          subst h
          try dsimp only [AExit.then, AExit.inBlock]
          refine endsF (.bool true) (.bool true) (by simp [resultsV, resL, resV, tupOf, Try.f12, pLoad, GTally.cs]) rfl ?_ ⟨L, rfl, hA, rfl⟩
          exact VLe.refl _
end Go.Proofs

namespace Go.Proofs
open Go Go.Ab
set_option maxRecDepth 10000
set_option maxHeartbeats 1000000
set_option linter.unusedSimpArgs false
set_option linter.unusedVariables false
theorem go_gambrellaw45_ReportSums_ok (n : Nat) (a0 : List GTally) (a1 : List GTally) (r : Bool) (h : go_gambrellaw45_ReportSums n a0 a1 = some r) : PCall Try.prog 3 [.sl 3 (a0.map GTally.el) false, .sl 3 (a1.map GTally.el) false] (.bool r) := by
  rcases n with _ | n
  · simp [go_gambrellaw45_ReportSums] at h
  rw [go_gambrellaw45_ReportSums] at h
  refine pcall_of Try.func3 rfl Try.ntmps3 (fun _ _ => Try.call3 _ _) fun lv E => ?_
  simp only [List.length_cons, List.length_nil, Nat.reduceAdd, Nat.reduceSub, List.replicate, List.cons_append, List.nil_append]
  have hA := AccG.nil (lv + 1)
  generalize ([] : List (Option AObj)) = L at hA ⊢
  repeat refine sat_seq ?_
  refine satO_reg ?_
  refine satO_step 1 [] ⟨.sl 3 (a0.map GTally.el) false :: .sl 3 (a1.map GTally.el) false :: an 2 (.bool false :: an 80 []), ⟨lv + 1, L, E⟩, [], E⟩ [] (by simp -implicitDefEqProofs []) claims_nil ?_
  refine satO_nil (by simp) ?_
  repeat refine sat_seq ?_
  refine sat_meet (fun σ => ∃ (k : Nat), k ≤ n ∧ ∃ (x1 : Bool) (L : List (Option AObj)), AccG (lv + 1) L [] [] ∧ go_gambrellaw45_ReportSums_J1 k a0 a1 x1 = some r ∧ σ = ⟨.sl 3 (a0.map GTally.el) false :: .sl 3 (a1.map GTally.el) false :: an 18 (.bool x1 :: an 64 []), ⟨lv + 1, L, E⟩, [], E⟩) ?_ ?_
  · refine satO_reg ?_
    obtain ⟨y2, q3, h⟩ := bnd_hi h
    rcases Bool.eq_false_or_eq_true y2 with hg4 | hg5
    · have h := ite_t hg4 h
      have hg4n := hg4
      try simp at hg4n
      refine satO_step 6 [(.bool y2, none)] ⟨.sl 3 (a0.map GTally.el) false :: .sl 3 (a1.map GTally.el) false :: an 2 (.bool false :: an 10 (.sl 3 (a0.map GTally.el) false :: .bool y2 :: .bool y2 :: .tup [] :: .tup [] :: .bool true :: an 64 [])), ⟨lv + 1, L, E⟩, [], E⟩ [⟨5, [.sl 3 (a0.map GTally.el) false], ⟨lv + 1, L, E⟩, .bool y2, ⟨lv + 1, L, E⟩⟩] (by first | (simp -implicitDefEqProofs [hg4]; done) | simp -implicitDefEqProofs [hg4, hg4n]) (claims_cons (go_ref45_Great_ok _ _ _ q3 _) claims_nil) ?_
      refine satO_nil (by simp) ?_
      refine ⟨⟨.sl 3 (a0.map GTally.el) false :: .sl 3 (a1.map GTally.el) false :: an 18 (.bool true :: an 64 []), ⟨lv + 1, L, E⟩, [], E⟩, weak_tmps ?_, n, by omega, true, L, hA, h, rfl⟩
      (try simp only [an, List.map_cons, List.map_nil]); repeat (first | exact VLeL.nil | refine VLeL.cons (by first | exact VLe.refl _ | exact VLe.any _ | exact VLe.nil _ _ | exact VLe.full _ _ | (refine VLe.agg' ?_; repeat (first | exact VLeL.nil | refine VLeL.cons (by first | exact VLe.refl _ | exact VLe.any _ | exact VLe.nil _ _) ?_))) ?_)
    · have h := ite_f hg5 h
      have hg5n := hg5
      try simp at hg5n
      obtain ⟨y6, q7, h⟩ := bnd_hi h
      refine satO_step 6 [(.bool y2, none), (.bool y6, none)] ⟨.sl 3 (a0.map GTally.el) false :: .sl 3 (a1.map GTally.el) false :: an 2 (.bool false :: an 10 (.sl 3 (a0.map GTally.el) false :: .bool y2 :: .bool y2 :: .sl 3 (a1.map GTally.el) false :: .bool y6 :: .bool y6 :: an 64 [])), ⟨lv + 1, L, E⟩, [], E⟩ [⟨5, [.sl 3 (a0.map GTally.el) false], ⟨lv + 1, L, E⟩, .bool y2, ⟨lv + 1, L, E⟩⟩, ⟨5, [.sl 3 (a1.map GTally.el) false], ⟨lv + 1, L, E⟩, .bool y6, ⟨lv + 1, L, E⟩⟩] (by first | (simp -implicitDefEqProofs [hg5]; done) | simp -implicitDefEqProofs [hg5, hg5n]) (claims_cons (go_ref45_Great_ok _ _ _ q3 _) (claims_cons (go_ref45_Great_ok _ _ _ q7 _) claims_nil)) ?_
      refine satO_nil (by simp) ?_
      refine ⟨⟨.sl 3 (a0.map GTally.el) false :: .sl 3 (a1.map GTally.el) false :: an 18 (.bool y6 :: an 64 []), ⟨lv + 1, L, E⟩, [], E⟩, weak_tmps ?_, n, by omega, y6, L, hA, h, rfl⟩
      (try simp only [an, List.map_cons, List.map_nil]); repeat (first | exact VLeL.nil | refine VLeL.cons (by first | exact VLe.refl _ | exact VLe.any _ | exact VLe.nil _ _ | exact VLe.full _ _ | (refine VLe.agg' ?_; repeat (first | exact VLeL.nil | refine VLeL.cons (by first | exact VLe.refl _ | exact VLe.any _ | exact VLe.nil _ _) ?_))) ?_)
  · rintro σ0 σ hw ⟨k, hk, x1, L, hA, h, rfl⟩
    rcases k with _ | n
    · simp [go_gambrellaw45_ReportSums_J1] at h
    · rw [go_gambrellaw45_ReportSums_J1] at h
      refine sat_weak hw ?_
      repeat refine sat_seq ?_
      refine sat_cond rfl (fun hb => ?_) (fun hb => ?_)
      · have h := ite_t hb h
        repeat refine sat_seq ?_
        refine satO_reg ?_
        refine satO_step 1 [] ⟨.sl 3 (a0.map GTally.el) false :: .sl 3 (a1.map GTally.el) false :: an 2 (.bool true :: an 15 (.bool x1 :: an 64 [])), ⟨lv + 1, L, E⟩, [], E⟩ [] (by simp -implicitDefEqProofs []) claims_nil ?_
        refine satO_nil (by simp) ?_
        repeat refine sat_seq ?_
        refine sat_ret ?_
        refine ends (v := .bool true) (by simp [resultsV, resL, resV, tupOf, Try.f3, pLoad]) rfl rfl ?_
        injection h with h
        subst h
        exact (.keep _ (by simp [V.kin, V.kinL]))
      · have h := ite_f hb h
        repeat refine sat_seq ?_
        refine sat_skip ?_
        repeat refine sat_seq ?_
        refine satO_reg ?_
        refine satO_step 2 [] ⟨.sl 3 (a0.map GTally.el) false :: .sl 3 (a1.map GTally.el) false :: an 18 (.bool x1 :: .sl 3 [] true :: .sl 3 (a0.map GTally.el) false :: an 62 []), ⟨lv + 1, L, E⟩, [], E⟩ [] (by simp -implicitDefEqProofs []) claims_nil ?_
        have hA := hA.consS 30 3 [] true (fun _ => rfl)
        obtain ⟨l9, q10, h⟩ := bnd_hi h
        obtain ⟨q10, q11⟩ := ext_some q10
        obtain ⟨v12, L, q13, hA⟩ := hA.push (j := 0) rfl (a0.map GTally.el) (by simpa using q10) E
        refine satO_step 1 [] ⟨.sl 3 (a0.map GTally.el) false :: .sl 3 (a1.map GTally.el) false :: an 18 (.bool x1 :: .sl 3 [] true :: .sl 3 (a0.map GTally.el) false :: v12 :: an 61 []), ⟨lv + 1, L, E⟩, [], E⟩ [] (by simp -implicitDefEqProofs [q13]) claims_nil ?_
        have hA : AccG (lv + 1) L [⟨30, 3, v12, l9.map GTally.el, true⟩] [] := by rw [q11]; first | simpa [GTally.el_cs] using hA | simpa [GTally.el_eq] using hA
        obtain ⟨w0a, w0b, w0c⟩ := hA.whole (j := 0) rfl
        refine satO_step 1 [] ⟨.sl 3 (a0.map GTally.el) false :: .sl 3 (a1.map GTally.el) false :: an 3 (v12 :: an 14 (.bool x1 :: .sl 3 [] true :: .sl 3 (a0.map GTally.el) false :: v12 :: an 61 [])), ⟨lv + 1, L, E⟩, [], E⟩ [] (by simp -implicitDefEqProofs [w0a, w0b, w0c]) claims_nil ?_
        refine satO_nil (by simp) ?_
        repeat refine sat_seq ?_
        refine satO_reg ?_
        obtain ⟨w0a, w0b, w0c⟩ := hA.whole (j := 0) rfl
        refine satO_step 2 [] ⟨.sl 3 (a0.map GTally.el) false :: .sl 3 (a1.map GTally.el) false :: an 3 (v12 :: an 14 (.bool x1 :: .sl 3 [] true :: .sl 3 (a0.map GTally.el) false :: v12 :: an 1 (.sl 3 (a0.map GTally.el) false :: .sl 3 (a1.map GTally.el) false :: an 58 []))), ⟨lv + 1, L, E⟩, [], E⟩ [] (by simp -implicitDefEqProofs [w0a, w0b, w0c]) claims_nil ?_
        obtain ⟨y14, q15, h⟩ := bnd_hi h
        refine satO_call (f := 6) (args := [.sl 3 (a0.map GTally.el) false, .sl 3 (a1.map GTally.el) false]) rfl (by simp [wantedV]) rfl (by simp -implicitDefEqProofs [GTally.cs]) (go_report_Merge_own_ok _ _ _ _ q15 (lv + 1) L E _ _ hA) (fun r0 H0 hp => ?_) (fun v0 H0 hp => ?_)
        · obtain ⟨L, v16, rfl, hA, ho⟩ := hp
          replace ho := Out.ret.inj ho.symm
          subst ho
          change SatO _ _ _ ⟨.sl 3 (a0.map GTally.el) false :: .sl 3 (a1.map GTally.el) false :: an 3 (v12 :: an 14 (.bool x1 :: .sl 3 [] true :: .sl 3 (a0.map GTally.el) false :: v12 :: an 1 (.sl 3 (a0.map GTally.el) false :: .sl 3 (a1.map GTally.el) false :: .tup [v16, .int .i64 y14.2] :: an 57 []))), ⟨lv + 1, L, E⟩, [], E⟩ _
          obtain ⟨w0a, w0b, w0c⟩ := hA.whole (j := 0) rfl
          obtain ⟨w1a, w1b, w1c⟩ := hA.whole (j := 1) rfl
          refine satO_step 5 [] ⟨.sl 3 (a0.map GTally.el) false :: .sl 3 (a1.map GTally.el) false :: an 3 (v12 :: v16 :: .int .i64 y14.2 :: an 12 (.bool x1 :: .sl 3 [] true :: .sl 3 (a0.map GTally.el) false :: v12 :: .tup [v16, .int .i64 y14.2] :: .sl 3 (a0.map GTally.el) false :: .sl 3 (a1.map GTally.el) false :: .tup [v16, .int .i64 y14.2] :: v16 :: .int .i64 y14.2 :: an 55 [])), ⟨lv + 1, L, E⟩, [], E⟩ [] (by simp -implicitDefEqProofs [w0a, w0b, w0c, w1a, w1b, w1c]) claims_nil ?_
          refine satO_nil (by simp) ?_
          repeat refine sat_seq ?_
          refine satO_reg ?_
          obtain ⟨y18, q19, h⟩ := bnd_hi h
          obtain ⟨w0a, w0b, w0c⟩ := hA.whole (j := 0) rfl
          obtain ⟨w1a, w1b, w1c⟩ := hA.whole (j := 1) rfl
          refine satO_step 8 [(.tup [.sl 3 (y18.1.map GTally.el) false, .int .i64 y18.2], none)] ⟨.sl 3 (a0.map GTally.el) false :: .sl 3 (a1.map GTally.el) false :: an 3 (v12 :: v16 :: .int .i64 y14.2 :: .sl 3 (y18.1.map GTally.el) false :: .int .i64 y18.2 :: an 10 (.bool x1 :: .sl 3 [] true :: .sl 3 (a0.map GTally.el) false :: v12 :: .tup [v16, .int .i64 y14.2] :: .sl 3 (a0.map GTally.el) false :: .sl 3 (a1.map GTally.el) false :: .tup [v16, .int .i64 y14.2] :: v16 :: .int .i64 y14.2 :: .tup [.sl 3 (y18.1.map GTally.el) false, .int .i64 y18.2] :: .sl 3 (a0.map GTally.el) false :: .sl 3 (a1.map GTally.el) false :: .tup [.sl 3 (y18.1.map GTally.el) false, .int .i64 y18.2] :: .sl 3 (y18.1.map GTally.el) false :: .int .i64 y18.2 :: an 49 [])), ⟨lv + 1, L, E⟩, [], E⟩ [⟨7, [.sl 3 (a0.map GTally.el) false, .sl 3 (a1.map GTally.el) false], ⟨lv + 1, L, E⟩, .tup [.sl 3 (y18.1.map GTally.el) false, .int .i64 y18.2], ⟨lv + 1, L, E⟩⟩] (by simp -implicitDefEqProofs [w0a, w0b, w0c, w1a, w1b, w1c]) (claims_cons (go_ref45_Merge_ok _ _ _ _ q19 _) claims_nil) ?_
          refine satO_nil (by simp) ?_
          repeat refine sat_seq ?_
          refine satO_reg ?_
          obtain ⟨y20, q21, h⟩ := bnd_hi h
          obtain ⟨w0a, w0b, w0c⟩ := hA.whole (j := 0) rfl
          obtain ⟨w1a, w1b, w1c⟩ := hA.whole (j := 1) rfl
          refine satO_step 5 [(.tup [.agg y20.1.cs, .int .i64 y20.2], none)] ⟨.sl 3 (a0.map GTally.el) false :: .sl 3 (a1.map GTally.el) false :: an 3 (v12 :: v16 :: .int .i64 y14.2 :: .sl 3 (y18.1.map GTally.el) false :: .int .i64 y18.2 :: an 10 (.bool x1 :: .sl 3 [] true :: .sl 3 (a0.map GTally.el) false :: v12 :: .tup [v16, .int .i64 y14.2] :: .sl 3 (a0.map GTally.el) false :: .sl 3 (a1.map GTally.el) false :: .tup [v16, .int .i64 y14.2] :: v16 :: .int .i64 y14.2 :: .tup [.sl 3 (y18.1.map GTally.el) false, .int .i64 y18.2] :: .sl 3 (a0.map GTally.el) false :: .sl 3 (a1.map GTally.el) false :: .tup [.sl 3 (y18.1.map GTally.el) false, .int .i64 y18.2] :: .sl 3 (y18.1.map GTally.el) false :: .int .i64 y18.2 :: .tup [.agg y20.1.cs, .int .i64 y20.2] :: .sl 3 (a0.map GTally.el) false :: .tup [.agg y20.1.cs, .int .i64 y20.2] :: .agg y20.1.cs :: .int .i64 y20.2 :: an 44 [])), ⟨lv + 1, L, E⟩, [], E⟩ [⟨8, [.sl 3 (a0.map GTally.el) false], ⟨lv + 1, L, E⟩, .tup [.agg y20.1.cs, .int .i64 y20.2], ⟨lv + 1, L, E⟩⟩] (by simp -implicitDefEqProofs [GTally.cs, w0a, w0b, w0c, w1a, w1b, w1c]) (claims_cons (go_report_Total_ok _ _ _ q21 _) claims_nil) ?_
          refine satO_step 1 [] ⟨.sl 3 (a0.map GTally.el) false :: .sl 3 (a1.map GTally.el) false :: an 3 (v12 :: v16 :: .int .i64 y14.2 :: .sl 3 (y18.1.map GTally.el) false :: .int .i64 y18.2 :: .ptr (lv + 1) L.length 0 :: an 9 (.bool x1 :: .sl 3 [] true :: .sl 3 (a0.map GTally.el) false :: v12 :: .tup [v16, .int .i64 y14.2] :: .sl 3 (a0.map GTally.el) false :: .sl 3 (a1.map GTally.el) false :: .tup [v16, .int .i64 y14.2] :: v16 :: .int .i64 y14.2 :: .tup [.sl 3 (y18.1.map GTally.el) false, .int .i64 y18.2] :: .sl 3 (a0.map GTally.el) false :: .sl 3 (a1.map GTally.el) false :: .tup [.sl 3 (y18.1.map GTally.el) false, .int .i64 y18.2] :: .sl 3 (y18.1.map GTally.el) false :: .int .i64 y18.2 :: .tup [.agg y20.1.cs, .int .i64 y20.2] :: .sl 3 (a0.map GTally.el) false :: .tup [.agg y20.1.cs, .int .i64 y20.2] :: .agg y20.1.cs :: .int .i64 y20.2 :: an 44 [])), ⟨lv + 1, (L ++ [some (.cells [.str ([]), .int .i64 0, .int .i64 0])]), E⟩, [], E⟩ [] (by simp -implicitDefEqProofs [GTally.cs]) claims_nil ?_
          have hA : AccG (lv + 1) (L ++ [some (.cells [.str ([]), .int .i64 0, .int .i64 0])]) [⟨30, 3, v16, y14.1.map GTally.el, true⟩, ⟨30, 3, v12, l9.map GTally.el, true⟩] [(L.length, .cells [.str ([]), .int .i64 0, .int .i64 0])] := hA.obj _
          generalize L.length = i23 at hA ⊢
          generalize (L ++ [some (.cells [.str ([]), .int .i64 0, .int .i64 0])]) = L at hA ⊢
          have g0 := hA.get (k := 0) rfl
          obtain ⟨w0a, w0b, w0c⟩ := hA.whole (j := 0) rfl
          obtain ⟨w1a, w1b, w1c⟩ := hA.whole (j := 1) rfl
          refine satO_step 1 [] ⟨.sl 3 (a0.map GTally.el) false :: .sl 3 (a1.map GTally.el) false :: an 3 (v12 :: v16 :: .int .i64 y14.2 :: .sl 3 (y18.1.map GTally.el) false :: .int .i64 y18.2 :: .ptr (lv + 1) i23 0 :: an 9 (.bool x1 :: .sl 3 [] true :: .sl 3 (a0.map GTally.el) false :: v12 :: .tup [v16, .int .i64 y14.2] :: .sl 3 (a0.map GTally.el) false :: .sl 3 (a1.map GTally.el) false :: .tup [v16, .int .i64 y14.2] :: v16 :: .int .i64 y14.2 :: .tup [.sl 3 (y18.1.map GTally.el) false, .int .i64 y18.2] :: .sl 3 (a0.map GTally.el) false :: .sl 3 (a1.map GTally.el) false :: .tup [.sl 3 (y18.1.map GTally.el) false, .int .i64 y18.2] :: .sl 3 (y18.1.map GTally.el) false :: .int .i64 y18.2 :: .tup [.agg y20.1.cs, .int .i64 y20.2] :: .sl 3 (a0.map GTally.el) false :: .tup [.agg y20.1.cs, .int .i64 y20.2] :: .agg y20.1.cs :: .int .i64 y20.2 :: an 44 [])), ⟨lv + 1, (L.set i23 (some (.cells y20.1.cs))), E⟩, [], E⟩ [] (by simp -implicitDefEqProofs [GTally.cs, g0, w0a, w0b, w0c, w1a, w1b, w1c]) claims_nil ?_
          have hA : AccG (lv + 1) (L.set i23 (some (.cells y20.1.cs))) [⟨30, 3, v16, y14.1.map GTally.el, true⟩, ⟨30, 3, v12, l9.map GTally.el, true⟩] [(i23, .cells y20.1.cs)] := hA.upd (k := 0) rfl _
          generalize (L.set i23 (some (.cells y20.1.cs))) = L at hA ⊢
          have g0 := hA.get (k := 0) rfl
          obtain ⟨w0a, w0b, w0c⟩ := hA.whole (j := 0) rfl
          obtain ⟨w1a, w1b, w1c⟩ := hA.whole (j := 1) rfl
          refine satO_step 1 [] ⟨.sl 3 (a0.map GTally.el) false :: .sl 3 (a1.map GTally.el) false :: an 3 (v12 :: v16 :: .int .i64 y14.2 :: .sl 3 (y18.1.map GTally.el) false :: .int .i64 y18.2 :: .ptr (lv + 1) i23 0 :: .int .i64 y20.2 :: an 8 (.bool x1 :: .sl 3 [] true :: .sl 3 (a0.map GTally.el) false :: v12 :: .tup [v16, .int .i64 y14.2] :: .sl 3 (a0.map GTally.el) false :: .sl 3 (a1.map GTally.el) false :: .tup [v16, .int .i64 y14.2] :: v16 :: .int .i64 y14.2 :: .tup [.sl 3 (y18.1.map GTally.el) false, .int .i64 y18.2] :: .sl 3 (a0.map GTally.el) false :: .sl 3 (a1.map GTally.el) false :: .tup [.sl 3 (y18.1.map GTally.el) false, .int .i64 y18.2] :: .sl 3 (y18.1.map GTally.el) false :: .int .i64 y18.2 :: .tup [.agg y20.1.cs, .int .i64 y20.2] :: .sl 3 (a0.map GTally.el) false :: .tup [.agg y20.1.cs, .int .i64 y20.2] :: .agg y20.1.cs :: .int .i64 y20.2 :: an 44 [])), ⟨lv + 1, L, E⟩, [], E⟩ [] (by simp -implicitDefEqProofs [GTally.cs, g0, w0a, w0b, w0c, w1a, w1b, w1c]) claims_nil ?_
          refine satO_nil (by simp) ?_
          repeat refine sat_seq ?_
          refine satO_reg ?_
          obtain ⟨y24, q25, h⟩ := bnd_hi h
          have g0 := hA.get (k := 0) rfl
          obtain ⟨w0a, w0b, w0c⟩ := hA.whole (j := 0) rfl
          obtain ⟨w1a, w1b, w1c⟩ := hA.whole (j := 1) rfl
          refine satO_step 5 [(.tup [.agg y24.1.cs, .int .i64 y24.2], none)] ⟨.sl 3 (a0.map GTally.el) false :: .sl 3 (a1.map GTally.el) false :: an 3 (v12 :: v16 :: .int .i64 y14.2 :: .sl 3 (y18.1.map GTally.el) false :: .int .i64 y18.2 :: .ptr (lv + 1) i23 0 :: .int .i64 y20.2 :: an 8 (.bool x1 :: .sl 3 [] true :: .sl 3 (a0.map GTally.el) false :: v12 :: .tup [v16, .int .i64 y14.2] :: .sl 3 (a0.map GTally.el) false :: .sl 3 (a1.map GTally.el) false :: .tup [v16, .int .i64 y14.2] :: v16 :: .int .i64 y14.2 :: .tup [.sl 3 (y18.1.map GTally.el) false, .int .i64 y18.2] :: .sl 3 (a0.map GTally.el) false :: .sl 3 (a1.map GTally.el) false :: .tup [.sl 3 (y18.1.map GTally.el) false, .int .i64 y18.2] :: .sl 3 (y18.1.map GTally.el) false :: .int .i64 y18.2 :: .tup [.agg y20.1.cs, .int .i64 y20.2] :: .sl 3 (a0.map GTally.el) false :: .tup [.agg y20.1.cs, .int .i64 y20.2] :: .agg y20.1.cs :: .int .i64 y20.2 :: .tup [.agg y24.1.cs, .int .i64 y24.2] :: .sl 3 (a0.map GTally.el) false :: .tup [.agg y24.1.cs, .int .i64 y24.2] :: .agg y24.1.cs :: .int .i64 y24.2 :: an 39 [])), ⟨lv + 1, L, E⟩, [], E⟩ [⟨9, [.sl 3 (a0.map GTally.el) false], ⟨lv + 1, L, E⟩, .tup [.agg y24.1.cs, .int .i64 y24.2], ⟨lv + 1, L, E⟩⟩] (by simp -implicitDefEqProofs [GTally.cs, g0, w0a, w0b, w0c, w1a, w1b, w1c]) (claims_cons (go_ref45_Total_ok _ _ _ q25 _) claims_nil) ?_
          refine satO_step 1 [] ⟨.sl 3 (a0.map GTally.el) false :: .sl 3 (a1.map GTally.el) false :: an 3 (v12 :: v16 :: .int .i64 y14.2 :: .sl 3 (y18.1.map GTally.el) false :: .int .i64 y18.2 :: .ptr (lv + 1) i23 0 :: .int .i64 y20.2 :: .ptr (lv + 1) L.length 0 :: an 7 (.bool x1 :: .sl 3 [] true :: .sl 3 (a0.map GTally.el) false :: v12 :: .tup [v16, .int .i64 y14.2] :: .sl 3 (a0.map GTally.el) false :: .sl 3 (a1.map GTally.el) false :: .tup [v16, .int .i64 y14.2] :: v16 :: .int .i64 y14.2 :: .tup [.sl 3 (y18.1.map GTally.el) false, .int .i64 y18.2] :: .sl 3 (a0.map GTally.el) false :: .sl 3 (a1.map GTally.el) false :: .tup [.sl 3 (y18.1.map GTally.el) false, .int .i64 y18.2] :: .sl 3 (y18.1.map GTally.el) false :: .int .i64 y18.2 :: .tup [.agg y20.1.cs, .int .i64 y20.2] :: .sl 3 (a0.map GTally.el) false :: .tup [.agg y20.1.cs, .int .i64 y20.2] :: .agg y20.1.cs :: .int .i64 y20.2 :: .tup [.agg y24.1.cs, .int .i64 y24.2] :: .sl 3 (a0.map GTally.el) false :: .tup [.agg y24.1.cs, .int .i64 y24.2] :: .agg y24.1.cs :: .int .i64 y24.2 :: an 39 [])), ⟨lv + 1, (L ++ [some (.cells [.str ([]), .int .i64 0, .int .i64 0])]), E⟩, [], E⟩ [] (by simp -implicitDefEqProofs [GTally.cs]) claims_nil ?_
          have hA : AccG (lv + 1) (L ++ [some (.cells [.str ([]), .int .i64 0, .int .i64 0])]) [⟨30, 3, v16, y14.1.map GTally.el, true⟩, ⟨30, 3, v12, l9.map GTally.el, true⟩] [(L.length, .cells [.str ([]), .int .i64 0, .int .i64 0]), (i23, .cells y20.1.cs)] := hA.obj _
          generalize L.length = i27 at hA ⊢
          generalize (L ++ [some (.cells [.str ([]), .int .i64 0, .int .i64 0])]) = L at hA ⊢
          have g0 := hA.get (k := 0) rfl
          have g1 := hA.get (k := 1) rfl
          obtain ⟨w0a, w0b, w0c⟩ := hA.whole (j := 0) rfl
          obtain ⟨w1a, w1b, w1c⟩ := hA.whole (j := 1) rfl
          refine satO_step 1 [] ⟨.sl 3 (a0.map GTally.el) false :: .sl 3 (a1.map GTally.el) false :: an 3 (v12 :: v16 :: .int .i64 y14.2 :: .sl 3 (y18.1.map GTally.el) false :: .int .i64 y18.2 :: .ptr (lv + 1) i23 0 :: .int .i64 y20.2 :: .ptr (lv + 1) i27 0 :: an 7 (.bool x1 :: .sl 3 [] true :: .sl 3 (a0.map GTally.el) false :: v12 :: .tup [v16, .int .i64 y14.2] :: .sl 3 (a0.map GTally.el) false :: .sl 3 (a1.map GTally.el) false :: .tup [v16, .int .i64 y14.2] :: v16 :: .int .i64 y14.2 :: .tup [.sl 3 (y18.1.map GTally.el) false, .int .i64 y18.2] :: .sl 3 (a0.map GTally.el) false :: .sl 3 (a1.map GTally.el) false :: .tup [.sl 3 (y18.1.map GTally.el) false, .int .i64 y18.2] :: .sl 3 (y18.1.map GTally.el) false :: .int .i64 y18.2 :: .tup [.agg y20.1.cs, .int .i64 y20.2] :: .sl 3 (a0.map GTally.el) false :: .tup [.agg y20.1.cs, .int .i64 y20.2] :: .agg y20.1.cs :: .int .i64 y20.2 :: .tup [.agg y24.1.cs, .int .i64 y24.2] :: .sl 3 (a0.map GTally.el) false :: .tup [.agg y24.1.cs, .int .i64 y24.2] :: .agg y24.1.cs :: .int .i64 y24.2 :: an 39 [])), ⟨lv + 1, (L.set i27 (some (.cells y24.1.cs))), E⟩, [], E⟩ [] (by simp -implicitDefEqProofs [GTally.cs, g0, g1, w0a, w0b, w0c, w1a, w1b, w1c]) claims_nil ?_
          have hA : AccG (lv + 1) (L.set i27 (some (.cells y24.1.cs))) [⟨30, 3, v16, y14.1.map GTally.el, true⟩, ⟨30, 3, v12, l9.map GTally.el, true⟩] [(i27, .cells y24.1.cs), (i23, .cells y20.1.cs)] := hA.upd (k := 0) rfl _
          generalize (L.set i27 (some (.cells y24.1.cs))) = L at hA ⊢
          have g0 := hA.get (k := 0) rfl
          have g1 := hA.get (k := 1) rfl
          obtain ⟨w0a, w0b, w0c⟩ := hA.whole (j := 0) rfl
          obtain ⟨w1a, w1b, w1c⟩ := hA.whole (j := 1) rfl
          refine satO_step 1 [] ⟨.sl 3 (a0.map GTally.el) false :: .sl 3 (a1.map GTally.el) false :: an 3 (v12 :: v16 :: .int .i64 y14.2 :: .sl 3 (y18.1.map GTally.el) false :: .int .i64 y18.2 :: .ptr (lv + 1) i23 0 :: .int .i64 y20.2 :: .ptr (lv + 1) i27 0 :: .int .i64 y24.2 :: an 6 (.bool x1 :: .sl 3 [] true :: .sl 3 (a0.map GTally.el) false :: v12 :: .tup [v16, .int .i64 y14.2] :: .sl 3 (a0.map GTally.el) false :: .sl 3 (a1.map GTally.el) false :: .tup [v16, .int .i64 y14.2] :: v16 :: .int .i64 y14.2 :: .tup [.sl 3 (y18.1.map GTally.el) false, .int .i64 y18.2] :: .sl 3 (a0.map GTally.el) false :: .sl 3 (a1.map GTally.el) false :: .tup [.sl 3 (y18.1.map GTally.el) false, .int .i64 y18.2] :: .sl 3 (y18.1.map GTally.el) false :: .int .i64 y18.2 :: .tup [.agg y20.1.cs, .int .i64 y20.2] :: .sl 3 (a0.map GTally.el) false :: .tup [.agg y20.1.cs, .int .i64 y20.2] :: .agg y20.1.cs :: .int .i64 y20.2 :: .tup [.agg y24.1.cs, .int .i64 y24.2] :: .sl 3 (a0.map GTally.el) false :: .tup [.agg y24.1.cs, .int .i64 y24.2] :: .agg y24.1.cs :: .int .i64 y24.2 :: an 39 [])), ⟨lv + 1, L, E⟩, [], E⟩ [] (by simp -implicitDefEqProofs [GTally.cs, g0, g1, w0a, w0b, w0c, w1a, w1b, w1c]) claims_nil ?_
          refine satO_nil (by simp) ?_
          repeat refine sat_seq ?_
          refine sat_meet (fun σ => ∃ (k : Nat), k ≤ n ∧ ∃ (x30 : Bool) (v28 : V) (l29 : List GTally) (L : List (Option AObj)), AccG (lv + 1) L [⟨30, 3, v28, l29.map GTally.el, true⟩, ⟨30, 3, v12, l9.map GTally.el, true⟩] [] ∧ go_gambrellaw45_ReportSums_J2 k a0 l9 l29 x30 = some r ∧ σ = ⟨.sl 3 (a0.map GTally.el) false :: an 4 (v12 :: v28 :: an 64 (.bool x30 :: an 13 [])), ⟨lv + 1, L, E⟩, [], E⟩) ?_ ?_
          · refine satO_reg ?_
            obtain ⟨y31, q32, h⟩ := bnd_hi h
            obtain ⟨y33, q34, h⟩ := bnd_hi h
            rcases Bool.eq_false_or_eq_true (!(y31 == y33)) with hg35 | hg36
            · have h := ite_t hg35 h
              have hg35n := hg35
              try simp at hg35n
              have g0 := hA.get (k := 0) rfl
              have g1 := hA.get (k := 1) rfl
              obtain ⟨w0a, w0b, w0c⟩ := hA.whole (j := 0) rfl
              obtain ⟨w1a, w1b, w1c⟩ := hA.whole (j := 1) rfl
              refine satO_step 26 [(.int .i64 y31, none), (.int .i64 y33, none)] ⟨.sl 3 (a0.map GTally.el) false :: .sl 3 (a1.map GTally.el) false :: an 3 (v12 :: v16 :: .int .i64 y14.2 :: .sl 3 (y18.1.map GTally.el) false :: .int .i64 y18.2 :: .ptr (lv + 1) i23 0 :: .int .i64 y20.2 :: .ptr (lv + 1) i27 0 :: .int .i64 y24.2 :: an 6 (.bool x1 :: .sl 3 [] true :: .sl 3 (a0.map GTally.el) false :: v12 :: .tup [v16, .int .i64 y14.2] :: .sl 3 (a0.map GTally.el) false :: .sl 3 (a1.map GTally.el) false :: .tup [v16, .int .i64 y14.2] :: v16 :: .int .i64 y14.2 :: .tup [.sl 3 (y18.1.map GTally.el) false, .int .i64 y18.2] :: .sl 3 (a0.map GTally.el) false :: .sl 3 (a1.map GTally.el) false :: .tup [.sl 3 (y18.1.map GTally.el) false, .int .i64 y18.2] :: .sl 3 (y18.1.map GTally.el) false :: .int .i64 y18.2 :: .tup [.agg y20.1.cs, .int .i64 y20.2] :: .sl 3 (a0.map GTally.el) false :: .tup [.agg y20.1.cs, .int .i64 y20.2] :: .agg y20.1.cs :: .int .i64 y20.2 :: .tup [.agg y24.1.cs, .int .i64 y24.2] :: .sl 3 (a0.map GTally.el) false :: .tup [.agg y24.1.cs, .int .i64 y24.2] :: .agg y24.1.cs :: .int .i64 y24.2 :: .sl 3 (a0.map GTally.el) false :: .int .i64 y31 :: .sl 3 (a0.map GTally.el) false :: .int .i64 y33 :: .bool (!(y31 == y33)) :: .bool (!(y31 == y33)) :: .tup [] :: .tup [] :: .tup [] :: .tup [] :: .bool true :: .bool true :: .tup [] :: .tup [] :: .tup [] :: .bool true :: .bool true :: .tup [] :: .tup [] :: .tup [] :: .bool true :: .bool true :: .tup [] :: .tup [] :: .tup [] :: .bool true :: an 13 [])), ⟨lv + 1, L, E⟩, [], E⟩ [⟨10, [.sl 3 (a0.map GTally.el) false], ⟨lv + 1, L, E⟩, .int .i64 y31, ⟨lv + 1, L, E⟩⟩, ⟨11, [.sl 3 (a0.map GTally.el) false], ⟨lv + 1, L, E⟩, .int .i64 y33, ⟨lv + 1, L, E⟩⟩] (by first | (simp -implicitDefEqProofs [GTally.cs, g0, g1, w0a, w0b, w0c, w1a, w1b, w1c, hg35]; done) | simp -implicitDefEqProofs [GTally.cs, g0, g1, w0a, w0b, w0c, w1a, w1b, w1c, hg35, hg35n]) (claims_cons (go_report_Check_ok _ _ _ q32 _) (claims_cons (go_ref45_Check_ok _ _ _ q34 _) claims_nil)) ?_
              refine satO_nil (by simp) ?_
              have hA : AccG (lv + 1) L [⟨30, 3, v16, y14.1.map GTally.el, true⟩, ⟨30, 3, v12, l9.map GTally.el, true⟩] [] := hA.sel [0, 1] (by simp) rfl (.cons _ (.cons _ .slnil))
              refine ⟨⟨.sl 3 (a0.map GTally.el) false :: an 4 (v12 :: v16 :: an 64 (.bool true :: an 13 [])), ⟨lv + 1, L, E⟩, [], E⟩, weak_tmps ?_, n, by omega, true, v16, y14.1, L, hA, h, rfl⟩
              (try simp only [an, List.map_cons, List.map_nil]); repeat (first | exact VLeL.nil | refine VLeL.cons (by first | exact VLe.refl _ | exact VLe.any _ | exact VLe.nil _ _ | exact VLe.full _ _ | (refine VLe.agg' ?_; repeat (first | exact VLeL.nil | refine VLeL.cons (by first | exact VLe.refl _ | exact VLe.any _ | exact VLe.nil _ _) ?_))) ?_)
            · have h := ite_f hg36 h
              have hg36n := hg36
              try simp at hg36n
              have g0 := hA.get (k := 0) rfl
              have g1 := hA.get (k := 1) rfl
              obtain ⟨w0a, w0b, w0c⟩ := hA.whole (j := 0) rfl
              obtain ⟨w1a, w1b, w1c⟩ := hA.whole (j := 1) rfl
              refine satO_step 8 [(.int .i64 y31, none), (.int .i64 y33, none)] ⟨.sl 3 (a0.map GTally.el) false :: .sl 3 (a1.map GTally.el) false :: an 3 (v12 :: v16 :: .int .i64 y14.2 :: .sl 3 (y18.1.map GTally.el) false :: .int .i64 y18.2 :: .ptr (lv + 1) i23 0 :: .int .i64 y20.2 :: .ptr (lv + 1) i27 0 :: .int .i64 y24.2 :: an 6 (.bool x1 :: .sl 3 [] true :: .sl 3 (a0.map GTally.el) false :: v12 :: .tup [v16, .int .i64 y14.2] :: .sl 3 (a0.map GTally.el) false :: .sl 3 (a1.map GTally.el) false :: .tup [v16, .int .i64 y14.2] :: v16 :: .int .i64 y14.2 :: .tup [.sl 3 (y18.1.map GTally.el) false, .int .i64 y18.2] :: .sl 3 (a0.map GTally.el) false :: .sl 3 (a1.map GTally.el) false :: .tup [.sl 3 (y18.1.map GTally.el) false, .int .i64 y18.2] :: .sl 3 (y18.1.map GTally.el) false :: .int .i64 y18.2 :: .tup [.agg y20.1.cs, .int .i64 y20.2] :: .sl 3 (a0.map GTally.el) false :: .tup [.agg y20.1.cs, .int .i64 y20.2] :: .agg y20.1.cs :: .int .i64 y20.2 :: .tup [.agg y24.1.cs, .int .i64 y24.2] :: .sl 3 (a0.map GTally.el) false :: .tup [.agg y24.1.cs, .int .i64 y24.2] :: .agg y24.1.cs :: .int .i64 y24.2 :: .sl 3 (a0.map GTally.el) false :: .int .i64 y31 :: .sl 3 (a0.map GTally.el) false :: .int .i64 y33 :: .bool (!(y31 == y33)) :: .bool (!(y31 == y33)) :: v16 :: .sl 3 (y18.1.map GTally.el) false :: an 31 [])), ⟨lv + 1, L, E⟩, [], E⟩ [⟨10, [.sl 3 (a0.map GTally.el) false], ⟨lv + 1, L, E⟩, .int .i64 y31, ⟨lv + 1, L, E⟩⟩, ⟨11, [.sl 3 (a0.map GTally.el) false], ⟨lv + 1, L, E⟩, .int .i64 y33, ⟨lv + 1, L, E⟩⟩] (by first | (simp -implicitDefEqProofs [GTally.cs, g0, g1, w0a, w0b, w0c, w1a, w1b, w1c, hg36]; done) | simp -implicitDefEqProofs [GTally.cs, g0, g1, w0a, w0b, w0c, w1a, w1b, w1c, hg36, hg36n]) (claims_cons (go_report_Check_ok _ _ _ q32 _) (claims_cons (go_ref45_Check_ok _ _ _ q34 _) claims_nil)) ?_
              obtain ⟨y37, q38, h⟩ := bnd_hi h
              refine satO_call (f := 12) (args := [v16, .sl 3 (y18.1.map GTally.el) false]) rfl (by simp [wantedV, hg36]) rfl (by simp -implicitDefEqProofs [GTally.cs, hg36]) (go_ref45_Same_at_ok _ _ _ _ q38 (lv + 1) L E _ _ _ hA) (fun r0 H0 hp => ?_) (fun v0 H0 hp => ?_)
              · obtain ⟨L, rfl, hA, ho⟩ := hp
                replace ho := Out.ret.inj ho.symm
                subst ho
                change SatO _ _ _ ⟨.sl 3 (a0.map GTally.el) false :: .sl 3 (a1.map GTally.el) false :: an 3 (v12 :: v16 :: .int .i64 y14.2 :: .sl 3 (y18.1.map GTally.el) false :: .int .i64 y18.2 :: .ptr (lv + 1) i23 0 :: .int .i64 y20.2 :: .ptr (lv + 1) i27 0 :: .int .i64 y24.2 :: an 6 (.bool x1 :: .sl 3 [] true :: .sl 3 (a0.map GTally.el) false :: v12 :: .tup [v16, .int .i64 y14.2] :: .sl 3 (a0.map GTally.el) false :: .sl 3 (a1.map GTally.el) false :: .tup [v16, .int .i64 y14.2] :: v16 :: .int .i64 y14.2 :: .tup [.sl 3 (y18.1.map GTally.el) false, .int .i64 y18.2] :: .sl 3 (a0.map GTally.el) false :: .sl 3 (a1.map GTally.el) false :: .tup [.sl 3 (y18.1.map GTally.el) false, .int .i64 y18.2] :: .sl 3 (y18.1.map GTally.el) false :: .int .i64 y18.2 :: .tup [.agg y20.1.cs, .int .i64 y20.2] :: .sl 3 (a0.map GTally.el) false :: .tup [.agg y20.1.cs, .int .i64 y20.2] :: .agg y20.1.cs :: .int .i64 y20.2 :: .tup [.agg y24.1.cs, .int .i64 y24.2] :: .sl 3 (a0.map GTally.el) false :: .tup [.agg y24.1.cs, .int .i64 y24.2] :: .agg y24.1.cs :: .int .i64 y24.2 :: .sl 3 (a0.map GTally.el) false :: .int .i64 y31 :: .sl 3 (a0.map GTally.el) false :: .int .i64 y33 :: .bool (!(y31 == y33)) :: .bool (!(y31 == y33)) :: v16 :: .sl 3 (y18.1.map GTally.el) false :: .bool y37 :: an 30 [])), ⟨lv + 1, L, E⟩, [], E⟩ _
                rcases Bool.eq_false_or_eq_true (!y37) with hg39 | hg40
                · have h := ite_t hg39 h
                  have hg39n := hg39
                  try simp at hg39n
                  have g0 := hA.get (k := 0) rfl
                  have g1 := hA.get (k := 1) rfl
                  obtain ⟨w0a, w0b, w0c⟩ := hA.whole (j := 0) rfl
                  obtain ⟨w1a, w1b, w1c⟩ := hA.whole (j := 1) rfl
                  refine satO_step 17 [] ⟨.sl 3 (a0.map GTally.el) false :: .sl 3 (a1.map GTally.el) false :: an 3 (v12 :: v16 :: .int .i64 y14.2 :: .sl 3 (y18.1.map GTally.el) false :: .int .i64 y18.2 :: .ptr (lv + 1) i23 0 :: .int .i64 y20.2 :: .ptr (lv + 1) i27 0 :: .int .i64 y24.2 :: an 6 (.bool x1 :: .sl 3 [] true :: .sl 3 (a0.map GTally.el) false :: v12 :: .tup [v16, .int .i64 y14.2] :: .sl 3 (a0.map GTally.el) false :: .sl 3 (a1.map GTally.el) false :: .tup [v16, .int .i64 y14.2] :: v16 :: .int .i64 y14.2 :: .tup [.sl 3 (y18.1.map GTally.el) false, .int .i64 y18.2] :: .sl 3 (a0.map GTally.el) false :: .sl 3 (a1.map GTally.el) false :: .tup [.sl 3 (y18.1.map GTally.el) false, .int .i64 y18.2] :: .sl 3 (y18.1.map GTally.el) false :: .int .i64 y18.2 :: .tup [.agg y20.1.cs, .int .i64 y20.2] :: .sl 3 (a0.map GTally.el) false :: .tup [.agg y20.1.cs, .int .i64 y20.2] :: .agg y20.1.cs :: .int .i64 y20.2 :: .tup [.agg y24.1.cs, .int .i64 y24.2] :: .sl 3 (a0.map GTally.el) false :: .tup [.agg y24.1.cs, .int .i64 y24.2] :: .agg y24.1.cs :: .int .i64 y24.2 :: .sl 3 (a0.map GTally.el) false :: .int .i64 y31 :: .sl 3 (a0.map GTally.el) false :: .int .i64 y33 :: .bool (!(y31 == y33)) :: .bool (!(y31 == y33)) :: v16 :: .sl 3 (y18.1.map GTally.el) false :: .bool y37 :: .bool (!y37) :: .bool (!y37) :: .bool (!y37) :: .tup [] :: .tup [] :: .tup [] :: .bool true :: .bool true :: .tup [] :: .tup [] :: .tup [] :: .bool true :: .bool true :: .tup [] :: .tup [] :: .tup [] :: .bool true :: an 13 [])), ⟨lv + 1, L, E⟩, [], E⟩ [] (by first | (simp -implicitDefEqProofs [GTally.cs, g0, g1, w0a, w0b, w0c, w1a, w1b, w1c, hg36, hg39]; done) | simp -implicitDefEqProofs [GTally.cs, g0, g1, w0a, w0b, w0c, w1a, w1b, w1c, hg36, hg39, hg36n, hg39n]) claims_nil ?_
                  refine satO_nil (by simp) ?_
                  have hA : AccG (lv + 1) L [⟨30, 3, v16, y14.1.map GTally.el, true⟩, ⟨30, 3, v12, l9.map GTally.el, true⟩] [] := hA.sel [0, 1] (by simp) rfl (.cons _ (.cons _ .slnil))
                  refine ⟨⟨.sl 3 (a0.map GTally.el) false :: an 4 (v12 :: v16 :: an 64 (.bool true :: an 13 [])), ⟨lv + 1, L, E⟩, [], E⟩, weak_tmps ?_, n, by omega, true, v16, y14.1, L, hA, h, rfl⟩
                  (try simp only [an, List.map_cons, List.map_nil]); repeat (first | exact VLeL.nil | refine VLeL.cons (by first | exact VLe.refl _ | exact VLe.any _ | exact VLe.nil _ _ | exact VLe.full _ _ | (refine VLe.agg' ?_; repeat (first | exact VLeL.nil | refine VLeL.cons (by first | exact VLe.refl _ | exact VLe.any _ | exact VLe.nil _ _) ?_))) ?_)
                · have h := ite_f hg40 h
                  have hg40n := hg40
                  try simp at hg40n
                  rcases Bool.eq_false_or_eq_true (!(y14.2 == y18.2)) with hg41 | hg42
                  · have h := ite_t hg41 h
                    have hg41n := hg41
                    try simp at hg41n
                    have g0 := hA.get (k := 0) rfl
                    have g1 := hA.get (k := 1) rfl
                    obtain ⟨w0a, w0b, w0c⟩ := hA.whole (j := 0) rfl
                    obtain ⟨w1a, w1b, w1c⟩ := hA.whole (j := 1) rfl
                    refine satO_step 17 [] ⟨.sl 3 (a0.map GTally.el) false :: .sl 3 (a1.map GTally.el) false :: an 3 (v12 :: v16 :: .int .i64 y14.2 :: .sl 3 (y18.1.map GTally.el) false :: .int .i64 y18.2 :: .ptr (lv + 1) i23 0 :: .int .i64 y20.2 :: .ptr (lv + 1) i27 0 :: .int .i64 y24.2 :: an 6 (.bool x1 :: .sl 3 [] true :: .sl 3 (a0.map GTally.el) false :: v12 :: .tup [v16, .int .i64 y14.2] :: .sl 3 (a0.map GTally.el) false :: .sl 3 (a1.map GTally.el) false :: .tup [v16, .int .i64 y14.2] :: v16 :: .int .i64 y14.2 :: .tup [.sl 3 (y18.1.map GTally.el) false, .int .i64 y18.2] :: .sl 3 (a0.map GTally.el) false :: .sl 3 (a1.map GTally.el) false :: .tup [.sl 3 (y18.1.map GTally.el) false, .int .i64 y18.2] :: .sl 3 (y18.1.map GTally.el) false :: .int .i64 y18.2 :: .tup [.agg y20.1.cs, .int .i64 y20.2] :: .sl 3 (a0.map GTally.el) false :: .tup [.agg y20.1.cs, .int .i64 y20.2] :: .agg y20.1.cs :: .int .i64 y20.2 :: .tup [.agg y24.1.cs, .int .i64 y24.2] :: .sl 3 (a0.map GTally.el) false :: .tup [.agg y24.1.cs, .int .i64 y24.2] :: .agg y24.1.cs :: .int .i64 y24.2 :: .sl 3 (a0.map GTally.el) false :: .int .i64 y31 :: .sl 3 (a0.map GTally.el) false :: .int .i64 y33 :: .bool (!(y31 == y33)) :: .bool (!(y31 == y33)) :: v16 :: .sl 3 (y18.1.map GTally.el) false :: .bool y37 :: .bool (!y37) :: .bool (!y37) :: .bool (!y37) :: .int .i64 y14.2 :: .int .i64 y18.2 :: .bool (!(y14.2 == y18.2)) :: .bool (!(y14.2 == y18.2)) :: .bool (!(y14.2 == y18.2)) :: .tup [] :: .tup [] :: .tup [] :: .bool true :: .bool true :: .tup [] :: .tup [] :: .tup [] :: .bool true :: an 13 [])), ⟨lv + 1, L, E⟩, [], E⟩ [] (by first | (simp -implicitDefEqProofs [GTally.cs, g0, g1, w0a, w0b, w0c, w1a, w1b, w1c, hg36, hg40, hg41]; done) | simp -implicitDefEqProofs [GTally.cs, g0, g1, w0a, w0b, w0c, w1a, w1b, w1c, hg36, hg40, hg41, hg36n, hg40n, hg41n]) claims_nil ?_
                    refine satO_nil (by simp) ?_
                    have hA : AccG (lv + 1) L [⟨30, 3, v16, y14.1.map GTally.el, true⟩, ⟨30, 3, v12, l9.map GTally.el, true⟩] [] := hA.sel [0, 1] (by simp) rfl (.cons _ (.cons _ .slnil))
                    refine ⟨⟨.sl 3 (a0.map GTally.el) false :: an 4 (v12 :: v16 :: an 64 (.bool true :: an 13 [])), ⟨lv + 1, L, E⟩, [], E⟩, weak_tmps ?_, n, by omega, true, v16, y14.1, L, hA, h, rfl⟩
                    (try simp only [an, List.map_cons, List.map_nil]); repeat (first | exact VLeL.nil | refine VLeL.cons (by first | exact VLe.refl _ | exact VLe.any _ | exact VLe.nil _ _ | exact VLe.full _ _ | (refine VLe.agg' ?_; repeat (first | exact VLeL.nil | refine VLeL.cons (by first | exact VLe.refl _ | exact VLe.any _ | exact VLe.nil _ _) ?_))) ?_)
                  · have h := ite_f hg42 h
                    have hg42n := hg42
                    try simp at hg42n
                    rcases Bool.eq_false_or_eq_true (!((y20.1.name == y24.1.name) && ((y20.1.count == y24.1.count) && (y20.1.volume == y24.1.volume)))) with hg43 | hg44
                    · have h := ite_t hg43 h
                      have hg43n := hg43
                      try simp at hg43n
                      have g0 := hA.get (k := 0) rfl
                      have g1 := hA.get (k := 1) rfl
                      obtain ⟨w0a, w0b, w0c⟩ := hA.whole (j := 0) rfl
                      obtain ⟨w1a, w1b, w1c⟩ := hA.whole (j := 1) rfl
                      refine satO_step 17 [] ⟨.sl 3 (a0.map GTally.el) false :: .sl 3 (a1.map GTally.el) false :: an 3 (v12 :: v16 :: .int .i64 y14.2 :: .sl 3 (y18.1.map GTally.el) false :: .int .i64 y18.2 :: .ptr (lv + 1) i23 0 :: .int .i64 y20.2 :: .ptr (lv + 1) i27 0 :: .int .i64 y24.2 :: an 6 (.bool x1 :: .sl 3 [] true :: .sl 3 (a0.map GTally.el) false :: v12 :: .tup [v16, .int .i64 y14.2] :: .sl 3 (a0.map GTally.el) false :: .sl 3 (a1.map GTally.el) false :: .tup [v16, .int .i64 y14.2] :: v16 :: .int .i64 y14.2 :: .tup [.sl 3 (y18.1.map GTally.el) false, .int .i64 y18.2] :: .sl 3 (a0.map GTally.el) false :: .sl 3 (a1.map GTally.el) false :: .tup [.sl 3 (y18.1.map GTally.el) false, .int .i64 y18.2] :: .sl 3 (y18.1.map GTally.el) false :: .int .i64 y18.2 :: .tup [.agg y20.1.cs, .int .i64 y20.2] :: .sl 3 (a0.map GTally.el) false :: .tup [.agg y20.1.cs, .int .i64 y20.2] :: .agg y20.1.cs :: .int .i64 y20.2 :: .tup [.agg y24.1.cs, .int .i64 y24.2] :: .sl 3 (a0.map GTally.el) false :: .tup [.agg y24.1.cs, .int .i64 y24.2] :: .agg y24.1.cs :: .int .i64 y24.2 :: .sl 3 (a0.map GTally.el) false :: .int .i64 y31 :: .sl 3 (a0.map GTally.el) false :: .int .i64 y33 :: .bool (!(y31 == y33)) :: .bool (!(y31 == y33)) :: v16 :: .sl 3 (y18.1.map GTally.el) false :: .bool y37 :: .bool (!y37) :: .bool (!y37) :: .bool (!y37) :: .int .i64 y14.2 :: .int .i64 y18.2 :: .bool (!(y14.2 == y18.2)) :: .bool (!(y14.2 == y18.2)) :: .bool (!(y14.2 == y18.2)) :: .agg y20.1.cs :: .agg y24.1.cs :: .bool (!((y20.1.name == y24.1.name) && ((y20.1.count == y24.1.count) && (y20.1.volume == y24.1.volume)))) :: .bool (!((y20.1.name == y24.1.name) && ((y20.1.count == y24.1.count) && (y20.1.volume == y24.1.volume)))) :: .bool (!((y20.1.name == y24.1.name) && ((y20.1.count == y24.1.count) && (y20.1.volume == y24.1.volume)))) :: .tup [] :: .tup [] :: .tup [] :: .bool true :: an 13 [])), ⟨lv + 1, L, E⟩, [], E⟩ [] (by first | (simp -implicitDefEqProofs [GTally.cs, g0, g1, w0a, w0b, w0c, w1a, w1b, w1c, hg36, hg40, hg42, hg43]; done) | simp -implicitDefEqProofs [GTally.cs, g0, g1, w0a, w0b, w0c, w1a, w1b, w1c, hg36, hg40, hg42, hg43, hg36n, hg40n, hg42n, hg43n]) claims_nil ?_
                      refine satO_nil (by simp) ?_
                      have hA : AccG (lv + 1) L [⟨30, 3, v16, y14.1.map GTally.el, true⟩, ⟨30, 3, v12, l9.map GTally.el, true⟩] [] := hA.sel [0, 1] (by simp) rfl (.cons _ (.cons _ .slnil))
                      refine ⟨⟨.sl 3 (a0.map GTally.el) false :: an 4 (v12 :: v16 :: an 64 (.bool true :: an 13 [])), ⟨lv + 1, L, E⟩, [], E⟩, weak_tmps ?_, n, by omega, true, v16, y14.1, L, hA, h, rfl⟩
                      (try simp only [an, List.map_cons, List.map_nil]); repeat (first | exact VLeL.nil | refine VLeL.cons (by first | exact VLe.refl _ | exact VLe.any _ | exact VLe.nil _ _ | exact VLe.full _ _ | (refine VLe.agg' ?_; repeat (first | exact VLeL.nil | refine VLeL.cons (by first | exact VLe.refl _ | exact VLe.any _ | exact VLe.nil _ _) ?_))) ?_)
                    · have h := ite_f hg44 h
                      have hg44n := hg44
                      try simp at hg44n
                      have g0 := hA.get (k := 0) rfl
                      have g1 := hA.get (k := 1) rfl
                      obtain ⟨w0a, w0b, w0c⟩ := hA.whole (j := 0) rfl
                      obtain ⟨w1a, w1b, w1c⟩ := hA.whole (j := 1) rfl
                      refine satO_step 17 [] ⟨.sl 3 (a0.map GTally.el) false :: .sl 3 (a1.map GTally.el) false :: an 3 (v12 :: v16 :: .int .i64 y14.2 :: .sl 3 (y18.1.map GTally.el) false :: .int .i64 y18.2 :: .ptr (lv + 1) i23 0 :: .int .i64 y20.2 :: .ptr (lv + 1) i27 0 :: .int .i64 y24.2 :: an 6 (.bool x1 :: .sl 3 [] true :: .sl 3 (a0.map GTally.el) false :: v12 :: .tup [v16, .int .i64 y14.2] :: .sl 3 (a0.map GTally.el) false :: .sl 3 (a1.map GTally.el) false :: .tup [v16, .int .i64 y14.2] :: v16 :: .int .i64 y14.2 :: .tup [.sl 3 (y18.1.map GTally.el) false, .int .i64 y18.2] :: .sl 3 (a0.map GTally.el) false :: .sl 3 (a1.map GTally.el) false :: .tup [.sl 3 (y18.1.map GTally.el) false, .int .i64 y18.2] :: .sl 3 (y18.1.map GTally.el) false :: .int .i64 y18.2 :: .tup [.agg y20.1.cs, .int .i64 y20.2] :: .sl 3 (a0.map GTally.el) false :: .tup [.agg y20.1.cs, .int .i64 y20.2] :: .agg y20.1.cs :: .int .i64 y20.2 :: .tup [.agg y24.1.cs, .int .i64 y24.2] :: .sl 3 (a0.map GTally.el) false :: .tup [.agg y24.1.cs, .int .i64 y24.2] :: .agg y24.1.cs :: .int .i64 y24.2 :: .sl 3 (a0.map GTally.el) false :: .int .i64 y31 :: .sl 3 (a0.map GTally.el) false :: .int .i64 y33 :: .bool (!(y31 == y33)) :: .bool (!(y31 == y33)) :: v16 :: .sl 3 (y18.1.map GTally.el) false :: .bool y37 :: .bool (!y37) :: .bool (!y37) :: .bool (!y37) :: .int .i64 y14.2 :: .int .i64 y18.2 :: .bool (!(y14.2 == y18.2)) :: .bool (!(y14.2 == y18.2)) :: .bool (!(y14.2 == y18.2)) :: .agg y20.1.cs :: .agg y24.1.cs :: .bool (!((y20.1.name == y24.1.name) && ((y20.1.count == y24.1.count) && (y20.1.volume == y24.1.volume)))) :: .bool (!((y20.1.name == y24.1.name) && ((y20.1.count == y24.1.count) && (y20.1.volume == y24.1.volume)))) :: .bool (!((y20.1.name == y24.1.name) && ((y20.1.count == y24.1.count) && (y20.1.volume == y24.1.volume)))) :: .int .i64 y20.2 :: .int .i64 y24.2 :: .bool (!(y20.2 == y24.2)) :: .bool (!(y20.2 == y24.2)) :: an 13 [])), ⟨lv + 1, L, E⟩, [], E⟩ [] (by first | (simp -implicitDefEqProofs [GTally.cs, g0, g1, w0a, w0b, w0c, w1a, w1b, w1c, hg36, hg40, hg42, hg44]; done) | simp -implicitDefEqProofs [GTally.cs, g0, g1, w0a, w0b, w0c, w1a, w1b, w1c, hg36, hg40, hg42, hg44, hg36n, hg40n, hg42n, hg44n]) claims_nil ?_
                      refine satO_nil (by simp) ?_
                      have hA : AccG (lv + 1) L [⟨30, 3, v16, y14.1.map GTally.el, true⟩, ⟨30, 3, v12, l9.map GTally.el, true⟩] [] := hA.sel [0, 1] (by simp) rfl (.cons _ (.cons _ .slnil))
                      refine ⟨⟨.sl 3 (a0.map GTally.el) false :: an 4 (v12 :: v16 :: an 64 (.bool (!(y20.2 == y24.2)) :: an 13 [])), ⟨lv + 1, L, E⟩, [], E⟩, weak_tmps ?_, n, by omega, (!(y20.2 == y24.2)), v16, y14.1, L, hA, h, rfl⟩
                      (try simp only [an, List.map_cons, List.map_nil]); repeat (first | exact VLeL.nil | refine VLeL.cons (by first | exact VLe.refl _ | exact VLe.any _ | exact VLe.nil _ _ | exact VLe.full _ _ | (refine VLe.agg' ?_; repeat (first | exact VLeL.nil | refine VLeL.cons (by first | exact VLe.refl _ | exact VLe.any _ | exact VLe.nil _ _) ?_))) ?_)
              · obtain ⟨L, _, _, ho⟩ := hp
                cases ho
          · rintro σ0 σ hw ⟨k, hk, x30, v28, l29, L, hA, h, rfl⟩
            rcases k with _ | n
            · simp [go_gambrellaw45_ReportSums_J2] at h
            · rw [go_gambrellaw45_ReportSums_J2] at h
              refine sat_weak hw ?_
              repeat refine sat_seq ?_
              refine sat_cond rfl (fun hb => ?_) (fun hb => ?_)
              · have h := ite_t hb h
                repeat refine sat_seq ?_
                refine satO_reg ?_
                obtain ⟨w0a, w0b, w0c⟩ := hA.whole (j := 0) rfl
                obtain ⟨w1a, w1b, w1c⟩ := hA.whole (j := 1) rfl
                refine satO_step 1 [] ⟨.sl 3 (a0.map GTally.el) false :: an 3 (.bool false :: v12 :: v28 :: an 64 (.bool x30 :: an 13 [])), ⟨lv + 1, L, E⟩, [], E⟩ [] (by simp -implicitDefEqProofs [GTally.cs, w0a, w0b, w0c, w1a, w1b, w1c]) claims_nil ?_
                refine satO_nil (by simp) ?_
                repeat refine sat_seq ?_
                refine sat_ret ?_
                obtain ⟨w0a, w0b, w0c⟩ := hA.whole (j := 0) rfl
                obtain ⟨w1a, w1b, w1c⟩ := hA.whole (j := 1) rfl
                refine ends (v := .bool false) (by simp [resultsV, resL, resV, tupOf, Try.f3, pLoad, w0a, w0b, w0c, w1a, w1b, w1c, GTally.cs]) rfl rfl ?_
                injection h with h
                subst h
                exact (.keep _ (by simp [V.kin, V.kinL, GTally.cs]))
              · have h := ite_f hb h
                repeat refine sat_seq ?_
                refine sat_skip ?_
                repeat refine sat_seq ?_
                refine satO_reg ?_
                obtain ⟨w0a, w0b, w0c⟩ := hA.whole (j := 0) rfl
                obtain ⟨w1a, w1b, w1c⟩ := hA.whole (j := 1) rfl
                refine satO_step 1 [] ⟨.sl 3 (a0.map GTally.el) false :: an 4 (v12 :: v28 :: an 7 (.int .i64 0 :: an 56 (.bool x30 :: an 13 []))), ⟨lv + 1, L, E⟩, [], E⟩ [] (by simp -implicitDefEqProofs [GTally.cs, w0a, w0b, w0c, w1a, w1b, w1c]) claims_nil ?_
                refine satO_nil (by simp) ?_
                repeat refine sat_seq ?_
                refine sat_block ?_
                repeat refine sat_seq ?_
                refine sat_loop (fun k σ => ∃ (x47 : Int) (v45 : V) (l46 : List GTally) (L : List (Option AObj)), k ≤ n ∧ AccG (lv + 1) L [⟨30, 3, v45, l46.map GTally.el, true⟩, ⟨30, 3, v12, l9.map GTally.el, true⟩] [] ∧ go_gambrellaw45_ReportSums_L1 k a0 l9 l46 x47 = some r ∧ σ = ⟨.sl 3 (a0.map GTally.el) false :: an 4 (v12 :: v45 :: an 7 (.int .i64 x47 :: an 70 [])), ⟨lv + 1, L, E⟩, [], E⟩) n ⟨.sl 3 (a0.map GTally.el) false :: an 4 (v12 :: v28 :: an 7 (.int .i64 0 :: an 70 [])), ⟨lv + 1, L, E⟩, [], E⟩ (weak_tmps ?_) ⟨0, v28, l29, L, Nat.le_refl _, hA, h, rfl⟩ ?_
                · (try simp only [an, List.map_cons, List.map_nil]); repeat (first | exact VLeL.nil | refine VLeL.cons (by first | exact VLe.refl _ | exact VLe.any _ | exact VLe.nil _ _ | exact VLe.full _ _ | (refine VLe.agg' ?_; repeat (first | exact VLeL.nil | refine VLeL.cons (by first | exact VLe.refl _ | exact VLe.any _ | exact VLe.nil _ _) ?_))) ?_)
                · rintro k σ ⟨x47, v45, l46, L, hk, hA, h, rfl⟩
                  rcases k with _ | n
                  · simp [go_gambrellaw45_ReportSums_L1] at h
                  · rw [go_gambrellaw45_ReportSums_L1] at h
                    repeat refine sat_seq ?_
                    refine satO_reg ?_
                    have g48 := hA.len (P := Try.prog) (j := 0) rfl Try.underlying22 E
                    simp only [List.length_map] at g48
                    obtain ⟨w0a, w0b, w0c⟩ := hA.whole (j := 0) rfl
                    obtain ⟨w1a, w1b, w1c⟩ := hA.whole (j := 1) rfl
                    refine satO_step 4 [] ⟨.sl 3 (a0.map GTally.el) false :: an 4 (v12 :: v45 :: an 7 (.int .i64 x47 :: an 57 (.int .i64 x47 :: v45 :: .int .i64 (l46.length : Int) :: .bool (decide (x47 < (l46.length : Int))) :: an 9 []))), ⟨lv + 1, L, E⟩, [], E⟩ [] (by simp -implicitDefEqProofs [GTally.cs, w0a, w0b, w0c, w1a, w1b, w1c, g48]) claims_nil ?_
                    refine satO_nil (by simp) ?_
                    repeat refine sat_seq ?_
                    refine sat_cond rfl (fun hb => ?_) (fun hb => ?_)
                    · have h := ite_t hb h
                      repeat refine sat_seq ?_
                      refine sat_skip ?_
                      repeat refine sat_seq ?_
                      refine sat_block ?_
                      repeat refine sat_seq ?_
                      refine satO_reg ?_
                      obtain ⟨x49, q50, h⟩ := bnd_hi h
                      obtain ⟨q50, q51⟩ := ix_some q50
                      obtain ⟨p52, q53, q54, q55, q56⟩ := hA.put (P := Try.prog) (j := 0) rfl Try.underlying22 (by simp) (by simp) q50 (x := GTally.el x49) (by rw [List.getElem?_map, q51]; rfl) E
                      obtain ⟨w0a, w0b, w0c⟩ := hA.whole (j := 0) rfl
                      obtain ⟨w1a, w1b, w1c⟩ := hA.whole (j := 1) rfl
                      refine satO_step 4 [] ⟨.sl 3 (a0.map GTally.el) false :: an 4 (v12 :: v45 :: an 7 (.int .i64 x47 :: an 57 (.int .i64 x47 :: v45 :: .int .i64 (l46.length : Int) :: .bool (decide (x47 < (l46.length : Int))) :: an 2 (v45 :: .int .i64 x47 :: p52 0 :: p52 1 :: an 3 [])))), ⟨lv + 1, L, E⟩, [], E⟩ [] (by simp -implicitDefEqProofs [GTally.cs, w0a, w0b, w0c, w1a, w1b, w1c, q53, q54, q55, GTally.el_cs]) claims_nil ?_
                      obtain ⟨w0a, w0b, w0c⟩ := hA.whole (j := 0) rfl
                      obtain ⟨w1a, w1b, w1c⟩ := hA.whole (j := 1) rfl
                      obtain ⟨L, q57, hA⟩ := q56 3 1 (.int .i64 77) (by simp) (by simp) (by simp [GTally.el_cs, GTally.cs]) (by simp [GTally.el_cs, GTally.cs]) (by simp [GTally.el_cs, GTally.cs])
                      refine satO_step 1 [] ⟨.sl 3 (a0.map GTally.el) false :: an 4 (v12 :: v45 :: an 7 (.int .i64 x47 :: an 57 (.int .i64 x47 :: v45 :: .int .i64 (l46.length : Int) :: .bool (decide (x47 < (l46.length : Int))) :: an 2 (v45 :: .int .i64 x47 :: p52 0 :: p52 1 :: an 3 [])))), ⟨lv + 1, L, E⟩, [], E⟩ [] (by simp -implicitDefEqProofs [-hStore, q57, w0a, w0b, w0c, w1a, w1b, w1c]) claims_nil ?_
                      have hA : AccG (lv + 1) L [⟨30, 3, v45, (l46.set (x47).toNat (GTally.mk x49.name 77 x49.volume)).map GTally.el, true⟩, ⟨30, 3, v12, l9.map GTally.el, true⟩] [] := by simpa [List.map_set, GTally.el_cs, GTally.cs] using hA
                      refine satO_nil (by simp) ?_
                      repeat refine sat_seq ?_
                      refine satO_reg ?_
                      obtain ⟨w0a, w0b, w0c⟩ := hA.whole (j := 0) rfl
                      obtain ⟨w1a, w1b, w1c⟩ := hA.whole (j := 1) rfl
                      refine satO_step 3 [] ⟨.sl 3 (a0.map GTally.el) false :: an 4 (v12 :: v45 :: an 7 (.int .i64 (IntKind.i64.wrap (x47 + 1)) :: an 57 (.int .i64 x47 :: v45 :: .int .i64 (l46.length : Int) :: .bool (decide (x47 < (l46.length : Int))) :: .int .i64 x47 :: .int .i64 (IntKind.i64.wrap (x47 + 1)) :: v45 :: .int .i64 x47 :: p52 0 :: p52 1 :: an 3 []))), ⟨lv + 1, L, E⟩, [], E⟩ [] (by simp -implicitDefEqProofs [GTally.cs, w0a, w0b, w0c, w1a, w1b, w1c]) claims_nil ?_
                      refine satO_nil (by simp) ?_
                      refine ⟨n, ⟨.sl 3 (a0.map GTally.el) false :: an 4 (v12 :: v45 :: an 7 (.int .i64 (IntKind.i64.wrap (x47 + 1)) :: an 70 [])), ⟨lv + 1, L, E⟩, [], E⟩, weak_tmps ?_, ⟨(IntKind.i64.wrap (x47 + 1)), v45, (l46.set (x47).toNat (GTally.mk x49.name 77 x49.volume)), L, by omega, hA, h, rfl⟩, by omega⟩
                      (try simp only [an, List.map_cons, List.map_nil]); repeat (first | exact VLeL.nil | refine VLeL.cons (by first | exact VLe.refl _ | exact VLe.any _ | exact VLe.nil _ _ | exact VLe.full _ _ | (refine VLe.agg' ?_; repeat (first | exact VLeL.nil | refine VLeL.cons (by first | exact VLe.refl _ | exact VLe.any _ | exact VLe.nil _ _) ?_))) ?_)
                    · have h := ite_f hb h
                      repeat refine sat_seq ?_
                      refine sat_exit ?_
                      repeat refine sat_seq ?_
                      refine satO_reg ?_
                      obtain ⟨w0a, w0b, w0c⟩ := hA.whole (j := 0) rfl
                      obtain ⟨w1a, w1b, w1c⟩ := hA.whole (j := 1) rfl
                      refine satO_step 2 [] ⟨.sl 3 (a0.map GTally.el) false :: an 4 (v12 :: v45 :: an 7 (.int .i64 x47 :: an 57 (.int .i64 x47 :: v45 :: .int .i64 (l46.length : Int) :: .bool (decide (x47 < (l46.length : Int))) :: an 6 (.sl 3 (a0.map GTally.el) false :: v12 :: an 1 [])))), ⟨lv + 1, L, E⟩, [], E⟩ [] (by simp -implicitDefEqProofs [GTally.cs, w0a, w0b, w0c, w1a, w1b, w1c]) claims_nil ?_
                      have hA : AccG (lv + 1) L [⟨30, 3, v12, l9.map GTally.el, true⟩, ⟨30, 3, v45, l46.map GTally.el, true⟩] [] := hA.selT (pre := [⟨30, 3, v45, l46.map GTally.el, true⟩, ⟨30, 3, v12, l9.map GTally.el, true⟩]) (tl := []) (preo := []) (tlo := []) (pre' := [⟨30, 3, v12, l9.map GTally.el, true⟩, ⟨30, 3, v45, l46.map GTally.el, true⟩]) (preo' := []) [1, 0] (by simp) rfl [] (by simp) rfl
                      obtain ⟨y58, q59, h⟩ := bnd_hi h
                      refine satO_call (f := 12) (args := [.sl 3 (a0.map GTally.el) false, v12]) rfl (by simp [wantedV]) rfl (by simp -implicitDefEqProofs [GTally.cs]) (go_ref45_Same_at_2_ok _ _ _ _ q59 (lv + 1) L E _ _ _ hA) (fun r0 H0 hp => ?_) (fun v0 H0 hp => ?_)
                      · obtain ⟨L, rfl, hA, ho⟩ := hp
                        replace ho := Out.ret.inj ho.symm
                        subst ho
                        change SatO _ _ _ ⟨.sl 3 (a0.map GTally.el) false :: an 4 (v12 :: v45 :: an 7 (.int .i64 x47 :: an 57 (.int .i64 x47 :: v45 :: .int .i64 (l46.length : Int) :: .bool (decide (x47 < (l46.length : Int))) :: an 6 (.sl 3 (a0.map GTally.el) false :: v12 :: .bool y58 :: [])))), ⟨lv + 1, L, E⟩, [], E⟩ _
                        obtain ⟨w0a, w0b, w0c⟩ := hA.whole (j := 0) rfl
                        obtain ⟨w1a, w1b, w1c⟩ := hA.whole (j := 1) rfl
                        refine satO_step 1 [] ⟨.sl 3 (a0.map GTally.el) false :: an 3 (.bool y58 :: v12 :: v45 :: an 7 (.int .i64 x47 :: an 57 (.int .i64 x47 :: v45 :: .int .i64 (l46.length : Int) :: .bool (decide (x47 < (l46.length : Int))) :: an 6 (.sl 3 (a0.map GTally.el) false :: v12 :: .bool y58 :: [])))), ⟨lv + 1, L, E⟩, [], E⟩ [] (by simp -implicitDefEqProofs [GTally.cs, w0a, w0b, w0c, w1a, w1b, w1c]) claims_nil ?_
                        refine satO_nil (by simp) ?_
                        repeat refine sat_seq ?_
                        refine sat_ret ?_
                        obtain ⟨w0a, w0b, w0c⟩ := hA.whole (j := 0) rfl
                        obtain ⟨w1a, w1b, w1c⟩ := hA.whole (j := 1) rfl
                        refine ends (v := .bool y58) (by simp [resultsV, resL, resV, tupOf, Try.f3, pLoad, w0a, w0b, w0c, w1a, w1b, w1c, GTally.cs]) rfl rfl ?_
                        injection h with h
                        subst h
                        exact (.keep _ (by simp [V.kin, V.kinL, GTally.cs]))
                      · obtain ⟨L, _, _, ho⟩ := hp
                        cases ho
        · obtain ⟨L, _, _, _, ho⟩ := hp
          cases ho
end Go.Proofs
