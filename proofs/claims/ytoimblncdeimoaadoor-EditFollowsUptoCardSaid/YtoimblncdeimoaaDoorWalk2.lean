/-
  The Go functions compute what their Lean functions do, by a program of this repo.
-/
import Derived.Test.YtoimblncdeimoaaDoorFns
import Derived.Test.YtoimblncdeimoaaDoorFacts
import Derived.Test.YtoimblncdeimoaaDoorAbSimp
import Derived.Lib.Bytealg
import Derived.Laws.Externs
import Derived.KernelRfl
import Derived.Test.YtoimblncdeimoaaDoorWalk1
namespace Go.Proofs
open Go Go.Ab
set_option maxRecDepth 10000
set_option maxHeartbeats 1000000
set_option linter.unusedSimpArgs false
set_option linter.unusedVariables false
theorem go_ref02_Name_ok (n : Nat) (a0 : List UInt8) (r : Bool) (h : go_ref02_Name n a0 = some r) : PCall Tryd.prog 14 [.str a0] (.bool r) := by
  rcases n with _ | n
  · simp [go_ref02_Name] at h
  rw [go_ref02_Name] at h
  refine pcall_of Tryd.func14 rfl Tryd.ntmps14 (fun _ _ => Tryd.call14 _ _) fun lv E => ?_
  simp only [List.length_cons, List.length_nil, Nat.reduceAdd, Nat.reduceSub, List.replicate, List.cons_append, List.nil_append]
  have hA := AccG.nil (lv + 1)
  generalize ([] : List (Option AObj)) = L at hA ⊢
  repeat refine sat_seq ?_
  refine satO_reg ?_
  refine satO_step 1 [] ⟨.str a0 :: an 1 (.bool false :: an 37 []), ⟨lv + 1, L, E⟩, [], E⟩ [] (by simp -implicitDefEqProofs []) claims_nil ?_
  refine satO_nil (by simp) ?_
  repeat refine sat_seq ?_
  refine satO_reg ?_
  refine satO_step 1 [] ⟨.str a0 :: an 1 (.bool false :: .int .i64 0 :: an 36 []), ⟨lv + 1, L, E⟩, [], E⟩ [] (by simp -implicitDefEqProofs []) claims_nil ?_
  refine satO_nil (by simp) ?_
  repeat refine sat_seq ?_
  refine sat_block ?_
  repeat refine sat_seq ?_
  refine sat_loop (fun k σ => ∃ (x1 : Int) (L : List (Option AObj)), k ≤ n ∧ AccG (lv + 1) L [] [] ∧ go_ref02_Name_L1 k a0 x1 = some r ∧ σ = ⟨.str a0 :: an 2 (.int .i64 x1 :: an 36 []), ⟨lv + 1, L, E⟩, [], E⟩) n ⟨.str a0 :: an 2 (.int .i64 0 :: an 36 []), ⟨lv + 1, L, E⟩, [], E⟩ (weak_tmps ?_) ⟨0, L, Nat.le_refl _, hA, h, rfl⟩ ?_
  · (try simp only [an, List.map_cons, List.map_nil]); repeat (first | exact VLeL.nil | refine VLeL.cons (by first | exact VLe.refl _ | exact VLe.any _ | exact VLe.nil _ _ | exact VLe.full _ _ | (refine VLe.agg' ?_; repeat (first | exact VLeL.nil | refine VLeL.cons (by first | exact VLe.refl _ | exact VLe.any _ | exact VLe.nil _ _) ?_))) ?_)
  · rintro k σ ⟨x1, L, hk, hA, h, rfl⟩
    rcases k with _ | n
    · simp [go_ref02_Name_L1] at h
    · rw [go_ref02_Name_L1] at h
      repeat refine sat_seq ?_
      refine satO_reg ?_
      refine satO_step 4 [] ⟨.str a0 :: an 2 (.int .i64 x1 :: .int .i64 x1 :: .str a0 :: .int .i64 (a0.length : Int) :: .bool (decide (x1 < (a0.length : Int))) :: an 32 []), ⟨lv + 1, L, E⟩, [], E⟩ [] (by simp -implicitDefEqProofs []) claims_nil ?_
      refine satO_nil (by simp) ?_
      repeat refine sat_seq ?_
      refine sat_cond rfl (fun hb => ?_) (fun hb => ?_)
      · have h := ite_t hb h
        repeat refine sat_seq ?_
        refine sat_skip ?_
        repeat refine sat_seq ?_
        refine sat_block ?_
        repeat refine sat_seq ?_
        refine sat_meet (fun σ => ∃ (k : Nat), k ≤ n ∧ ∃ (x2 : Bool) (L : List (Option AObj)), AccG (lv + 1) L [] [] ∧ go_ref02_Name_J1 k a0 x1 x2 = some r ∧ σ = ⟨.str a0 :: an 2 (.int .i64 x1 :: an 27 (.bool x2 :: an 8 [])), ⟨lv + 1, L, E⟩, [], E⟩) ?_ ?_
        · refine satO_reg ?_
          obtain ⟨x3, q4, h⟩ := bnd_hi h
          obtain ⟨q4, q5⟩ := ix_some q4
          obtain ⟨y6, q7, h⟩ := bnd_hi h
          rcases Bool.eq_false_or_eq_true (!y6) with hg8 | hg15
          · have h := ite_t hg8 h
            have hg8n := hg8
            try simp at hg8n
            rcases Bool.eq_false_or_eq_true (x1 == 0) with hg9 | hg10
            · have h := ite_t hg9 h
              have hg9n := hg9
              try simp at hg9n
              refine satO_step 22 [(.bool y6, none)] ⟨.str a0 :: an 2 (.int .i64 x1 :: .int .i64 x1 :: .str a0 :: .int .i64 (a0.length : Int) :: .bool (decide (x1 < (a0.length : Int))) :: an 2 (.str a0 :: .int .i64 x1 :: .int .u8 (x3.toNat : Int) :: .bool y6 :: .bool (!y6) :: .bool (!y6) :: .int .i64 x1 :: .bool (x1 == 0) :: .bool (x1 == 0) :: .tup [] :: .tup [] :: .tup [] :: .tup [] :: .tup [] :: .tup [] :: .tup [] :: .tup [] :: .tup [] :: .tup [] :: .tup [] :: .bool true :: .bool true :: an 8 [])), ⟨lv + 1, L, E⟩, [], E⟩ [⟨24, [.int .u8 (x3.toNat : Int)], ⟨lv + 1, L, E⟩, .bool y6, ⟨lv + 1, L, E⟩⟩] (by first | (simp -implicitDefEqProofs [q4, q5, hg8, hg9]; done) | simp -implicitDefEqProofs [q4, q5, hg8, hg9, hg8n, hg9n]) (claims_cons (go_ref02_letter_ok _ _ _ q7 _) claims_nil) ?_
              refine satO_nil (by simp) ?_
              refine ⟨⟨.str a0 :: an 2 (.int .i64 x1 :: an 27 (.bool true :: an 8 [])), ⟨lv + 1, L, E⟩, [], E⟩, weak_tmps ?_, n, by omega, true, L, hA, h, rfl⟩
              (try simp only [an, List.map_cons, List.map_nil]); repeat (first | exact VLeL.nil | refine VLeL.cons (by first | exact VLe.refl _ | exact VLe.any _ | exact VLe.nil _ _ | exact VLe.full _ _ | (refine VLe.agg' ?_; repeat (first | exact VLeL.nil | refine VLeL.cons (by first | exact VLe.refl _ | exact VLe.any _ | exact VLe.nil _ _) ?_))) ?_)
            · have h := ite_f hg10 h
              have hg10n := hg10
              try simp at hg10n
              rcases Bool.eq_false_or_eq_true (!((x3.toNat : Int) == 45)) with hg11 | hg14
              · have h := ite_t hg11 h
                have hg11n := hg11
                try simp at hg11n
                obtain ⟨y12, q13, h⟩ := bnd_hi h
                refine satO_step 22 [(.bool y6, none), (.bool y12, none)] ⟨.str a0 :: an 2 (.int .i64 x1 :: .int .i64 x1 :: .str a0 :: .int .i64 (a0.length : Int) :: .bool (decide (x1 < (a0.length : Int))) :: an 2 (.str a0 :: .int .i64 x1 :: .int .u8 (x3.toNat : Int) :: .bool y6 :: .bool (!y6) :: .bool (!y6) :: .int .i64 x1 :: .bool (x1 == 0) :: .bool (x1 == 0) :: .str a0 :: .int .i64 x1 :: .int .u8 (x3.toNat : Int) :: .bool (!((x3.toNat : Int) == 45)) :: .bool (!((x3.toNat : Int) == 45)) :: .str a0 :: .int .i64 x1 :: .int .u8 (x3.toNat : Int) :: .bool y12 :: .bool (!y12) :: .bool (!y12) :: .bool (!y12) :: .bool (!y12) :: an 8 [])), ⟨lv + 1, L, E⟩, [], E⟩ [⟨24, [.int .u8 (x3.toNat : Int)], ⟨lv + 1, L, E⟩, .bool y6, ⟨lv + 1, L, E⟩⟩, ⟨25, [.int .u8 (x3.toNat : Int)], ⟨lv + 1, L, E⟩, .bool y12, ⟨lv + 1, L, E⟩⟩] (by first | (simp -implicitDefEqProofs [q4, q5, hg8, hg10, q4, q5, hg11, q4, q5]; done) | simp -implicitDefEqProofs [q4, q5, hg8, hg10, q4, q5, hg11, q4, q5, hg8n, hg10n, hg11n]) (claims_cons (go_ref02_letter_ok _ _ _ q7 _) (claims_cons (go_ref02_digit_ok _ _ _ q13 _) claims_nil)) ?_
                refine satO_nil (by simp) ?_
                refine ⟨⟨.str a0 :: an 2 (.int .i64 x1 :: an 27 (.bool (!y12) :: an 8 [])), ⟨lv + 1, L, E⟩, [], E⟩, weak_tmps ?_, n, by omega, (!y12), L, hA, h, rfl⟩
                (try simp only [an, List.map_cons, List.map_nil]); repeat (first | exact VLeL.nil | refine VLeL.cons (by first | exact VLe.refl _ | exact VLe.any _ | exact VLe.nil _ _ | exact VLe.full _ _ | (refine VLe.agg' ?_; repeat (first | exact VLeL.nil | refine VLeL.cons (by first | exact VLe.refl _ | exact VLe.any _ | exact VLe.nil _ _) ?_))) ?_)
              · have h := ite_f hg14 h
                have hg14n := hg14
                try simp at hg14n
                refine satO_step 22 [(.bool y6, none)] ⟨.str a0 :: an 2 (.int .i64 x1 :: .int .i64 x1 :: .str a0 :: .int .i64 (a0.length : Int) :: .bool (decide (x1 < (a0.length : Int))) :: an 2 (.str a0 :: .int .i64 x1 :: .int .u8 (x3.toNat : Int) :: .bool y6 :: .bool (!y6) :: .bool (!y6) :: .int .i64 x1 :: .bool (x1 == 0) :: .bool (x1 == 0) :: .str a0 :: .int .i64 x1 :: .int .u8 (x3.toNat : Int) :: .bool (!((x3.toNat : Int) == 45)) :: .bool (!((x3.toNat : Int) == 45)) :: .tup [] :: .tup [] :: .tup [] :: .tup [] :: .tup [] :: .bool false :: .bool false :: .bool false :: an 8 [])), ⟨lv + 1, L, E⟩, [], E⟩ [⟨24, [.int .u8 (x3.toNat : Int)], ⟨lv + 1, L, E⟩, .bool y6, ⟨lv + 1, L, E⟩⟩] (by first | (simp -implicitDefEqProofs [q4, q5, hg8, hg10, q4, q5, hg14]; done) | simp -implicitDefEqProofs [q4, q5, hg8, hg10, q4, q5, hg14, hg8n, hg10n, hg14n]) (claims_cons (go_ref02_letter_ok _ _ _ q7 _) claims_nil) ?_
                refine satO_nil (by simp) ?_
                refine ⟨⟨.str a0 :: an 2 (.int .i64 x1 :: an 27 (.bool false :: an 8 [])), ⟨lv + 1, L, E⟩, [], E⟩, weak_tmps ?_, n, by omega, false, L, hA, h, rfl⟩
                (try simp only [an, List.map_cons, List.map_nil]); repeat (first | exact VLeL.nil | refine VLeL.cons (by first | exact VLe.refl _ | exact VLe.any _ | exact VLe.nil _ _ | exact VLe.full _ _ | (refine VLe.agg' ?_; repeat (first | exact VLeL.nil | refine VLeL.cons (by first | exact VLe.refl _ | exact VLe.any _ | exact VLe.nil _ _) ?_))) ?_)
          · have h := ite_f hg15 h
            have hg15n := hg15
            try simp at hg15n
            refine satO_step 22 [(.bool y6, none)] ⟨.str a0 :: an 2 (.int .i64 x1 :: .int .i64 x1 :: .str a0 :: .int .i64 (a0.length : Int) :: .bool (decide (x1 < (a0.length : Int))) :: an 2 (.str a0 :: .int .i64 x1 :: .int .u8 (x3.toNat : Int) :: .bool y6 :: .bool (!y6) :: .bool (!y6) :: .tup [] :: .tup [] :: .tup [] :: .tup [] :: .tup [] :: .tup [] :: .tup [] :: .tup [] :: .tup [] :: .tup [] :: .tup [] :: .tup [] :: .tup [] :: .tup [] :: .tup [] :: .bool false :: an 8 [])), ⟨lv + 1, L, E⟩, [], E⟩ [⟨24, [.int .u8 (x3.toNat : Int)], ⟨lv + 1, L, E⟩, .bool y6, ⟨lv + 1, L, E⟩⟩] (by first | (simp -implicitDefEqProofs [q4, q5, hg15]; done) | simp -implicitDefEqProofs [q4, q5, hg15, hg15n]) (claims_cons (go_ref02_letter_ok _ _ _ q7 _) claims_nil) ?_
            refine satO_nil (by simp) ?_
            refine ⟨⟨.str a0 :: an 2 (.int .i64 x1 :: an 27 (.bool false :: an 8 [])), ⟨lv + 1, L, E⟩, [], E⟩, weak_tmps ?_, n, by omega, false, L, hA, h, rfl⟩
            (try simp only [an, List.map_cons, List.map_nil]); repeat (first | exact VLeL.nil | refine VLeL.cons (by first | exact VLe.refl _ | exact VLe.any _ | exact VLe.nil _ _ | exact VLe.full _ _ | (refine VLe.agg' ?_; repeat (first | exact VLeL.nil | refine VLeL.cons (by first | exact VLe.refl _ | exact VLe.any _ | exact VLe.nil _ _) ?_))) ?_)
        · rintro σ0 σ hw ⟨k, hk, x2, L, hA, h, rfl⟩
          rcases k with _ | n
          · simp [go_ref02_Name_J1] at h
          · rw [go_ref02_Name_J1] at h
            refine sat_weak hw ?_
            repeat refine sat_seq ?_
            refine sat_cond rfl (fun hb => ?_) (fun hb => ?_)
            · have h := ite_t hb h
              repeat refine sat_seq ?_
              refine satO_reg ?_
              refine satO_step 1 [] ⟨.str a0 :: an 1 (.bool false :: .int .i64 x1 :: an 27 (.bool x2 :: an 8 [])), ⟨lv + 1, L, E⟩, [], E⟩ [] (by simp -implicitDefEqProofs []) claims_nil ?_
              refine satO_nil (by simp) ?_
              repeat refine sat_seq ?_
              refine sat_ret ?_
              refine ends (v := .bool false) (by simp [resultsV, resL, resV, tupOf, Tryd.f14, pLoad]) rfl rfl ?_
              injection h with h
              subst h
              exact (.keep _ (by simp [V.kin, V.kinL]))
            · have h := ite_f hb h
              repeat refine sat_seq ?_
              refine sat_skip ?_
              repeat refine sat_seq ?_
              refine satO_reg ?_
              refine satO_step 3 [] ⟨.str a0 :: an 2 (.int .i64 (IntKind.i64.wrap (x1 + 1)) :: an 4 (.int .i64 x1 :: .int .i64 (IntKind.i64.wrap (x1 + 1)) :: an 21 (.bool x2 :: an 8 []))), ⟨lv + 1, L, E⟩, [], E⟩ [] (by simp -implicitDefEqProofs []) claims_nil ?_
              refine satO_nil (by simp) ?_
              refine ⟨n, ⟨.str a0 :: an 2 (.int .i64 (IntKind.i64.wrap (x1 + 1)) :: an 36 []), ⟨lv + 1, L, E⟩, [], E⟩, weak_tmps ?_, ⟨(IntKind.i64.wrap (x1 + 1)), L, by omega, hA, h, rfl⟩, by omega⟩
              (try simp only [an, List.map_cons, List.map_nil]); repeat (first | exact VLeL.nil | refine VLeL.cons (by first | exact VLe.refl _ | exact VLe.any _ | exact VLe.nil _ _ | exact VLe.full _ _ | (refine VLe.agg' ?_; repeat (first | exact VLeL.nil | refine VLeL.cons (by first | exact VLe.refl _ | exact VLe.any _ | exact VLe.nil _ _) ?_))) ?_)
      · have h := ite_f hb h
        repeat refine sat_seq ?_
        refine sat_exit ?_
        repeat refine sat_seq ?_
        refine sat_meet (fun σ => ∃ (k : Nat), k ≤ n ∧ ∃ (x16 : Bool) (L : List (Option AObj)), AccG (lv + 1) L [] [] ∧ go_ref02_Name_J2 k x16 = some r ∧ σ = ⟨an 2 (.bool x16 :: an 37 []), ⟨lv + 1, L, E⟩, [], E⟩) ?_ ?_
        · refine satO_reg ?_
          rcases Bool.eq_false_or_eq_true (decide (1 ≤ (a0.length : Int))) with hg17 | hg18
          · have h := ite_t hg17 h
            have hg17n := hg17
            try simp at hg17n
            refine satO_step 9 [] ⟨.str a0 :: an 1 (.bool (decide ((a0.length : Int) ≤ 40)) :: .int .i64 x1 :: .int .i64 x1 :: .str a0 :: .int .i64 (a0.length : Int) :: .bool (decide (x1 < (a0.length : Int))) :: an 24 (.str a0 :: .int .i64 (a0.length : Int) :: .bool (decide (1 ≤ (a0.length : Int))) :: .bool (decide (1 ≤ (a0.length : Int))) :: .str a0 :: .int .i64 (a0.length : Int) :: .bool (decide ((a0.length : Int) ≤ 40)) :: .bool (decide ((a0.length : Int) ≤ 40)) :: [])), ⟨lv + 1, L, E⟩, [], E⟩ [] (by first | (simp -implicitDefEqProofs [hg17]; done) | simp -implicitDefEqProofs [hg17, hg17n]) claims_nil ?_
            refine satO_nil (by simp) ?_
            refine ⟨⟨an 2 (.bool (decide ((a0.length : Int) ≤ 40)) :: an 37 []), ⟨lv + 1, L, E⟩, [], E⟩, weak_tmps ?_, n, by omega, (decide ((a0.length : Int) ≤ 40)), L, hA, h, rfl⟩
            (try simp only [an, List.map_cons, List.map_nil]); repeat (first | exact VLeL.nil | refine VLeL.cons (by first | exact VLe.refl _ | exact VLe.any _ | exact VLe.nil _ _ | exact VLe.full _ _ | (refine VLe.agg' ?_; repeat (first | exact VLeL.nil | refine VLeL.cons (by first | exact VLe.refl _ | exact VLe.any _ | exact VLe.nil _ _) ?_))) ?_)
          · have h := ite_f hg18 h
            have hg18n := hg18
            try simp at hg18n
            refine satO_step 9 [] ⟨.str a0 :: an 1 (.bool false :: .int .i64 x1 :: .int .i64 x1 :: .str a0 :: .int .i64 (a0.length : Int) :: .bool (decide (x1 < (a0.length : Int))) :: an 24 (.str a0 :: .int .i64 (a0.length : Int) :: .bool (decide (1 ≤ (a0.length : Int))) :: .bool (decide (1 ≤ (a0.length : Int))) :: .tup [] :: .tup [] :: .tup [] :: .bool false :: [])), ⟨lv + 1, L, E⟩, [], E⟩ [] (by first | (simp -implicitDefEqProofs [hg18]; done) | simp -implicitDefEqProofs [hg18, hg18n]) claims_nil ?_
            refine satO_nil (by simp) ?_
            refine ⟨⟨an 2 (.bool false :: an 37 []), ⟨lv + 1, L, E⟩, [], E⟩, weak_tmps ?_, n, by omega, false, L, hA, h, rfl⟩
            (try simp only [an, List.map_cons, List.map_nil]); repeat (first | exact VLeL.nil | refine VLeL.cons (by first | exact VLe.refl _ | exact VLe.any _ | exact VLe.nil _ _ | exact VLe.full _ _ | (refine VLe.agg' ?_; repeat (first | exact VLeL.nil | refine VLeL.cons (by first | exact VLe.refl _ | exact VLe.any _ | exact VLe.nil _ _) ?_))) ?_)
        · rintro σ0 σ hw ⟨k, hk, x16, L, hA, h, rfl⟩
          rcases k with _ | n
          · simp [go_ref02_Name_J2] at h
          · rw [go_ref02_Name_J2] at h
            refine sat_weak hw ?_
            repeat refine sat_seq ?_
            refine sat_ret ?_
            refine ends (v := .bool x16) (by simp [resultsV, resL, resV, tupOf, Tryd.f14, pLoad]) rfl rfl ?_
            injection h with h
            subst h
            exact (.keep _ (by simp [V.kin, V.kinL]))
end Go.Proofs

namespace Go.Proofs
open Go Go.Ab
set_option maxRecDepth 10000
set_option maxHeartbeats 1000000
set_option linter.unusedSimpArgs false
set_option linter.unusedVariables false
theorem go_ref02_Step_ok (n : Nat) (a0 : List UInt8) (r : (List UInt8) × Int × Bool) (h : go_ref02_Step n a0 = some r) : PCall Tryd.prog 27 [.str a0] (.tup [.str r.1, .int .i64 r.2.1, .bool r.2.2]) := by
  rcases n with _ | n
  · simp [go_ref02_Step] at h
  rw [go_ref02_Step] at h
  refine pcall_of Tryd.func27 rfl Tryd.ntmps27 (fun _ _ => Tryd.call27 _ _) fun lv E => ?_
  simp only [List.length_cons, List.length_nil, Nat.reduceAdd, Nat.reduceSub, List.replicate, List.cons_append, List.nil_append]
  have hA := AccG.nil (lv + 1)
  generalize ([] : List (Option AObj)) = L at hA ⊢
  repeat refine sat_seq ?_
  refine satO_reg ?_
  refine satO_step 3 [] ⟨.str a0 :: an 1 (.str ([]) :: .int .i64 0 :: .bool false :: an 79 []), ⟨lv + 1, L, E⟩, [], E⟩ [] (by simp -implicitDefEqProofs []) claims_nil ?_
  refine satO_nil (by simp) ?_
  repeat refine sat_seq ?_
  refine satO_reg ?_
  refine satO_step 1 [] ⟨.str a0 :: an 1 (.str ([]) :: .int .i64 0 :: .bool false :: .int .i64 0 :: an 78 []), ⟨lv + 1, L, E⟩, [], E⟩ [] (by simp -implicitDefEqProofs []) claims_nil ?_
  refine satO_nil (by simp) ?_
  repeat refine sat_seq ?_
  refine sat_block ?_
  repeat refine sat_seq ?_
  refine sat_loop (fun k σ => ∃ (x1 : Int) (L : List (Option AObj)), k ≤ n ∧ AccG (lv + 1) L [] [] ∧ go_ref02_Step_L1 k a0 x1 = some r ∧ σ = ⟨.str a0 :: an 4 (.int .i64 x1 :: an 78 []), ⟨lv + 1, L, E⟩, [], E⟩) n ⟨.str a0 :: an 4 (.int .i64 0 :: an 78 []), ⟨lv + 1, L, E⟩, [], E⟩ (weak_tmps ?_) ⟨0, L, Nat.le_refl _, hA, h, rfl⟩ ?_
  · (try simp only [an, List.map_cons, List.map_nil]); repeat (first | exact VLeL.nil | refine VLeL.cons (by first | exact VLe.refl _ | exact VLe.any _ | exact VLe.nil _ _ | exact VLe.full _ _ | (refine VLe.agg' ?_; repeat (first | exact VLeL.nil | refine VLeL.cons (by first | exact VLe.refl _ | exact VLe.any _ | exact VLe.nil _ _) ?_))) ?_)
  · rintro k σ ⟨x1, L, hk, hA, h, rfl⟩
    rcases k with _ | n
    · simp [go_ref02_Step_L1] at h
    · rw [go_ref02_Step_L1] at h
      repeat refine sat_seq ?_
      refine sat_meet (fun σ => ∃ (k : Nat), k ≤ n ∧ ∃ (x2 : Bool) (L : List (Option AObj)), AccG (lv + 1) L [] [] ∧ go_ref02_Step_J1 k a0 x1 x2 = some r ∧ σ = ⟨.str a0 :: an 4 (.int .i64 x1 :: an 12 (.bool x2 :: an 65 [])), ⟨lv + 1, L, E⟩, [], E⟩) ?_ ?_
      · refine satO_reg ?_
        rcases Bool.eq_false_or_eq_true (decide (x1 < (a0.length : Int))) with hg3 | hg7
        · have h := ite_t hg3 h
          have hg3n := hg3
          try simp at hg3n
          obtain ⟨x4, q5, h⟩ := bnd_hi h
          obtain ⟨q5, q6⟩ := ix_some q5
          refine satO_step 10 [] ⟨.str a0 :: an 4 (.int .i64 x1 :: an 3 (.int .i64 x1 :: .str a0 :: .int .i64 (a0.length : Int) :: .bool (decide (x1 < (a0.length : Int))) :: .bool (decide (x1 < (a0.length : Int))) :: .str a0 :: .int .i64 x1 :: .int .u8 (x4.toNat : Int) :: .bool (!((x4.toNat : Int) == 91)) :: .bool (!((x4.toNat : Int) == 91)) :: an 65 [])), ⟨lv + 1, L, E⟩, [], E⟩ [] (by first | (simp -implicitDefEqProofs [hg3, q5, q6]; done) | simp -implicitDefEqProofs [hg3, q5, q6, hg3n]) claims_nil ?_
          refine satO_nil (by simp) ?_
          refine ⟨⟨.str a0 :: an 4 (.int .i64 x1 :: an 12 (.bool (!((x4.toNat : Int) == 91)) :: an 65 [])), ⟨lv + 1, L, E⟩, [], E⟩, weak_tmps ?_, n, by omega, (!((x4.toNat : Int) == 91)), L, hA, h, rfl⟩
          (try simp only [an, List.map_cons, List.map_nil]); repeat (first | exact VLeL.nil | refine VLeL.cons (by first | exact VLe.refl _ | exact VLe.any _ | exact VLe.nil _ _ | exact VLe.full _ _ | (refine VLe.agg' ?_; repeat (first | exact VLeL.nil | refine VLeL.cons (by first | exact VLe.refl _ | exact VLe.any _ | exact VLe.nil _ _) ?_))) ?_)
        · have h := ite_f hg7 h
          have hg7n := hg7
          try simp at hg7n
          refine satO_step 10 [] ⟨.str a0 :: an 4 (.int .i64 x1 :: an 3 (.int .i64 x1 :: .str a0 :: .int .i64 (a0.length : Int) :: .bool (decide (x1 < (a0.length : Int))) :: .bool (decide (x1 < (a0.length : Int))) :: .tup [] :: .tup [] :: .tup [] :: .tup [] :: .bool false :: an 65 [])), ⟨lv + 1, L, E⟩, [], E⟩ [] (by first | (simp -implicitDefEqProofs [hg7]; done) | simp -implicitDefEqProofs [hg7, hg7n]) claims_nil ?_
          refine satO_nil (by simp) ?_
          refine ⟨⟨.str a0 :: an 4 (.int .i64 x1 :: an 12 (.bool false :: an 65 [])), ⟨lv + 1, L, E⟩, [], E⟩, weak_tmps ?_, n, by omega, false, L, hA, h, rfl⟩
          (try simp only [an, List.map_cons, List.map_nil]); repeat (first | exact VLeL.nil | refine VLeL.cons (by first | exact VLe.refl _ | exact VLe.any _ | exact VLe.nil _ _ | exact VLe.full _ _ | (refine VLe.agg' ?_; repeat (first | exact VLeL.nil | refine VLeL.cons (by first | exact VLe.refl _ | exact VLe.any _ | exact VLe.nil _ _) ?_))) ?_)
      · rintro σ0 σ hw ⟨k, hk, x2, L, hA, h, rfl⟩
        rcases k with _ | n
        · simp [go_ref02_Step_J1] at h
        · rw [go_ref02_Step_J1] at h
          refine sat_weak hw ?_
          repeat refine sat_seq ?_
          refine sat_cond rfl (fun hb => ?_) (fun hb => ?_)
          · have h := ite_t hb h
            repeat refine sat_seq ?_
            refine sat_skip ?_
            repeat refine sat_seq ?_
            refine sat_block ?_
            repeat refine sat_seq ?_
            refine satO_reg ?_
            refine satO_step 3 [] ⟨.str a0 :: an 4 (.int .i64 (IntKind.i64.wrap (x1 + 1)) :: an 12 (.bool x2 :: .int .i64 x1 :: .int .i64 (IntKind.i64.wrap (x1 + 1)) :: an 63 [])), ⟨lv + 1, L, E⟩, [], E⟩ [] (by simp -implicitDefEqProofs []) claims_nil ?_
            refine satO_nil (by simp) ?_
            refine ⟨n, ⟨.str a0 :: an 4 (.int .i64 (IntKind.i64.wrap (x1 + 1)) :: an 78 []), ⟨lv + 1, L, E⟩, [], E⟩, weak_tmps ?_, ⟨(IntKind.i64.wrap (x1 + 1)), L, by omega, hA, h, rfl⟩, by omega⟩
            (try simp only [an, List.map_cons, List.map_nil]); repeat (first | exact VLeL.nil | refine VLeL.cons (by first | exact VLe.refl _ | exact VLe.any _ | exact VLe.nil _ _ | exact VLe.full _ _ | (refine VLe.agg' ?_; repeat (first | exact VLeL.nil | refine VLeL.cons (by first | exact VLe.refl _ | exact VLe.any _ | exact VLe.nil _ _) ?_))) ?_)
          · have h := ite_f hb h
            repeat refine sat_seq ?_
            refine sat_exit ?_
            repeat refine sat_seq ?_
            refine satO_reg ?_
            obtain ⟨x8, q9, h⟩ := bnd_hi h
            obtain ⟨q9, q10, q11, q12, q13, q14⟩ := sub_some q9
            have q15 := q10
            try simp only [Int.ofNat_le] at q15
            obtain ⟨y16, q17, h⟩ := bnd_hi h
            refine satO_step 5 [(.bool y16, none)] ⟨.str a0 :: an 4 (.int .i64 x1 :: an 12 (.bool x2 :: an 2 (.str a0 :: .int .i64 x1 :: .str x8 :: .bool y16 :: .bool (!y16) :: an 58 []))), ⟨lv + 1, L, E⟩, [], E⟩ [⟨14, [.str x8], ⟨lv + 1, L, E⟩, .bool y16, ⟨lv + 1, L, E⟩⟩] (by simp -implicitDefEqProofs [q9, q10, q11, q12, q13, q14, q15, List.map_take, List.map_drop, Int.max_eq_left]) (claims_cons (go_ref02_Name_ok _ _ _ q17 _) claims_nil) ?_
            refine satO_nil (by simp) ?_
            repeat refine sat_seq ?_
            refine sat_cond rfl (fun hb => ?_) (fun hb => ?_)
            · have h := ite_t hb h
              repeat refine sat_seq ?_
              refine satO_reg ?_
              refine satO_step 3 [] ⟨.str a0 :: an 1 (.str ([]) :: .int .i64 0 :: .bool false :: .int .i64 x1 :: an 12 (.bool x2 :: an 2 (.str a0 :: .int .i64 x1 :: .str x8 :: .bool y16 :: .bool (!y16) :: an 58 []))), ⟨lv + 1, L, E⟩, [], E⟩ [] (by simp -implicitDefEqProofs []) claims_nil ?_
              refine satO_nil (by simp) ?_
              repeat refine sat_seq ?_
              refine sat_ret ?_
              refine ends (v := .tup [.str ([]), .int .i64 0, .bool false]) (by simp [resultsV, resL, resV, tupOf, Tryd.f27, pLoad]) rfl rfl ?_
              injection h with h
              subst h
              exact .keep _ (by simp [V.kin, V.kinL])
            · have h := ite_f hb h
              repeat refine sat_seq ?_
              refine sat_skip ?_
              repeat refine sat_seq ?_
              refine satO_reg ?_
              refine satO_step 4 [] ⟨.str a0 :: an 4 (.int .i64 x1 :: an 12 (.bool x2 :: an 2 (.str a0 :: .int .i64 x1 :: .str x8 :: .bool y16 :: .bool (!y16) :: .int .i64 x1 :: .str a0 :: .int .i64 (a0.length : Int) :: .bool (x1 == (a0.length : Int)) :: an 54 []))), ⟨lv + 1, L, E⟩, [], E⟩ [] (by simp -implicitDefEqProofs []) claims_nil ?_
              refine satO_nil (by simp) ?_
              repeat refine sat_seq ?_
              refine sat_cond rfl (fun hb => ?_) (fun hb => ?_)
              · have h := ite_t hb h
                repeat refine sat_seq ?_
                refine satO_reg ?_
                refine satO_step 4 [] ⟨.str a0 :: an 1 (.str a0 :: .int .i64 (-1) :: .bool true :: .int .i64 x1 :: an 12 (.bool x2 :: an 2 (.str a0 :: .int .i64 x1 :: .str x8 :: .bool y16 :: .bool (!y16) :: .int .i64 x1 :: .str a0 :: .int .i64 (a0.length : Int) :: .bool (x1 == (a0.length : Int)) :: .str a0 :: an 53 []))), ⟨lv + 1, L, E⟩, [], E⟩ [] (by simp -implicitDefEqProofs []) claims_nil ?_
                refine satO_nil (by simp) ?_
                repeat refine sat_seq ?_
                refine sat_ret ?_
                refine ends (v := .tup [.str a0, .int .i64 (-1), .bool true]) (by simp [resultsV, resL, resV, tupOf, Tryd.f27, pLoad]) rfl rfl ?_
                injection h with h
                subst h
                exact .keep _ (by simp [V.kin, V.kinL])
              · have h := ite_f hb h
                repeat refine sat_seq ?_
                refine sat_skip ?_
                repeat refine sat_seq ?_
                refine satO_reg ?_
                obtain ⟨x18, q19, h⟩ := bnd_hi h
                obtain ⟨q19, q20⟩ := ix_some q19
                refine satO_step 6 [] ⟨.str a0 :: an 4 (.int .i64 x1 :: an 12 (.bool x2 :: an 2 (.str a0 :: .int .i64 x1 :: .str x8 :: .bool y16 :: .bool (!y16) :: .int .i64 x1 :: .str a0 :: .int .i64 (a0.length : Int) :: .bool (x1 == (a0.length : Int)) :: an 1 (.str a0 :: .str a0 :: .int .i64 (a0.length : Int) :: .int .i64 (IntKind.i64.wrap ((a0.length : Int) - 1)) :: .int .u8 (x18.toNat : Int) :: .bool (!((x18.toNat : Int) == 93)) :: an 47 [])))), ⟨lv + 1, L, E⟩, [], E⟩ [] (by simp -implicitDefEqProofs [q19, q20]) claims_nil ?_
                refine satO_nil (by simp) ?_
                repeat refine sat_seq ?_
                refine sat_cond rfl (fun hb => ?_) (fun hb => ?_)
                · have h := ite_t hb h
                  repeat refine sat_seq ?_
                  refine satO_reg ?_
                  refine satO_step 3 [] ⟨.str a0 :: an 1 (.str ([]) :: .int .i64 0 :: .bool false :: .int .i64 x1 :: an 12 (.bool x2 :: an 2 (.str a0 :: .int .i64 x1 :: .str x8 :: .bool y16 :: .bool (!y16) :: .int .i64 x1 :: .str a0 :: .int .i64 (a0.length : Int) :: .bool (x1 == (a0.length : Int)) :: an 1 (.str a0 :: .str a0 :: .int .i64 (a0.length : Int) :: .int .i64 (IntKind.i64.wrap ((a0.length : Int) - 1)) :: .int .u8 (x18.toNat : Int) :: .bool (!((x18.toNat : Int) == 93)) :: an 47 [])))), ⟨lv + 1, L, E⟩, [], E⟩ [] (by simp -implicitDefEqProofs []) claims_nil ?_
                  refine satO_nil (by simp) ?_
                  repeat refine sat_seq ?_
                  refine sat_ret ?_
                  refine ends (v := .tup [.str ([]), .int .i64 0, .bool false]) (by simp [resultsV, resL, resV, tupOf, Tryd.f27, pLoad]) rfl rfl ?_
                  injection h with h
                  subst h
                  exact .keep _ (by simp [V.kin, V.kinL])
                · have h := ite_f hb h
                  repeat refine sat_seq ?_
                  refine sat_skip ?_
                  repeat refine sat_seq ?_
                  refine satO_reg ?_
                  obtain ⟨x21, q22, h⟩ := bnd_hi h
                  obtain ⟨q22, q23, q24, q25, q26, q27⟩ := sub_some q22
                  have q28 := q23
                  try simp only [Int.ofNat_le] at q28
                  refine satO_step 8 [] ⟨.str a0 :: an 4 (.int .i64 x1 :: .str x21 :: an 11 (.bool x2 :: an 2 (.str a0 :: .int .i64 x1 :: .str x8 :: .bool y16 :: .bool (!y16) :: .int .i64 x1 :: .str a0 :: .int .i64 (a0.length : Int) :: .bool (x1 == (a0.length : Int)) :: an 1 (.str a0 :: .str a0 :: .int .i64 (a0.length : Int) :: .int .i64 (IntKind.i64.wrap ((a0.length : Int) - 1)) :: .int .u8 (x18.toNat : Int) :: .bool (!((x18.toNat : Int) == 93)) :: .str a0 :: .int .i64 x1 :: .int .i64 (IntKind.i64.wrap (x1 + 1)) :: .str a0 :: .int .i64 (a0.length : Int) :: .int .i64 (IntKind.i64.wrap ((a0.length : Int) - 1)) :: .str x21 :: an 40 [])))), ⟨lv + 1, L, E⟩, [], E⟩ [] (by simp -implicitDefEqProofs [q22, q23, q24, q25, q26, q27, q28, List.map_take, List.map_drop, Int.max_eq_left]) claims_nil ?_
                  refine satO_nil (by simp) ?_
                  repeat refine sat_seq ?_
                  refine satO_reg ?_
                  refine satO_step 1 [] ⟨.str a0 :: an 4 (.int .i64 x1 :: .str x21 :: .int .i64 0 :: an 10 (.bool x2 :: an 2 (.str a0 :: .int .i64 x1 :: .str x8 :: .bool y16 :: .bool (!y16) :: .int .i64 x1 :: .str a0 :: .int .i64 (a0.length : Int) :: .bool (x1 == (a0.length : Int)) :: an 1 (.str a0 :: .str a0 :: .int .i64 (a0.length : Int) :: .int .i64 (IntKind.i64.wrap ((a0.length : Int) - 1)) :: .int .u8 (x18.toNat : Int) :: .bool (!((x18.toNat : Int) == 93)) :: .str a0 :: .int .i64 x1 :: .int .i64 (IntKind.i64.wrap (x1 + 1)) :: .str a0 :: .int .i64 (a0.length : Int) :: .int .i64 (IntKind.i64.wrap ((a0.length : Int) - 1)) :: .str x21 :: an 40 [])))), ⟨lv + 1, L, E⟩, [], E⟩ [] (by simp -implicitDefEqProofs []) claims_nil ?_
                  refine satO_nil (by simp) ?_
                  repeat refine sat_seq ?_
                  refine satO_reg ?_
                  refine satO_step 1 [] ⟨.str a0 :: an 4 (.int .i64 x1 :: .str x21 :: .int .i64 0 :: .int .i64 0 :: an 9 (.bool x2 :: an 2 (.str a0 :: .int .i64 x1 :: .str x8 :: .bool y16 :: .bool (!y16) :: .int .i64 x1 :: .str a0 :: .int .i64 (a0.length : Int) :: .bool (x1 == (a0.length : Int)) :: an 1 (.str a0 :: .str a0 :: .int .i64 (a0.length : Int) :: .int .i64 (IntKind.i64.wrap ((a0.length : Int) - 1)) :: .int .u8 (x18.toNat : Int) :: .bool (!((x18.toNat : Int) == 93)) :: .str a0 :: .int .i64 x1 :: .int .i64 (IntKind.i64.wrap (x1 + 1)) :: .str a0 :: .int .i64 (a0.length : Int) :: .int .i64 (IntKind.i64.wrap ((a0.length : Int) - 1)) :: .str x21 :: an 40 [])))), ⟨lv + 1, L, E⟩, [], E⟩ [] (by simp -implicitDefEqProofs []) claims_nil ?_
                  refine satO_nil (by simp) ?_
                  repeat refine sat_seq ?_
                  refine sat_block ?_
                  repeat refine sat_seq ?_
                  refine sat_loop (fun k σ => ∃ (x29 : Int) (x30 : Int) (L : List (Option AObj)), k ≤ n ∧ AccG (lv + 1) L [] [] ∧ go_ref02_Step_L2 k a0 x1 x21 x29 x30 = some r ∧ σ = ⟨.str a0 :: an 4 (.int .i64 x1 :: .str x21 :: .int .i64 x29 :: .int .i64 x30 :: an 75 []), ⟨lv + 1, L, E⟩, [], E⟩) n ⟨.str a0 :: an 4 (.int .i64 x1 :: .str x21 :: .int .i64 0 :: .int .i64 0 :: an 75 []), ⟨lv + 1, L, E⟩, [], E⟩ (weak_tmps ?_) ⟨0, 0, L, Nat.le_refl _, hA, h, rfl⟩ ?_
                  · (try simp only [an, List.map_cons, List.map_nil]); repeat (first | exact VLeL.nil | refine VLeL.cons (by first | exact VLe.refl _ | exact VLe.any _ | exact VLe.nil _ _ | exact VLe.full _ _ | (refine VLe.agg' ?_; repeat (first | exact VLeL.nil | refine VLeL.cons (by first | exact VLe.refl _ | exact VLe.any _ | exact VLe.nil _ _) ?_))) ?_)
                  · rintro k σ ⟨x29, x30, L, hk, hA, h, rfl⟩
                    rcases k with _ | n
                    · simp [go_ref02_Step_L2] at h
                    · rw [go_ref02_Step_L2] at h
                      repeat refine sat_seq ?_
                      refine satO_reg ?_
                      refine satO_step 4 [] ⟨.str a0 :: an 4 (.int .i64 x1 :: .str x21 :: .int .i64 x29 :: .int .i64 x30 :: an 35 (.int .i64 x30 :: .str x21 :: .int .i64 (x21.length : Int) :: .bool (decide (x30 < (x21.length : Int))) :: an 36 [])), ⟨lv + 1, L, E⟩, [], E⟩ [] (by simp -implicitDefEqProofs []) claims_nil ?_
                      refine satO_nil (by simp) ?_
                      repeat refine sat_seq ?_
                      refine sat_cond rfl (fun hb => ?_) (fun hb => ?_)
                      · have h := ite_t hb h
                        repeat refine sat_seq ?_
                        refine sat_skip ?_
                        repeat refine sat_seq ?_
                        refine sat_block ?_
                        repeat refine sat_seq ?_
                        refine sat_meet (fun σ => ∃ (k : Nat), k ≤ n ∧ ∃ (x31 : Bool) (L : List (Option AObj)), AccG (lv + 1) L [] [] ∧ go_ref02_Step_J2 k a0 x1 x21 x29 x30 x31 = some r ∧ σ = ⟨.str a0 :: an 4 (.int .i64 x1 :: .str x21 :: .int .i64 x29 :: .int .i64 x30 :: an 49 (.bool x31 :: an 25 [])), ⟨lv + 1, L, E⟩, [], E⟩) ?_ ?_
                        · refine satO_reg ?_
                          obtain ⟨x32, q33, h⟩ := bnd_hi h
                          obtain ⟨q33, q34⟩ := ix_some q33
                          obtain ⟨y35, q36, h⟩ := bnd_hi h
                          rcases Bool.eq_false_or_eq_true (!y35) with hg37 | hg38
                          · have h := ite_t hg37 h
                            have hg37n := hg37
                            try simp at hg37n
                            refine satO_step 9 [(.bool y35, none)] ⟨.str a0 :: an 4 (.int .i64 x1 :: .str x21 :: .int .i64 x29 :: .int .i64 x30 :: an 35 (.int .i64 x30 :: .str x21 :: .int .i64 (x21.length : Int) :: .bool (decide (x30 < (x21.length : Int))) :: an 2 (.str x21 :: .int .i64 x30 :: .int .u8 (x32.toNat : Int) :: .bool y35 :: .bool (!y35) :: .bool (!y35) :: .tup [] :: .tup [] :: .bool true :: an 25 []))), ⟨lv + 1, L, E⟩, [], E⟩ [⟨25, [.int .u8 (x32.toNat : Int)], ⟨lv + 1, L, E⟩, .bool y35, ⟨lv + 1, L, E⟩⟩] (by first | (simp -implicitDefEqProofs [q33, q34, hg37]; done) | simp -implicitDefEqProofs [q33, q34, hg37, hg37n]) (claims_cons (go_ref02_digit_ok _ _ _ q36 _) claims_nil) ?_
                            refine satO_nil (by simp) ?_
                            refine ⟨⟨.str a0 :: an 4 (.int .i64 x1 :: .str x21 :: .int .i64 x29 :: .int .i64 x30 :: an 49 (.bool true :: an 25 [])), ⟨lv + 1, L, E⟩, [], E⟩, weak_tmps ?_, n, by omega, true, L, hA, h, rfl⟩
                            (try simp only [an, List.map_cons, List.map_nil]); repeat (first | exact VLeL.nil | refine VLeL.cons (by first | exact VLe.refl _ | exact VLe.any _ | exact VLe.nil _ _ | exact VLe.full _ _ | (refine VLe.agg' ?_; repeat (first | exact VLeL.nil | refine VLeL.cons (by first | exact VLe.refl _ | exact VLe.any _ | exact VLe.nil _ _) ?_))) ?_)
                          · have h := ite_f hg38 h
                            have hg38n := hg38
                            try simp at hg38n
                            refine satO_step 9 [(.bool y35, none)] ⟨.str a0 :: an 4 (.int .i64 x1 :: .str x21 :: .int .i64 x29 :: .int .i64 x30 :: an 35 (.int .i64 x30 :: .str x21 :: .int .i64 (x21.length : Int) :: .bool (decide (x30 < (x21.length : Int))) :: an 2 (.str x21 :: .int .i64 x30 :: .int .u8 (x32.toNat : Int) :: .bool y35 :: .bool (!y35) :: .bool (!y35) :: .int .i64 x30 :: .bool (decide (3 < x30)) :: .bool (decide (3 < x30)) :: an 25 []))), ⟨lv + 1, L, E⟩, [], E⟩ [⟨25, [.int .u8 (x32.toNat : Int)], ⟨lv + 1, L, E⟩, .bool y35, ⟨lv + 1, L, E⟩⟩] (by first | (simp -implicitDefEqProofs [q33, q34, hg38]; done) | simp -implicitDefEqProofs [q33, q34, hg38, hg38n]) (claims_cons (go_ref02_digit_ok _ _ _ q36 _) claims_nil) ?_
                            refine satO_nil (by simp) ?_
                            refine ⟨⟨.str a0 :: an 4 (.int .i64 x1 :: .str x21 :: .int .i64 x29 :: .int .i64 x30 :: an 49 (.bool (decide (3 < x30)) :: an 25 [])), ⟨lv + 1, L, E⟩, [], E⟩, weak_tmps ?_, n, by omega, (decide (3 < x30)), L, hA, h, rfl⟩
                            (try simp only [an, List.map_cons, List.map_nil]); repeat (first | exact VLeL.nil | refine VLeL.cons (by first | exact VLe.refl _ | exact VLe.any _ | exact VLe.nil _ _ | exact VLe.full _ _ | (refine VLe.agg' ?_; repeat (first | exact VLeL.nil | refine VLeL.cons (by first | exact VLe.refl _ | exact VLe.any _ | exact VLe.nil _ _) ?_))) ?_)
                        · rintro σ0 σ hw ⟨k, hk, x31, L, hA, h, rfl⟩
                          rcases k with _ | n
                          · simp [go_ref02_Step_J2] at h
                          · rw [go_ref02_Step_J2] at h
                            refine sat_weak hw ?_
                            repeat refine sat_seq ?_
                            refine sat_cond rfl (fun hb => ?_) (fun hb => ?_)
                            · have h := ite_t hb h
                              repeat refine sat_seq ?_
                              refine satO_reg ?_
                              refine satO_step 3 [] ⟨.str a0 :: an 1 (.str ([]) :: .int .i64 0 :: .bool false :: .int .i64 x1 :: .str x21 :: .int .i64 x29 :: .int .i64 x30 :: an 49 (.bool x31 :: an 25 [])), ⟨lv + 1, L, E⟩, [], E⟩ [] (by simp -implicitDefEqProofs []) claims_nil ?_
                              refine satO_nil (by simp) ?_
                              repeat refine sat_seq ?_
                              refine sat_ret ?_
                              refine ends (v := .tup [.str ([]), .int .i64 0, .bool false]) (by simp [resultsV, resL, resV, tupOf, Tryd.f27, pLoad]) rfl rfl ?_
                              injection h with h
                              subst h
                              exact .keep _ (by simp [V.kin, V.kinL])
                            · have h := ite_f hb h
                              repeat refine sat_seq ?_
                              refine sat_skip ?_
                              repeat refine sat_seq ?_
                              refine satO_reg ?_
                              obtain ⟨x39, q40, h⟩ := bnd_hi h
                              obtain ⟨q40, q41⟩ := ix_some q40
                              refine satO_step 9 [] ⟨.str a0 :: an 4 (.int .i64 x1 :: .str x21 :: .int .i64 (IntKind.i64.wrap ((IntKind.i64.wrap (10 * x29)) + (IntKind.i64.wrap (IntKind.u8.wrap ((x39.toNat : Int) - 48))))) :: .int .i64 x30 :: an 49 (.bool x31 :: .int .i64 x29 :: .int .i64 (IntKind.i64.wrap (10 * x29)) :: .str x21 :: .int .i64 x30 :: .int .u8 (x39.toNat : Int) :: .int .u8 (IntKind.u8.wrap ((x39.toNat : Int) - 48)) :: .int .i64 (IntKind.i64.wrap (IntKind.u8.wrap ((x39.toNat : Int) - 48))) :: .int .i64 (IntKind.i64.wrap ((IntKind.i64.wrap (10 * x29)) + (IntKind.i64.wrap (IntKind.u8.wrap ((x39.toNat : Int) - 48))))) :: an 17 [])), ⟨lv + 1, L, E⟩, [], E⟩ [] (by simp -implicitDefEqProofs [q40, q41]) claims_nil ?_
                              refine satO_nil (by simp) ?_
                              repeat refine sat_seq ?_
                              refine satO_reg ?_
                              refine satO_step 3 [] ⟨.str a0 :: an 4 (.int .i64 x1 :: .str x21 :: .int .i64 (IntKind.i64.wrap ((IntKind.i64.wrap (10 * x29)) + (IntKind.i64.wrap (IntKind.u8.wrap ((x39.toNat : Int) - 48))))) :: .int .i64 (IntKind.i64.wrap (x30 + 1)) :: an 39 (.int .i64 x30 :: .int .i64 (IntKind.i64.wrap (x30 + 1)) :: an 8 (.bool x31 :: .int .i64 x29 :: .int .i64 (IntKind.i64.wrap (10 * x29)) :: .str x21 :: .int .i64 x30 :: .int .u8 (x39.toNat : Int) :: .int .u8 (IntKind.u8.wrap ((x39.toNat : Int) - 48)) :: .int .i64 (IntKind.i64.wrap (IntKind.u8.wrap ((x39.toNat : Int) - 48))) :: .int .i64 (IntKind.i64.wrap ((IntKind.i64.wrap (10 * x29)) + (IntKind.i64.wrap (IntKind.u8.wrap ((x39.toNat : Int) - 48))))) :: an 17 []))), ⟨lv + 1, L, E⟩, [], E⟩ [] (by simp -implicitDefEqProofs []) claims_nil ?_
                              refine satO_nil (by simp) ?_
                              refine ⟨n, ⟨.str a0 :: an 4 (.int .i64 x1 :: .str x21 :: .int .i64 (IntKind.i64.wrap ((IntKind.i64.wrap (10 * x29)) + (IntKind.i64.wrap (IntKind.u8.wrap ((x39.toNat : Int) - 48))))) :: .int .i64 (IntKind.i64.wrap (x30 + 1)) :: an 75 []), ⟨lv + 1, L, E⟩, [], E⟩, weak_tmps ?_, ⟨(IntKind.i64.wrap ((IntKind.i64.wrap (10 * x29)) + (IntKind.i64.wrap (IntKind.u8.wrap ((x39.toNat : Int) - 48))))), (IntKind.i64.wrap (x30 + 1)), L, by omega, hA, h, rfl⟩, by omega⟩
                              (try simp only [an, List.map_cons, List.map_nil]); repeat (first | exact VLeL.nil | refine VLeL.cons (by first | exact VLe.refl _ | exact VLe.any _ | exact VLe.nil _ _ | exact VLe.full _ _ | (refine VLe.agg' ?_; repeat (first | exact VLeL.nil | refine VLeL.cons (by first | exact VLe.refl _ | exact VLe.any _ | exact VLe.nil _ _) ?_))) ?_)
                      · have h := ite_f hb h
                        repeat refine sat_seq ?_
                        refine sat_exit ?_
                        repeat refine sat_seq ?_
                        refine sat_meet (fun σ => ∃ (k : Nat), k ≤ n ∧ ∃ (x42 : Bool) (L : List (Option AObj)), AccG (lv + 1) L [] [] ∧ go_ref02_Step_J3 k a0 x1 x29 x42 = some r ∧ σ = ⟨.str a0 :: an 4 (.int .i64 x1 :: an 1 (.int .i64 x29 :: an 71 (.bool x42 :: an 4 []))), ⟨lv + 1, L, E⟩, [], E⟩) ?_ ?_
                        · refine satO_reg ?_
                          rcases Bool.eq_false_or_eq_true ((x21.length : Int) == 0) with hg43 | hg44
                          · have h := ite_t hg43 h
                            have hg43n := hg43
                            try simp at hg43n
                            refine satO_step 13 [] ⟨.str a0 :: an 4 (.int .i64 x1 :: .str x21 :: .int .i64 x29 :: .int .i64 x30 :: an 35 (.int .i64 x30 :: .str x21 :: .int .i64 (x21.length : Int) :: .bool (decide (x30 < (x21.length : Int))) :: an 19 (.str x21 :: .int .i64 (x21.length : Int) :: .bool ((x21.length : Int) == 0) :: .bool ((x21.length : Int) == 0) :: .tup [] :: .tup [] :: .tup [] :: .tup [] :: .tup [] :: .tup [] :: .tup [] :: .tup [] :: .bool true :: an 4 []))), ⟨lv + 1, L, E⟩, [], E⟩ [] (by first | (simp -implicitDefEqProofs [hg43]; done) | simp -implicitDefEqProofs [hg43, hg43n]) claims_nil ?_
                            refine satO_nil (by simp) ?_
                            refine ⟨⟨.str a0 :: an 4 (.int .i64 x1 :: an 1 (.int .i64 x29 :: an 71 (.bool true :: an 4 []))), ⟨lv + 1, L, E⟩, [], E⟩, weak_tmps ?_, n, by omega, true, L, hA, h, rfl⟩
                            (try simp only [an, List.map_cons, List.map_nil]); repeat (first | exact VLeL.nil | refine VLeL.cons (by first | exact VLe.refl _ | exact VLe.any _ | exact VLe.nil _ _ | exact VLe.full _ _ | (refine VLe.agg' ?_; repeat (first | exact VLeL.nil | refine VLeL.cons (by first | exact VLe.refl _ | exact VLe.any _ | exact VLe.nil _ _) ?_))) ?_)
                          · have h := ite_f hg44 h
                            have hg44n := hg44
                            try simp at hg44n
                            rcases Bool.eq_false_or_eq_true (decide (1 < (x21.length : Int))) with hg45 | hg49
                            · have h := ite_t hg45 h
                              have hg45n := hg45
                              try simp at hg45n
                              obtain ⟨x46, q47, h⟩ := bnd_hi h
                              obtain ⟨q47, q48⟩ := ix_some q47
                              have q48 : (x21)[0]? = some x46 := q48
                              refine satO_step 13 [] ⟨.str a0 :: an 4 (.int .i64 x1 :: .str x21 :: .int .i64 x29 :: .int .i64 x30 :: an 35 (.int .i64 x30 :: .str x21 :: .int .i64 (x21.length : Int) :: .bool (decide (x30 < (x21.length : Int))) :: an 19 (.str x21 :: .int .i64 (x21.length : Int) :: .bool ((x21.length : Int) == 0) :: .bool ((x21.length : Int) == 0) :: .str x21 :: .int .i64 (x21.length : Int) :: .bool (decide (1 < (x21.length : Int))) :: .bool (decide (1 < (x21.length : Int))) :: .str x21 :: .int .u8 (x46.toNat : Int) :: .bool ((x46.toNat : Int) == 48) :: .bool ((x46.toNat : Int) == 48) :: .bool ((x46.toNat : Int) == 48) :: an 4 []))), ⟨lv + 1, L, E⟩, [], E⟩ [] (by first | (simp -implicitDefEqProofs [hg44, hg45, q47, q48]; done) | simp -implicitDefEqProofs [hg44, hg45, q47, q48, hg44n, hg45n]) claims_nil ?_
                              refine satO_nil (by simp) ?_
                              refine ⟨⟨.str a0 :: an 4 (.int .i64 x1 :: an 1 (.int .i64 x29 :: an 71 (.bool ((x46.toNat : Int) == 48) :: an 4 []))), ⟨lv + 1, L, E⟩, [], E⟩, weak_tmps ?_, n, by omega, ((x46.toNat : Int) == 48), L, hA, h, rfl⟩
                              (try simp only [an, List.map_cons, List.map_nil]); repeat (first | exact VLeL.nil | refine VLeL.cons (by first | exact VLe.refl _ | exact VLe.any _ | exact VLe.nil _ _ | exact VLe.full _ _ | (refine VLe.agg' ?_; repeat (first | exact VLeL.nil | refine VLeL.cons (by first | exact VLe.refl _ | exact VLe.any _ | exact VLe.nil _ _) ?_))) ?_)
                            · have h := ite_f hg49 h
                              have hg49n := hg49
                              try simp at hg49n
                              refine satO_step 13 [] ⟨.str a0 :: an 4 (.int .i64 x1 :: .str x21 :: .int .i64 x29 :: .int .i64 x30 :: an 35 (.int .i64 x30 :: .str x21 :: .int .i64 (x21.length : Int) :: .bool (decide (x30 < (x21.length : Int))) :: an 19 (.str x21 :: .int .i64 (x21.length : Int) :: .bool ((x21.length : Int) == 0) :: .bool ((x21.length : Int) == 0) :: .str x21 :: .int .i64 (x21.length : Int) :: .bool (decide (1 < (x21.length : Int))) :: .bool (decide (1 < (x21.length : Int))) :: .tup [] :: .tup [] :: .tup [] :: .bool false :: .bool false :: an 4 []))), ⟨lv + 1, L, E⟩, [], E⟩ [] (by first | (simp -implicitDefEqProofs [hg44, hg49]; done) | simp -implicitDefEqProofs [hg44, hg49, hg44n, hg49n]) claims_nil ?_
                              refine satO_nil (by simp) ?_
                              refine ⟨⟨.str a0 :: an 4 (.int .i64 x1 :: an 1 (.int .i64 x29 :: an 71 (.bool false :: an 4 []))), ⟨lv + 1, L, E⟩, [], E⟩, weak_tmps ?_, n, by omega, false, L, hA, h, rfl⟩
                              (try simp only [an, List.map_cons, List.map_nil]); repeat (first | exact VLeL.nil | refine VLeL.cons (by first | exact VLe.refl _ | exact VLe.any _ | exact VLe.nil _ _ | exact VLe.full _ _ | (refine VLe.agg' ?_; repeat (first | exact VLeL.nil | refine VLeL.cons (by first | exact VLe.refl _ | exact VLe.any _ | exact VLe.nil _ _) ?_))) ?_)
                        · rintro σ0 σ hw ⟨k, hk, x42, L, hA, h, rfl⟩
                          rcases k with _ | n
                          · simp [go_ref02_Step_J3] at h
                          · rw [go_ref02_Step_J3] at h
                            refine sat_weak hw ?_
                            repeat refine sat_seq ?_
                            refine sat_cond rfl (fun hb => ?_) (fun hb => ?_)
                            · have h := ite_t hb h
                              repeat refine sat_seq ?_
                              refine satO_reg ?_
                              refine satO_step 3 [] ⟨.str a0 :: an 1 (.str ([]) :: .int .i64 0 :: .bool false :: .int .i64 x1 :: an 1 (.int .i64 x29 :: an 71 (.bool x42 :: an 4 []))), ⟨lv + 1, L, E⟩, [], E⟩ [] (by simp -implicitDefEqProofs []) claims_nil ?_
                              refine satO_nil (by simp) ?_
                              repeat refine sat_seq ?_
                              refine sat_ret ?_
                              refine ends (v := .tup [.str ([]), .int .i64 0, .bool false]) (by simp [resultsV, resL, resV, tupOf, Tryd.f27, pLoad]) rfl rfl ?_
                              injection h with h
                              subst h
                              exact .keep _ (by simp [V.kin, V.kinL])
                            · have h := ite_f hb h
                              repeat refine sat_seq ?_
                              refine sat_skip ?_
                              repeat refine sat_seq ?_
                              refine satO_reg ?_
                              obtain ⟨x50, q51, h⟩ := bnd_hi h
                              obtain ⟨q51, q52, q53, q54, q55, q56⟩ := sub_some q51
                              have q57 := q52
                              try simp only [Int.ofNat_le] at q57
                              refine satO_step 7 [] ⟨.str a0 :: an 1 (.str x50 :: .int .i64 x29 :: .bool true :: .int .i64 x1 :: an 1 (.int .i64 x29 :: an 71 (.bool x42 :: .str a0 :: .int .i64 x1 :: .str x50 :: .int .i64 x29 :: []))), ⟨lv + 1, L, E⟩, [], E⟩ [] (by simp -implicitDefEqProofs [q51, q52, q53, q54, q55, q56, q57, List.map_take, List.map_drop, Int.max_eq_left]) claims_nil ?_
                              refine satO_nil (by simp) ?_
                              repeat refine sat_seq ?_
                              refine sat_ret ?_
                              refine ends (v := .tup [.str x50, .int .i64 x29, .bool true]) (by simp [resultsV, resL, resV, tupOf, Tryd.f27, pLoad]) rfl rfl ?_
                              injection h with h
                              subst h
                              exact .keep _ (by simp [V.kin, V.kinL])
end Go.Proofs

namespace Go.Proofs
open Go Go.Ab
set_option maxRecDepth 10000
set_option maxHeartbeats 1000000
set_option linter.unusedSimpArgs false
set_option linter.unusedVariables false
theorem go_ref02_Check_ok (n : Nat) (a0 : List UInt8) (r : Int) (h : go_ref02_Check n a0 = some r) : PCall Tryd.prog 38 [.str a0] (.int .i64 r) := by
  rcases n with _ | n
  · simp [go_ref02_Check] at h
  rw [go_ref02_Check] at h
  refine pcall_of Tryd.func38 rfl Tryd.ntmps38 (fun _ _ => Tryd.call38 _ _) fun lv E => ?_
  simp only [List.length_cons, List.length_nil, Nat.reduceAdd, Nat.reduceSub, List.replicate, List.cons_append, List.nil_append]
  have hA := AccG.nil (lv + 1)
  generalize ([] : List (Option AObj)) = L at hA ⊢
  repeat refine sat_seq ?_
  refine satO_reg ?_
  refine satO_step 1 [] ⟨.str a0 :: an 1 (.int .i64 0 :: an 30 []), ⟨lv + 1, L, E⟩, [], E⟩ [] (by simp -implicitDefEqProofs []) claims_nil ?_
  refine satO_nil (by simp) ?_
  repeat refine sat_seq ?_
  refine satO_reg ?_
  refine satO_step 3 [] ⟨.str a0 :: an 1 (.int .i64 0 :: an 5 (.str a0 :: .int .i64 (a0.length : Int) :: .bool (decide (4000 < (a0.length : Int))) :: an 22 [])), ⟨lv + 1, L, E⟩, [], E⟩ [] (by simp -implicitDefEqProofs []) claims_nil ?_
  refine satO_nil (by simp) ?_
  repeat refine sat_seq ?_
  refine sat_cond rfl (fun hb => ?_) (fun hb => ?_)
  · have h := ite_t hb h
    repeat refine sat_seq ?_
    refine satO_reg ?_
    refine satO_step 1 [] ⟨.str a0 :: an 1 (.int .i64 4 :: an 5 (.str a0 :: .int .i64 (a0.length : Int) :: .bool (decide (4000 < (a0.length : Int))) :: an 22 [])), ⟨lv + 1, L, E⟩, [], E⟩ [] (by simp -implicitDefEqProofs []) claims_nil ?_
    refine satO_nil (by simp) ?_
    repeat refine sat_seq ?_
    refine sat_ret ?_
    refine ends (v := .int .i64 4) (by simp [resultsV, resL, resV, tupOf, Tryd.f38, pLoad]) rfl rfl ?_
    injection h with h
    subst h
    exact (.keep _ (by simp [V.kin, V.kinL]))
  · have h := ite_f hb h
    repeat refine sat_seq ?_
    refine sat_skip ?_
    repeat refine sat_seq ?_
    refine satO_reg ?_
    obtain ⟨y1, q2, h⟩ := bnd_hi h
    refine satO_step 3 [(.sl 1 (y1.map V.str) false, none)] ⟨.str a0 :: an 1 (.int .i64 0 :: .sl 1 (y1.map V.str) false :: an 4 (.str a0 :: .int .i64 (a0.length : Int) :: .bool (decide (4000 < (a0.length : Int))) :: .str a0 :: .sl 1 (y1.map V.str) false :: an 20 [])), ⟨lv + 1, L, E⟩, [], E⟩ [⟨26, [.str a0], ⟨lv + 1, L, E⟩, .sl 1 (y1.map V.str) false, ⟨lv + 1, L, E⟩⟩] (by simp -implicitDefEqProofs []) (claims_cons (go_ref02_Cut_ok _ _ _ q2 _) claims_nil) ?_
    refine satO_nil (by simp) ?_
    repeat refine sat_seq ?_
    refine satO_reg ?_
    refine satO_step 3 [] ⟨.str a0 :: an 1 (.int .i64 0 :: .sl 1 (y1.map V.str) false :: an 4 (.str a0 :: .int .i64 (a0.length : Int) :: .bool (decide (4000 < (a0.length : Int))) :: .str a0 :: .sl 1 (y1.map V.str) false :: .sl 1 (y1.map V.str) false :: .int .i64 (y1.length : Int) :: .bool (decide (40 < (y1.length : Int))) :: an 17 [])), ⟨lv + 1, L, E⟩, [], E⟩ [] (by simp -implicitDefEqProofs []) claims_nil ?_
    refine satO_nil (by simp) ?_
    repeat refine sat_seq ?_
    refine sat_cond rfl (fun hb => ?_) (fun hb => ?_)
    · have h := ite_t hb h
      repeat refine sat_seq ?_
      refine satO_reg ?_
      refine satO_step 1 [] ⟨.str a0 :: an 1 (.int .i64 4 :: .sl 1 (y1.map V.str) false :: an 4 (.str a0 :: .int .i64 (a0.length : Int) :: .bool (decide (4000 < (a0.length : Int))) :: .str a0 :: .sl 1 (y1.map V.str) false :: .sl 1 (y1.map V.str) false :: .int .i64 (y1.length : Int) :: .bool (decide (40 < (y1.length : Int))) :: an 17 [])), ⟨lv + 1, L, E⟩, [], E⟩ [] (by simp -implicitDefEqProofs []) claims_nil ?_
      refine satO_nil (by simp) ?_
      repeat refine sat_seq ?_
      refine sat_ret ?_
      refine ends (v := .int .i64 4) (by simp [resultsV, resL, resV, tupOf, Tryd.f38, pLoad]) rfl rfl ?_
      injection h with h
      subst h
      exact (.keep _ (by simp [V.kin, V.kinL]))
    · have h := ite_f hb h
      repeat refine sat_seq ?_
      refine sat_skip ?_
      repeat refine sat_seq ?_
      refine satO_reg ?_
      refine satO_step 1 [] ⟨.str a0 :: an 1 (.int .i64 0 :: .sl 1 (y1.map V.str) false :: .int .i64 0 :: an 3 (.str a0 :: .int .i64 (a0.length : Int) :: .bool (decide (4000 < (a0.length : Int))) :: .str a0 :: .sl 1 (y1.map V.str) false :: .sl 1 (y1.map V.str) false :: .int .i64 (y1.length : Int) :: .bool (decide (40 < (y1.length : Int))) :: an 17 [])), ⟨lv + 1, L, E⟩, [], E⟩ [] (by simp -implicitDefEqProofs []) claims_nil ?_
      refine satO_nil (by simp) ?_
      repeat refine sat_seq ?_
      refine sat_block ?_
      repeat refine sat_seq ?_
      refine sat_loop (fun k σ => ∃ (x3 : Int) (L : List (Option AObj)), k ≤ n ∧ AccG (lv + 1) L [] [] ∧ go_ref02_Check_L1 k y1 x3 = some r ∧ σ = ⟨an 3 (.sl 1 (y1.map V.str) false :: .int .i64 x3 :: an 28 []), ⟨lv + 1, L, E⟩, [], E⟩) n ⟨an 3 (.sl 1 (y1.map V.str) false :: .int .i64 0 :: an 28 []), ⟨lv + 1, L, E⟩, [], E⟩ (weak_tmps ?_) ⟨0, L, Nat.le_refl _, hA, h, rfl⟩ ?_
      · (try simp only [an, List.map_cons, List.map_nil]); repeat (first | exact VLeL.nil | refine VLeL.cons (by first | exact VLe.refl _ | exact VLe.any _ | exact VLe.nil _ _ | exact VLe.full _ _ | (refine VLe.agg' ?_; repeat (first | exact VLeL.nil | refine VLeL.cons (by first | exact VLe.refl _ | exact VLe.any _ | exact VLe.nil _ _) ?_))) ?_)
      · rintro k σ ⟨x3, L, hk, hA, h, rfl⟩
        rcases k with _ | n
        · simp [go_ref02_Check_L1] at h
        · rw [go_ref02_Check_L1] at h
          repeat refine sat_seq ?_
          refine satO_reg ?_
          refine satO_step 4 [] ⟨an 3 (.sl 1 (y1.map V.str) false :: .int .i64 x3 :: an 11 (.int .i64 x3 :: .sl 1 (y1.map V.str) false :: .int .i64 (y1.length : Int) :: .bool (decide (x3 < (y1.length : Int))) :: an 13 [])), ⟨lv + 1, L, E⟩, [], E⟩ [] (by simp -implicitDefEqProofs []) claims_nil ?_
          refine satO_nil (by simp) ?_
          repeat refine sat_seq ?_
          refine sat_cond rfl (fun hb => ?_) (fun hb => ?_)
          · have h := ite_t hb h
            repeat refine sat_seq ?_
            refine sat_skip ?_
            repeat refine sat_seq ?_
            refine sat_block ?_
            repeat refine sat_seq ?_
            refine satO_reg ?_
            obtain ⟨x4, q5, h⟩ := bnd_hi h
            obtain ⟨q5, q6⟩ := ix_some q5
            obtain ⟨y7, q8, h⟩ := bnd_hi h
            refine satO_step 12 [(.tup [.str y7.1, .int .i64 y7.2.1, .bool y7.2.2], none)] ⟨an 3 (.sl 1 (y1.map V.str) false :: .int .i64 x3 :: .str y7.1 :: .int .i64 y7.2.1 :: .bool y7.2.2 :: an 8 (.int .i64 x3 :: .sl 1 (y1.map V.str) false :: .int .i64 (y1.length : Int) :: .bool (decide (x3 < (y1.length : Int))) :: an 2 (.tup [.str y7.1, .int .i64 y7.2.1, .bool y7.2.2] :: .sl 1 (y1.map V.str) false :: .int .i64 x3 :: .ref [.str x4] 0 :: .str x4 :: .tup [.str y7.1, .int .i64 y7.2.1, .bool y7.2.2] :: .str y7.1 :: .int .i64 y7.2.1 :: .bool y7.2.2 :: an 2 []))), ⟨lv + 1, L, E⟩, [], E⟩ [⟨27, [.str x4], ⟨lv + 1, L, E⟩, .tup [.str y7.1, .int .i64 y7.2.1, .bool y7.2.2], ⟨lv + 1, L, E⟩⟩] (by simp -implicitDefEqProofs [q5, q6]) (claims_cons (go_ref02_Step_ok _ _ _ q8 _) claims_nil) ?_
            refine satO_nil (by simp) ?_
            repeat refine sat_seq ?_
            refine satO_reg ?_
            refine satO_step 2 [] ⟨an 3 (.sl 1 (y1.map V.str) false :: .int .i64 x3 :: .str y7.1 :: .int .i64 y7.2.1 :: .bool y7.2.2 :: an 8 (.int .i64 x3 :: .sl 1 (y1.map V.str) false :: .int .i64 (y1.length : Int) :: .bool (decide (x3 < (y1.length : Int))) :: an 2 (.tup [.str y7.1, .int .i64 y7.2.1, .bool y7.2.2] :: .sl 1 (y1.map V.str) false :: .int .i64 x3 :: .ref [.str x4] 0 :: .str x4 :: .tup [.str y7.1, .int .i64 y7.2.1, .bool y7.2.2] :: .str y7.1 :: .int .i64 y7.2.1 :: .bool y7.2.2 :: .bool y7.2.2 :: .bool (!y7.2.2) :: []))), ⟨lv + 1, L, E⟩, [], E⟩ [] (by simp -implicitDefEqProofs []) claims_nil ?_
            refine satO_nil (by simp) ?_
            repeat refine sat_seq ?_
            refine sat_cond rfl (fun hb => ?_) (fun hb => ?_)
            · have h := ite_t hb h
              repeat refine sat_seq ?_
              refine satO_reg ?_
              refine satO_step 1 [] ⟨an 2 (.int .i64 12 :: .sl 1 (y1.map V.str) false :: .int .i64 x3 :: .str y7.1 :: .int .i64 y7.2.1 :: .bool y7.2.2 :: an 8 (.int .i64 x3 :: .sl 1 (y1.map V.str) false :: .int .i64 (y1.length : Int) :: .bool (decide (x3 < (y1.length : Int))) :: an 2 (.tup [.str y7.1, .int .i64 y7.2.1, .bool y7.2.2] :: .sl 1 (y1.map V.str) false :: .int .i64 x3 :: .ref [.str x4] 0 :: .str x4 :: .tup [.str y7.1, .int .i64 y7.2.1, .bool y7.2.2] :: .str y7.1 :: .int .i64 y7.2.1 :: .bool y7.2.2 :: .bool y7.2.2 :: .bool (!y7.2.2) :: []))), ⟨lv + 1, L, E⟩, [], E⟩ [] (by simp -implicitDefEqProofs []) claims_nil ?_
              refine satO_nil (by simp) ?_
              repeat refine sat_seq ?_
              refine sat_ret ?_
              refine ends (v := .int .i64 12) (by simp [resultsV, resL, resV, tupOf, Tryd.f38, pLoad]) rfl rfl ?_
              injection h with h
              subst h
              exact (.keep _ (by simp [V.kin, V.kinL]))
            · have h := ite_f hb h
              repeat refine sat_seq ?_
              refine sat_skip ?_
              repeat refine sat_seq ?_
              refine satO_reg ?_
              refine satO_step 3 [] ⟨an 3 (.sl 1 (y1.map V.str) false :: .int .i64 (IntKind.i64.wrap (x3 + 1)) :: .str y7.1 :: .int .i64 y7.2.1 :: .bool y7.2.2 :: an 8 (.int .i64 x3 :: .sl 1 (y1.map V.str) false :: .int .i64 (y1.length : Int) :: .bool (decide (x3 < (y1.length : Int))) :: .int .i64 x3 :: .int .i64 (IntKind.i64.wrap (x3 + 1)) :: .tup [.str y7.1, .int .i64 y7.2.1, .bool y7.2.2] :: .sl 1 (y1.map V.str) false :: .int .i64 x3 :: .ref [.str x4] 0 :: .str x4 :: .tup [.str y7.1, .int .i64 y7.2.1, .bool y7.2.2] :: .str y7.1 :: .int .i64 y7.2.1 :: .bool y7.2.2 :: .bool y7.2.2 :: .bool (!y7.2.2) :: [])), ⟨lv + 1, L, E⟩, [], E⟩ [] (by simp -implicitDefEqProofs []) claims_nil ?_
              refine satO_nil (by simp) ?_
              refine ⟨n, ⟨an 3 (.sl 1 (y1.map V.str) false :: .int .i64 (IntKind.i64.wrap (x3 + 1)) :: an 28 []), ⟨lv + 1, L, E⟩, [], E⟩, weak_tmps ?_, ⟨(IntKind.i64.wrap (x3 + 1)), L, by omega, hA, h, rfl⟩, by omega⟩
              (try simp only [an, List.map_cons, List.map_nil]); repeat (first | exact VLeL.nil | refine VLeL.cons (by first | exact VLe.refl _ | exact VLe.any _ | exact VLe.nil _ _ | exact VLe.full _ _ | (refine VLe.agg' ?_; repeat (first | exact VLeL.nil | refine VLeL.cons (by first | exact VLe.refl _ | exact VLe.any _ | exact VLe.nil _ _) ?_))) ?_)
          · have h := ite_f hb h
            repeat refine sat_seq ?_
            refine sat_exit ?_
            repeat refine sat_seq ?_
            refine satO_reg ?_
            refine satO_step 1 [] ⟨an 2 (.int .i64 0 :: .sl 1 (y1.map V.str) false :: .int .i64 x3 :: an 11 (.int .i64 x3 :: .sl 1 (y1.map V.str) false :: .int .i64 (y1.length : Int) :: .bool (decide (x3 < (y1.length : Int))) :: an 13 [])), ⟨lv + 1, L, E⟩, [], E⟩ [] (by simp -implicitDefEqProofs []) claims_nil ?_
            refine satO_nil (by simp) ?_
            repeat refine sat_seq ?_
            refine sat_ret ?_
            refine ends (v := .int .i64 0) (by simp [resultsV, resL, resV, tupOf, Tryd.f38, pLoad]) rfl rfl ?_
            injection h with h
            subst h
            exact (.keep _ (by simp [V.kin, V.kinL]))
end Go.Proofs

namespace Go.Proofs
open Go Go.Ab
set_option maxRecDepth 10000
set_option maxHeartbeats 1000000
set_option linter.unusedSimpArgs false
set_option linter.unusedVariables false
theorem go_ref30_formed_ok (n : Nat) (a0 : GOver) (r : Bool) (h : go_ref30_formed n a0 = some r) : PCall Tryd.prog 23 [.agg a0.cs] (.bool r) := by
  rcases n with _ | n
  · simp [go_ref30_formed] at h
  rw [go_ref30_formed] at h
  refine pcall_of Tryd.func23 rfl Tryd.ntmps23 (fun _ _ => Tryd.call23 _ _) fun lv E => ?_
  simp only [List.length_cons, List.length_nil, Nat.reduceAdd, Nat.reduceSub, List.replicate, List.cons_append, List.nil_append]
  have hA := AccG.nil (lv + 1)
  generalize ([] : List (Option AObj)) = L at hA ⊢
  repeat refine sat_seq ?_
  refine satO_reg ?_
  refine satO_step 1 [] ⟨.agg a0.cs :: .ptr (lv + 1) L.length 0 :: an 50 [], ⟨lv + 1, (L ++ [some (.cells a0.cs)]), E⟩, [], E⟩ [] (by simp -implicitDefEqProofs [GOver.cs]) claims_nil ?_
  have hA : AccG (lv + 1) (L ++ [some (.cells a0.cs)]) [] [(L.length, .cells a0.cs)] := hA.obj _
  generalize L.length = i2 at hA ⊢
  generalize (L ++ [some (.cells a0.cs)]) = L at hA ⊢
  have g0 := hA.get (k := 0) rfl
  refine satO_step 1 [] ⟨.agg a0.cs :: .ptr (lv + 1) i2 0 :: .bool false :: an 49 [], ⟨lv + 1, L, E⟩, [], E⟩ [] (by simp -implicitDefEqProofs [GOver.cs, g0]) claims_nil ?_
  refine satO_nil (by simp) ?_
  repeat refine sat_seq ?_
  refine sat_meet (fun σ => ∃ (k : Nat), k ≤ n ∧ ∃ (x3 : Bool) (L : List (Option AObj)), AccG (lv + 1) L [] [(i2, .cells a0.cs)] ∧ go_ref30_formed_J1 k a0 x3 = some r ∧ σ = ⟨an 1 (.ptr (lv + 1) i2 0 :: an 11 (.bool x3 :: an 38 [])), ⟨lv + 1, L, E⟩, [], E⟩) ?_ ?_
  · refine satO_reg ?_
    obtain ⟨y4, q5, h⟩ := bnd_hi h
    rcases Bool.eq_false_or_eq_true (!(y4 == 0)) with hg6 | hg7
    · have h := ite_t hg6 h
      have hg6n := hg6
      try simp at hg6n
      have g0 := hA.get (k := 0) rfl
      refine satO_step 10 [(.int .i64 y4, none)] ⟨.agg a0.cs :: .ptr (lv + 1) i2 0 :: .bool false :: an 1 (.ptr (lv + 1) i2 0 :: .str a0.path :: .int .i64 y4 :: .bool (!(y4 == 0)) :: .bool (!(y4 == 0)) :: .tup [] :: .tup [] :: .tup [] :: .tup [] :: .bool true :: an 38 []), ⟨lv + 1, L, E⟩, [], E⟩ [⟨38, [.str a0.path], ⟨lv + 1, L, E⟩, .int .i64 y4, ⟨lv + 1, L, E⟩⟩] (by first | (simp -implicitDefEqProofs [GOver.cs, g0, hg6]; done) | simp -implicitDefEqProofs [GOver.cs, g0, hg6, hg6n]) (claims_cons (go_ref02_Check_ok _ _ _ q5 _) claims_nil) ?_
      refine satO_nil (by simp) ?_
      refine ⟨⟨an 1 (.ptr (lv + 1) i2 0 :: an 11 (.bool true :: an 38 [])), ⟨lv + 1, L, E⟩, [], E⟩, weak_tmps ?_, n, by omega, true, L, hA, h, rfl⟩
      (try simp only [an, List.map_cons, List.map_nil]); repeat (first | exact VLeL.nil | refine VLeL.cons (by first | exact VLe.refl _ | exact VLe.any _ | exact VLe.nil _ _ | exact VLe.full _ _ | (refine VLe.agg' ?_; repeat (first | exact VLeL.nil | refine VLeL.cons (by first | exact VLe.refl _ | exact VLe.any _ | exact VLe.nil _ _) ?_))) ?_)
    · have h := ite_f hg7 h
      have hg7n := hg7
      try simp at hg7n
      have g0 := hA.get (k := 0) rfl
      refine satO_step 10 [(.int .i64 y4, none)] ⟨.agg a0.cs :: .ptr (lv + 1) i2 0 :: .bool false :: an 1 (.ptr (lv + 1) i2 0 :: .str a0.path :: .int .i64 y4 :: .bool (!(y4 == 0)) :: .bool (!(y4 == 0)) :: .ptr (lv + 1) i2 0 :: .str a0.path :: .int .i64 (a0.path.length : Int) :: .bool ((a0.path.length : Int) == 0) :: .bool ((a0.path.length : Int) == 0) :: an 38 []), ⟨lv + 1, L, E⟩, [], E⟩ [⟨38, [.str a0.path], ⟨lv + 1, L, E⟩, .int .i64 y4, ⟨lv + 1, L, E⟩⟩] (by first | (simp -implicitDefEqProofs [GOver.cs, g0, hg7]; done) | simp -implicitDefEqProofs [GOver.cs, g0, hg7, hg7n]) (claims_cons (go_ref02_Check_ok _ _ _ q5 _) claims_nil) ?_
      refine satO_nil (by simp) ?_
      refine ⟨⟨an 1 (.ptr (lv + 1) i2 0 :: an 11 (.bool ((a0.path.length : Int) == 0) :: an 38 [])), ⟨lv + 1, L, E⟩, [], E⟩, weak_tmps ?_, n, by omega, ((a0.path.length : Int) == 0), L, hA, h, rfl⟩
      (try simp only [an, List.map_cons, List.map_nil]); repeat (first | exact VLeL.nil | refine VLeL.cons (by first | exact VLe.refl _ | exact VLe.any _ | exact VLe.nil _ _ | exact VLe.full _ _ | (refine VLe.agg' ?_; repeat (first | exact VLeL.nil | refine VLeL.cons (by first | exact VLe.refl _ | exact VLe.any _ | exact VLe.nil _ _) ?_))) ?_)
  · rintro σ0 σ hw ⟨k, hk, x3, L, hA, h, rfl⟩
    rcases k with _ | n
    · simp [go_ref30_formed_J1] at h
    · rw [go_ref30_formed_J1] at h
      refine sat_weak hw ?_
      repeat refine sat_seq ?_
      refine sat_cond rfl (fun hb => ?_) (fun hb => ?_)
      · have h := ite_t hb h
        repeat refine sat_seq ?_
        refine satO_reg ?_
        have g0 := hA.get (k := 0) rfl
        refine satO_step 1 [] ⟨an 1 (.ptr (lv + 1) i2 0 :: .bool false :: an 10 (.bool x3 :: an 38 [])), ⟨lv + 1, L, E⟩, [], E⟩ [] (by simp -implicitDefEqProofs [GOver.cs, g0]) claims_nil ?_
        refine satO_nil (by simp) ?_
        repeat refine sat_seq ?_
        refine sat_ret ?_
        have g0 := hA.get (k := 0) rfl
        refine ends (v := .bool false) (by simp [resultsV, resL, resV, tupOf, Tryd.f23, pLoad, g0, GOver.cs]) rfl rfl ?_
        injection h with h
        subst h
        exact (.keep _ (by simp [V.kin, V.kinL, GOver.cs]))
      · have h := ite_f hb h
        repeat refine sat_seq ?_
        refine sat_skip ?_
        repeat refine sat_seq ?_
        refine satO_reg ?_
        have g0 := hA.get (k := 0) rfl
        refine satO_step 2 [] ⟨an 1 (.ptr (lv + 1) i2 0 :: an 11 (.bool x3 :: .ptr (lv + 1) i2 1 :: .int .u8 a0.kind :: an 36 [])), ⟨lv + 1, L, E⟩, [], E⟩ [] (by simp -implicitDefEqProofs [GOver.cs, g0]) claims_nil ?_
        refine satO_nil (by simp) ?_
        repeat refine sat_seq ?_
        refine sat_block ?_
        repeat refine sat_seq ?_
        refine satO_reg ?_
        have g0 := hA.get (k := 0) rfl
        refine satO_step 2 [] ⟨an 1 (.ptr (lv + 1) i2 0 :: an 11 (.bool x3 :: .ptr (lv + 1) i2 1 :: .int .u8 a0.kind :: .bool (a0.kind == 1) :: .bool (a0.kind == 1) :: an 34 [])), ⟨lv + 1, L, E⟩, [], E⟩ [] (by simp -implicitDefEqProofs [GOver.cs, g0]) claims_nil ?_
        refine satO_nil (by simp) ?_
        repeat refine sat_seq ?_
        refine sat_cond rfl (fun hb => ?_) (fun hb => ?_)
        · have h := ite_t hb h
          repeat refine sat_seq ?_
          refine satO_reg ?_
          have g0 := hA.get (k := 0) rfl
          refine satO_step 5 [] ⟨an 1 (.ptr (lv + 1) i2 0 :: .bool ((a0.name.length : Int) == 0) :: an 10 (.bool x3 :: .ptr (lv + 1) i2 1 :: .int .u8 a0.kind :: .bool (a0.kind == 1) :: .bool (a0.kind == 1) :: .ptr (lv + 1) i2 2 :: .str a0.name :: .int .i64 (a0.name.length : Int) :: .bool ((a0.name.length : Int) == 0) :: an 30 [])), ⟨lv + 1, L, E⟩, [], E⟩ [] (by simp -implicitDefEqProofs [GOver.cs, g0]) claims_nil ?_
          refine satO_nil (by simp) ?_
          repeat refine sat_seq ?_
          refine sat_ret ?_
          have g0 := hA.get (k := 0) rfl
          refine ends (v := .bool ((a0.name.length : Int) == 0)) (by simp [resultsV, resL, resV, tupOf, Tryd.f23, pLoad, g0, GOver.cs]) rfl rfl ?_
          injection h with h
          subst h
          exact (.keep _ (by simp [V.kin, V.kinL, GOver.cs]))
        · have h := ite_f hb h
          repeat refine sat_seq ?_
          refine satO_reg ?_
          have g0 := hA.get (k := 0) rfl
          refine satO_step 2 [] ⟨an 1 (.ptr (lv + 1) i2 0 :: an 11 (.bool x3 :: .ptr (lv + 1) i2 1 :: .int .u8 a0.kind :: .bool (a0.kind == 1) :: .bool (a0.kind == 1) :: an 4 (.bool (a0.kind == 2) :: .bool (a0.kind == 2) :: an 28 []))), ⟨lv + 1, L, E⟩, [], E⟩ [] (by simp -implicitDefEqProofs [GOver.cs, g0]) claims_nil ?_
          refine satO_nil (by simp) ?_
          repeat refine sat_seq ?_
          refine sat_cond rfl (fun hb => ?_) (fun hb => ?_)
          · have h := ite_t hb h
            repeat refine sat_seq ?_
            refine satO_reg ?_
            obtain ⟨y8, q9, h⟩ := bnd_hi h
            have g0 := hA.get (k := 0) rfl
            refine satO_step 4 [(.bool y8, none)] ⟨an 1 (.ptr (lv + 1) i2 0 :: .bool y8 :: an 10 (.bool x3 :: .ptr (lv + 1) i2 1 :: .int .u8 a0.kind :: .bool (a0.kind == 1) :: .bool (a0.kind == 1) :: an 4 (.bool (a0.kind == 2) :: .bool (a0.kind == 2) :: .ptr (lv + 1) i2 2 :: .str a0.name :: .bool y8 :: an 25 []))), ⟨lv + 1, L, E⟩, [], E⟩ [⟨14, [.str a0.name], ⟨lv + 1, L, E⟩, .bool y8, ⟨lv + 1, L, E⟩⟩] (by simp -implicitDefEqProofs [GOver.cs, g0]) (claims_cons (go_ref02_Name_ok _ _ _ q9 _) claims_nil) ?_
            refine satO_nil (by simp) ?_
            repeat refine sat_seq ?_
            refine sat_ret ?_
            have g0 := hA.get (k := 0) rfl
            refine ends (v := .bool y8) (by simp [resultsV, resL, resV, tupOf, Tryd.f23, pLoad, g0, GOver.cs]) rfl rfl ?_
            injection h with h
            subst h
            exact (.keep _ (by simp [V.kin, V.kinL, GOver.cs]))
          · have h := ite_f hb h
            repeat refine sat_seq ?_
            refine satO_reg ?_
            have g0 := hA.get (k := 0) rfl
            refine satO_step 2 [] ⟨an 1 (.ptr (lv + 1) i2 0 :: an 11 (.bool x3 :: .ptr (lv + 1) i2 1 :: .int .u8 a0.kind :: .bool (a0.kind == 1) :: .bool (a0.kind == 1) :: an 4 (.bool (a0.kind == 2) :: .bool (a0.kind == 2) :: an 3 (.bool (a0.kind == 3) :: .bool (a0.kind == 3) :: an 23 [])))), ⟨lv + 1, L, E⟩, [], E⟩ [] (by simp -implicitDefEqProofs [GOver.cs, g0]) claims_nil ?_
            refine satO_nil (by simp) ?_
            repeat refine sat_seq ?_
            refine sat_cond rfl (fun hb => ?_) (fun hb => ?_)
            · have h := ite_t hb h
              repeat refine sat_seq ?_
              refine satO_reg ?_
              have g0 := hA.get (k := 0) rfl
              refine satO_step 1 [] ⟨an 1 (.ptr (lv + 1) i2 0 :: an 1 (.int .i64 0 :: an 9 (.bool x3 :: .ptr (lv + 1) i2 1 :: .int .u8 a0.kind :: .bool (a0.kind == 1) :: .bool (a0.kind == 1) :: an 4 (.bool (a0.kind == 2) :: .bool (a0.kind == 2) :: an 3 (.bool (a0.kind == 3) :: .bool (a0.kind == 3) :: an 23 []))))), ⟨lv + 1, L, E⟩, [], E⟩ [] (by simp -implicitDefEqProofs [GOver.cs, g0]) claims_nil ?_
              refine satO_nil (by simp) ?_
              repeat refine sat_seq ?_
              refine sat_block ?_
              repeat refine sat_seq ?_
              refine sat_loop (fun k σ => ∃ (x10 : Int) (L : List (Option AObj)), k ≤ n ∧ AccG (lv + 1) L [] [(i2, .cells a0.cs)] ∧ go_ref30_formed_L1 k a0 x10 = some r ∧ σ = ⟨an 1 (.ptr (lv + 1) i2 0 :: an 1 (.int .i64 x10 :: an 48 [])), ⟨lv + 1, L, E⟩, [], E⟩) n ⟨an 1 (.ptr (lv + 1) i2 0 :: an 1 (.int .i64 0 :: an 48 [])), ⟨lv + 1, L, E⟩, [], E⟩ (weak_tmps ?_) ⟨0, L, Nat.le_refl _, hA, h, rfl⟩ ?_
              · (try simp only [an, List.map_cons, List.map_nil]); repeat (first | exact VLeL.nil | refine VLeL.cons (by first | exact VLe.refl _ | exact VLe.any _ | exact VLe.nil _ _ | exact VLe.full _ _ | (refine VLe.agg' ?_; repeat (first | exact VLeL.nil | refine VLeL.cons (by first | exact VLe.refl _ | exact VLe.any _ | exact VLe.nil _ _) ?_))) ?_)
              · rintro k σ ⟨x10, L, hk, hA, h, rfl⟩
                rcases k with _ | n
                · simp [go_ref30_formed_L1] at h
                · rw [go_ref30_formed_L1] at h
                  repeat refine sat_seq ?_
                  refine satO_reg ?_
                  have g0 := hA.get (k := 0) rfl
                  refine satO_step 5 [] ⟨an 1 (.ptr (lv + 1) i2 0 :: an 1 (.int .i64 x10 :: an 25 (.int .i64 x10 :: .ptr (lv + 1) i2 2 :: .str a0.name :: .int .i64 (a0.name.length : Int) :: .bool (decide (x10 < (a0.name.length : Int))) :: an 18 []))), ⟨lv + 1, L, E⟩, [], E⟩ [] (by simp -implicitDefEqProofs [GOver.cs, g0]) claims_nil ?_
                  refine satO_nil (by simp) ?_
                  repeat refine sat_seq ?_
                  refine sat_cond rfl (fun hb => ?_) (fun hb => ?_)
                  · have h := ite_t hb h
                    repeat refine sat_seq ?_
                    refine sat_skip ?_
                    repeat refine sat_seq ?_
                    refine sat_block ?_
                    repeat refine sat_seq ?_
                    refine sat_meet (fun σ => ∃ (k : Nat), k ≤ n ∧ ∃ (x11 : Bool) (L : List (Option AObj)), AccG (lv + 1) L [] [(i2, .cells a0.cs)] ∧ go_ref30_formed_J2 k a0 x10 x11 = some r ∧ σ = ⟨an 1 (.ptr (lv + 1) i2 0 :: an 1 (.int .i64 x10 :: an 43 (.bool x11 :: an 4 []))), ⟨lv + 1, L, E⟩, [], E⟩) ?_ ?_
                    · refine satO_reg ?_
                      obtain ⟨x12, q13, h⟩ := bnd_hi h
                      obtain ⟨q13, q14⟩ := ix_some q13
                      rcases Bool.eq_false_or_eq_true (decide ((x12.toNat : Int) < 32)) with hg15 | hg16
                      · have h := ite_t hg15 h
                        have hg15n := hg15
                        try simp at hg15n
                        have g0 := hA.get (k := 0) rfl
                        refine satO_step 12 [] ⟨an 1 (.ptr (lv + 1) i2 0 :: an 1 (.int .i64 x10 :: an 25 (.int .i64 x10 :: .ptr (lv + 1) i2 2 :: .str a0.name :: .int .i64 (a0.name.length : Int) :: .bool (decide (x10 < (a0.name.length : Int))) :: an 2 (.ptr (lv + 1) i2 2 :: .str a0.name :: .int .i64 x10 :: .int .u8 (x12.toNat : Int) :: .bool (decide ((x12.toNat : Int) < 32)) :: .bool (decide ((x12.toNat : Int) < 32)) :: .tup [] :: .tup [] :: .tup [] :: .tup [] :: .tup [] :: .bool true :: an 4 [])))), ⟨lv + 1, L, E⟩, [], E⟩ [] (by first | (simp -implicitDefEqProofs [GOver.cs, g0, q13, q14, hg15]; done) | simp -implicitDefEqProofs [GOver.cs, g0, q13, q14, hg15, hg15n]) claims_nil ?_
                        refine satO_nil (by simp) ?_
                        refine ⟨⟨an 1 (.ptr (lv + 1) i2 0 :: an 1 (.int .i64 x10 :: an 43 (.bool true :: an 4 []))), ⟨lv + 1, L, E⟩, [], E⟩, weak_tmps ?_, n, by omega, true, L, hA, h, rfl⟩
                        (try simp only [an, List.map_cons, List.map_nil]); repeat (first | exact VLeL.nil | refine VLeL.cons (by first | exact VLe.refl _ | exact VLe.any _ | exact VLe.nil _ _ | exact VLe.full _ _ | (refine VLe.agg' ?_; repeat (first | exact VLeL.nil | refine VLeL.cons (by first | exact VLe.refl _ | exact VLe.any _ | exact VLe.nil _ _) ?_))) ?_)
                      · have h := ite_f hg16 h
                        have hg16n := hg16
                        try simp at hg16n
                        have g0 := hA.get (k := 0) rfl
                        refine satO_step 12 [] ⟨an 1 (.ptr (lv + 1) i2 0 :: an 1 (.int .i64 x10 :: an 25 (.int .i64 x10 :: .ptr (lv + 1) i2 2 :: .str a0.name :: .int .i64 (a0.name.length : Int) :: .bool (decide (x10 < (a0.name.length : Int))) :: an 2 (.ptr (lv + 1) i2 2 :: .str a0.name :: .int .i64 x10 :: .int .u8 (x12.toNat : Int) :: .bool (decide ((x12.toNat : Int) < 32)) :: .bool (decide ((x12.toNat : Int) < 32)) :: .ptr (lv + 1) i2 2 :: .str a0.name :: .int .i64 x10 :: .int .u8 (x12.toNat : Int) :: .bool (decide (126 < (x12.toNat : Int))) :: .bool (decide (126 < (x12.toNat : Int))) :: an 4 [])))), ⟨lv + 1, L, E⟩, [], E⟩ [] (by first | (simp -implicitDefEqProofs [GOver.cs, g0, q13, q14, hg16, q13, q14]; done) | simp -implicitDefEqProofs [GOver.cs, g0, q13, q14, hg16, q13, q14, hg16n]) claims_nil ?_
                        refine satO_nil (by simp) ?_
                        refine ⟨⟨an 1 (.ptr (lv + 1) i2 0 :: an 1 (.int .i64 x10 :: an 43 (.bool (decide (126 < (x12.toNat : Int))) :: an 4 []))), ⟨lv + 1, L, E⟩, [], E⟩, weak_tmps ?_, n, by omega, (decide (126 < (x12.toNat : Int))), L, hA, h, rfl⟩
                        (try simp only [an, List.map_cons, List.map_nil]); repeat (first | exact VLeL.nil | refine VLeL.cons (by first | exact VLe.refl _ | exact VLe.any _ | exact VLe.nil _ _ | exact VLe.full _ _ | (refine VLe.agg' ?_; repeat (first | exact VLeL.nil | refine VLeL.cons (by first | exact VLe.refl _ | exact VLe.any _ | exact VLe.nil _ _) ?_))) ?_)
                    · rintro σ0 σ hw ⟨k, hk, x11, L, hA, h, rfl⟩
                      rcases k with _ | n
                      · simp [go_ref30_formed_J2] at h
                      · rw [go_ref30_formed_J2] at h
                        refine sat_weak hw ?_
                        repeat refine sat_seq ?_
                        refine sat_cond rfl (fun hb => ?_) (fun hb => ?_)
                        · have h := ite_t hb h
                          repeat refine sat_seq ?_
                          refine satO_reg ?_
                          have g0 := hA.get (k := 0) rfl
                          refine satO_step 1 [] ⟨an 1 (.ptr (lv + 1) i2 0 :: .bool false :: .int .i64 x10 :: an 43 (.bool x11 :: an 4 [])), ⟨lv + 1, L, E⟩, [], E⟩ [] (by simp -implicitDefEqProofs [GOver.cs, g0]) claims_nil ?_
                          refine satO_nil (by simp) ?_
                          repeat refine sat_seq ?_
                          refine sat_ret ?_
                          have g0 := hA.get (k := 0) rfl
                          refine ends (v := .bool false) (by simp [resultsV, resL, resV, tupOf, Tryd.f23, pLoad, g0, GOver.cs]) rfl rfl ?_
                          injection h with h
                          subst h
                          exact (.keep _ (by simp [V.kin, V.kinL, GOver.cs]))
                        · have h := ite_f hb h
                          repeat refine sat_seq ?_
                          refine sat_skip ?_
                          repeat refine sat_seq ?_
                          refine satO_reg ?_
                          have g0 := hA.get (k := 0) rfl
                          refine satO_step 3 [] ⟨an 1 (.ptr (lv + 1) i2 0 :: an 1 (.int .i64 (IntKind.i64.wrap (x10 + 1)) :: an 30 (.int .i64 x10 :: .int .i64 (IntKind.i64.wrap (x10 + 1)) :: an 11 (.bool x11 :: an 4 [])))), ⟨lv + 1, L, E⟩, [], E⟩ [] (by simp -implicitDefEqProofs [GOver.cs, g0]) claims_nil ?_
                          refine satO_nil (by simp) ?_
                          refine ⟨n, ⟨an 1 (.ptr (lv + 1) i2 0 :: an 1 (.int .i64 (IntKind.i64.wrap (x10 + 1)) :: an 48 [])), ⟨lv + 1, L, E⟩, [], E⟩, weak_tmps ?_, ⟨(IntKind.i64.wrap (x10 + 1)), L, by omega, hA, h, rfl⟩, by omega⟩
                          (try simp only [an, List.map_cons, List.map_nil]); repeat (first | exact VLeL.nil | refine VLeL.cons (by first | exact VLe.refl _ | exact VLe.any _ | exact VLe.nil _ _ | exact VLe.full _ _ | (refine VLe.agg' ?_; repeat (first | exact VLeL.nil | refine VLeL.cons (by first | exact VLe.refl _ | exact VLe.any _ | exact VLe.nil _ _) ?_))) ?_)
                  · have h := ite_f hb h
                    repeat refine sat_seq ?_
                    refine sat_exit ?_
                    repeat refine sat_seq ?_
                    refine satO_reg ?_
                    have g0 := hA.get (k := 0) rfl
                    refine satO_step 5 [] ⟨an 1 (.ptr (lv + 1) i2 0 :: .bool (decide ((a0.name.length : Int) ≤ 60)) :: .int .i64 x10 :: an 25 (.int .i64 x10 :: .ptr (lv + 1) i2 2 :: .str a0.name :: .int .i64 (a0.name.length : Int) :: .bool (decide (x10 < (a0.name.length : Int))) :: an 14 (.ptr (lv + 1) i2 2 :: .str a0.name :: .int .i64 (a0.name.length : Int) :: .bool (decide ((a0.name.length : Int) ≤ 60)) :: []))), ⟨lv + 1, L, E⟩, [], E⟩ [] (by simp -implicitDefEqProofs [GOver.cs, g0]) claims_nil ?_
                    refine satO_nil (by simp) ?_
                    repeat refine sat_seq ?_
                    refine sat_ret ?_
                    have g0 := hA.get (k := 0) rfl
                    refine ends (v := .bool (decide ((a0.name.length : Int) ≤ 60))) (by simp [resultsV, resL, resV, tupOf, Tryd.f23, pLoad, g0, GOver.cs]) rfl rfl ?_
                    injection h with h
                    subst h
                    exact (.keep _ (by simp [V.kin, V.kinL, GOver.cs]))
            · have h := ite_f hb h
              repeat refine sat_seq ?_
              refine sat_skip ?_
              repeat refine sat_seq ?_
              refine satO_reg ?_
              have g0 := hA.get (k := 0) rfl
              refine satO_step 1 [] ⟨an 1 (.ptr (lv + 1) i2 0 :: .bool false :: an 10 (.bool x3 :: .ptr (lv + 1) i2 1 :: .int .u8 a0.kind :: .bool (a0.kind == 1) :: .bool (a0.kind == 1) :: an 4 (.bool (a0.kind == 2) :: .bool (a0.kind == 2) :: an 3 (.bool (a0.kind == 3) :: .bool (a0.kind == 3) :: an 23 [])))), ⟨lv + 1, L, E⟩, [], E⟩ [] (by simp -implicitDefEqProofs [GOver.cs, g0]) claims_nil ?_
              refine satO_nil (by simp) ?_
              repeat refine sat_seq ?_
              refine sat_ret ?_
              have g0 := hA.get (k := 0) rfl
              refine ends (v := .bool false) (by simp [resultsV, resL, resV, tupOf, Tryd.f23, pLoad, g0, GOver.cs]) rfl rfl ?_
              injection h with h
              subst h
              exact (.keep _ (by simp [V.kin, V.kinL, GOver.cs]))
end Go.Proofs

namespace Go.Proofs
open Go Go.Ab
set_option maxRecDepth 10000
set_option maxHeartbeats 1000000
set_option linter.unusedSimpArgs false
set_option linter.unusedVariables false
theorem go_ref30_Formed_ok (n : Nat) (a0 : List GOver) (r : Int) (h : go_ref30_Formed n a0 = some r) : PCall Tryd.prog 13 [.sl 3 (a0.map GOver.el) false] (.int .i64 r) := by
  rcases n with _ | n
  · simp [go_ref30_Formed] at h
  rw [go_ref30_Formed] at h
  refine pcall_of Tryd.func13 rfl Tryd.ntmps13 (fun _ _ => Tryd.call13 _ _) fun lv E => ?_
  simp only [List.length_cons, List.length_nil, Nat.reduceAdd, Nat.reduceSub, List.replicate, List.cons_append, List.nil_append]
  have hA := AccG.nil (lv + 1)
  generalize ([] : List (Option AObj)) = L at hA ⊢
  repeat refine sat_seq ?_
  refine satO_reg ?_
  refine satO_step 1 [] ⟨.sl 3 (a0.map GOver.el) false :: an 1 (.int .i64 0 :: an 16 []), ⟨lv + 1, L, E⟩, [], E⟩ [] (by simp -implicitDefEqProofs []) claims_nil ?_
  refine satO_nil (by simp) ?_
  repeat refine sat_seq ?_
  refine satO_reg ?_
  refine satO_step 3 [] ⟨.sl 3 (a0.map GOver.el) false :: an 1 (.int .i64 0 :: an 1 (.sl 3 (a0.map GOver.el) false :: .int .i64 (a0.length : Int) :: .bool (decide (60 < (a0.length : Int))) :: an 12 [])), ⟨lv + 1, L, E⟩, [], E⟩ [] (by simp -implicitDefEqProofs []) claims_nil ?_
  refine satO_nil (by simp) ?_
  repeat refine sat_seq ?_
  refine sat_cond rfl (fun hb => ?_) (fun hb => ?_)
  · have h := ite_t hb h
    repeat refine sat_seq ?_
    refine satO_reg ?_
    refine satO_step 1 [] ⟨.sl 3 (a0.map GOver.el) false :: an 1 (.int .i64 4 :: an 1 (.sl 3 (a0.map GOver.el) false :: .int .i64 (a0.length : Int) :: .bool (decide (60 < (a0.length : Int))) :: an 12 [])), ⟨lv + 1, L, E⟩, [], E⟩ [] (by simp -implicitDefEqProofs []) claims_nil ?_
    refine satO_nil (by simp) ?_
    repeat refine sat_seq ?_
    refine sat_ret ?_
    refine ends (v := .int .i64 4) (by simp [resultsV, resL, resV, tupOf, Tryd.f13, pLoad]) rfl rfl ?_
    injection h with h
    subst h
    exact (.keep _ (by simp [V.kin, V.kinL]))
  · have h := ite_f hb h
    repeat refine sat_seq ?_
    refine sat_skip ?_
    repeat refine sat_seq ?_
    refine satO_reg ?_
    refine satO_step 1 [] ⟨.sl 3 (a0.map GOver.el) false :: an 1 (.int .i64 0 :: .int .i64 0 :: .sl 3 (a0.map GOver.el) false :: .int .i64 (a0.length : Int) :: .bool (decide (60 < (a0.length : Int))) :: an 12 []), ⟨lv + 1, L, E⟩, [], E⟩ [] (by simp -implicitDefEqProofs []) claims_nil ?_
    refine satO_nil (by simp) ?_
    repeat refine sat_seq ?_
    refine sat_block ?_
    repeat refine sat_seq ?_
    refine sat_loop (fun k σ => ∃ (x1 : Int) (L : List (Option AObj)), k ≤ n ∧ AccG (lv + 1) L [] [] ∧ go_ref30_Formed_L1 k a0 x1 = some r ∧ σ = ⟨.sl 3 (a0.map GOver.el) false :: an 2 (.int .i64 x1 :: an 15 []), ⟨lv + 1, L, E⟩, [], E⟩) n ⟨.sl 3 (a0.map GOver.el) false :: an 2 (.int .i64 0 :: an 15 []), ⟨lv + 1, L, E⟩, [], E⟩ (weak_tmps ?_) ⟨0, L, Nat.le_refl _, hA, h, rfl⟩ ?_
    · (try simp only [an, List.map_cons, List.map_nil]); repeat (first | exact VLeL.nil | refine VLeL.cons (by first | exact VLe.refl _ | exact VLe.any _ | exact VLe.nil _ _ | exact VLe.full _ _ | (refine VLe.agg' ?_; repeat (first | exact VLeL.nil | refine VLeL.cons (by first | exact VLe.refl _ | exact VLe.any _ | exact VLe.nil _ _) ?_))) ?_)
    · rintro k σ ⟨x1, L, hk, hA, h, rfl⟩
      rcases k with _ | n
      · simp [go_ref30_Formed_L1] at h
      · rw [go_ref30_Formed_L1] at h
        repeat refine sat_seq ?_
        refine satO_reg ?_
        refine satO_step 4 [] ⟨.sl 3 (a0.map GOver.el) false :: an 2 (.int .i64 x1 :: an 3 (.int .i64 x1 :: .sl 3 (a0.map GOver.el) false :: .int .i64 (a0.length : Int) :: .bool (decide (x1 < (a0.length : Int))) :: an 8 [])), ⟨lv + 1, L, E⟩, [], E⟩ [] (by simp -implicitDefEqProofs []) claims_nil ?_
        refine satO_nil (by simp) ?_
        repeat refine sat_seq ?_
        refine sat_cond rfl (fun hb => ?_) (fun hb => ?_)
        · have h := ite_t hb h
          repeat refine sat_seq ?_
          refine sat_skip ?_
          repeat refine sat_seq ?_
          refine sat_block ?_
          repeat refine sat_seq ?_
          refine satO_reg ?_
          obtain ⟨x2, q3, h⟩ := bnd_hi h
          obtain ⟨q3, q4⟩ := ix_some q3
          obtain ⟨y5, q6, h⟩ := bnd_hi h
          refine satO_step 6 [(.bool y5, none)] ⟨.sl 3 (a0.map GOver.el) false :: an 2 (.int .i64 x1 :: an 3 (.int .i64 x1 :: .sl 3 (a0.map GOver.el) false :: .int .i64 (a0.length : Int) :: .bool (decide (x1 < (a0.length : Int))) :: an 2 (.sl 3 (a0.map GOver.el) false :: .int .i64 x1 :: .ref x2.cs 0 :: .agg x2.cs :: .bool y5 :: .bool (!y5) :: []))), ⟨lv + 1, L, E⟩, [], E⟩ [⟨23, [.agg x2.cs], ⟨lv + 1, L, E⟩, .bool y5, ⟨lv + 1, L, E⟩⟩] (by simp -implicitDefEqProofs [GOver.cs, q3, q4, GOver.el_cs]) (claims_cons (go_ref30_formed_ok _ _ _ q6 _) claims_nil) ?_
          refine satO_nil (by simp) ?_
          repeat refine sat_seq ?_
          refine sat_cond rfl (fun hb => ?_) (fun hb => ?_)
          · have h := ite_t hb h
            repeat refine sat_seq ?_
            refine satO_reg ?_
            refine satO_step 1 [] ⟨.sl 3 (a0.map GOver.el) false :: an 1 (.int .i64 8 :: .int .i64 x1 :: an 3 (.int .i64 x1 :: .sl 3 (a0.map GOver.el) false :: .int .i64 (a0.length : Int) :: .bool (decide (x1 < (a0.length : Int))) :: an 2 (.sl 3 (a0.map GOver.el) false :: .int .i64 x1 :: .ref x2.cs 0 :: .agg x2.cs :: .bool y5 :: .bool (!y5) :: []))), ⟨lv + 1, L, E⟩, [], E⟩ [] (by simp -implicitDefEqProofs [GOver.cs]) claims_nil ?_
            refine satO_nil (by simp) ?_
            repeat refine sat_seq ?_
            refine sat_ret ?_
            refine ends (v := .int .i64 8) (by simp [resultsV, resL, resV, tupOf, Tryd.f13, pLoad, GOver.cs]) rfl rfl ?_
            injection h with h
            subst h
            exact (.keep _ (by simp [V.kin, V.kinL, GOver.cs]))
          · have h := ite_f hb h
            repeat refine sat_seq ?_
            refine sat_skip ?_
            repeat refine sat_seq ?_
            refine satO_reg ?_
            refine satO_step 3 [] ⟨.sl 3 (a0.map GOver.el) false :: an 2 (.int .i64 (IntKind.i64.wrap (x1 + 1)) :: an 3 (.int .i64 x1 :: .sl 3 (a0.map GOver.el) false :: .int .i64 (a0.length : Int) :: .bool (decide (x1 < (a0.length : Int))) :: .int .i64 x1 :: .int .i64 (IntKind.i64.wrap (x1 + 1)) :: .sl 3 (a0.map GOver.el) false :: .int .i64 x1 :: .ref x2.cs 0 :: .agg x2.cs :: .bool y5 :: .bool (!y5) :: [])), ⟨lv + 1, L, E⟩, [], E⟩ [] (by simp -implicitDefEqProofs [GOver.cs]) claims_nil ?_
            refine satO_nil (by simp) ?_
            refine ⟨n, ⟨.sl 3 (a0.map GOver.el) false :: an 2 (.int .i64 (IntKind.i64.wrap (x1 + 1)) :: an 15 []), ⟨lv + 1, L, E⟩, [], E⟩, weak_tmps ?_, ⟨(IntKind.i64.wrap (x1 + 1)), L, by omega, hA, h, rfl⟩, by omega⟩
            (try simp only [an, List.map_cons, List.map_nil]); repeat (first | exact VLeL.nil | refine VLeL.cons (by first | exact VLe.refl _ | exact VLe.any _ | exact VLe.nil _ _ | exact VLe.full _ _ | (refine VLe.agg' ?_; repeat (first | exact VLeL.nil | refine VLeL.cons (by first | exact VLe.refl _ | exact VLe.any _ | exact VLe.nil _ _) ?_))) ?_)
        · have h := ite_f hb h
          repeat refine sat_seq ?_
          refine sat_exit ?_
          repeat refine sat_seq ?_
          refine satO_reg ?_
          refine satO_step 1 [] ⟨.sl 3 (a0.map GOver.el) false :: an 1 (.int .i64 0 :: .int .i64 x1 :: an 3 (.int .i64 x1 :: .sl 3 (a0.map GOver.el) false :: .int .i64 (a0.length : Int) :: .bool (decide (x1 < (a0.length : Int))) :: an 8 [])), ⟨lv + 1, L, E⟩, [], E⟩ [] (by simp -implicitDefEqProofs [GOver.cs]) claims_nil ?_
          refine satO_nil (by simp) ?_
          repeat refine sat_seq ?_
          refine sat_ret ?_
          refine ends (v := .int .i64 0) (by simp [resultsV, resL, resV, tupOf, Tryd.f13, pLoad, GOver.cs]) rfl rfl ?_
          injection h with h
          subst h
          exact (.keep _ (by simp [V.kin, V.kinL, GOver.cs]))
end Go.Proofs

namespace Go.Proofs
open Go Go.Ab
set_option maxRecDepth 10000
set_option maxHeartbeats 1000000
set_option linter.unusedSimpArgs false
set_option linter.unusedVariables false
theorem go_ref02_Path_ok (n : Nat) (a0 : List (List UInt8)) (r : (List UInt8)) (h : go_ref02_Path n a0 = some r) : PCall Tryd.prog 28 [.sl 1 (a0.map V.str) false] (.str r) := by
  rcases n with _ | n
  · simp [go_ref02_Path] at h
  rw [go_ref02_Path] at h
  refine pcall_of Tryd.func28 rfl Tryd.ntmps28 (fun _ _ => Tryd.call28 _ _) fun lv E => ?_
  simp only [List.length_cons, List.length_nil, Nat.reduceAdd, Nat.reduceSub, List.replicate, List.cons_append, List.nil_append]
  have hA := AccG.nil (lv + 1)
  generalize ([] : List (Option AObj)) = L at hA ⊢
  repeat refine sat_seq ?_
  refine satO_reg ?_
  refine satO_step 1 [] ⟨.sl 1 (a0.map V.str) false :: an 1 (.str ([]) :: an 19 []), ⟨lv + 1, L, E⟩, [], E⟩ [] (by simp -implicitDefEqProofs []) claims_nil ?_
  refine satO_nil (by simp) ?_
  repeat refine sat_seq ?_
  refine satO_reg ?_
  refine satO_step 1 [] ⟨.sl 1 (a0.map V.str) false :: an 1 (.str ([]) :: .str ([]) :: an 18 []), ⟨lv + 1, L, E⟩, [], E⟩ [] (by simp -implicitDefEqProofs []) claims_nil ?_
  refine satO_nil (by simp) ?_
  repeat refine sat_seq ?_
  refine satO_reg ?_
  refine satO_step 1 [] ⟨.sl 1 (a0.map V.str) false :: an 1 (.str ([]) :: .str ([]) :: .int .i64 0 :: an 17 []), ⟨lv + 1, L, E⟩, [], E⟩ [] (by simp -implicitDefEqProofs []) claims_nil ?_
  refine satO_nil (by simp) ?_
  repeat refine sat_seq ?_
  refine sat_block ?_
  repeat refine sat_seq ?_
  refine sat_loop (fun k σ => ∃ (x1 : List UInt8) (x2 : Int) (L : List (Option AObj)), k ≤ n ∧ AccG (lv + 1) L [] [] ∧ go_ref02_Path_L1 k a0 x1 x2 = some r ∧ σ = ⟨.sl 1 (a0.map V.str) false :: an 2 (.str x1 :: .int .i64 x2 :: an 17 []), ⟨lv + 1, L, E⟩, [], E⟩) n ⟨.sl 1 (a0.map V.str) false :: an 2 (.str ([]) :: .int .i64 0 :: an 17 []), ⟨lv + 1, L, E⟩, [], E⟩ (weak_tmps ?_) ⟨([]), 0, L, Nat.le_refl _, hA, h, rfl⟩ ?_
  · (try simp only [an, List.map_cons, List.map_nil]); repeat (first | exact VLeL.nil | refine VLeL.cons (by first | exact VLe.refl _ | exact VLe.any _ | exact VLe.nil _ _ | exact VLe.full _ _ | (refine VLe.agg' ?_; repeat (first | exact VLeL.nil | refine VLeL.cons (by first | exact VLe.refl _ | exact VLe.any _ | exact VLe.nil _ _) ?_))) ?_)
  · rintro k σ ⟨x1, x2, L, hk, hA, h, rfl⟩
    rcases k with _ | n
    · simp [go_ref02_Path_L1] at h
    · rw [go_ref02_Path_L1] at h
      repeat refine sat_seq ?_
      refine satO_reg ?_
      refine satO_step 4 [] ⟨.sl 1 (a0.map V.str) false :: an 2 (.str x1 :: .int .i64 x2 :: .int .i64 x2 :: .sl 1 (a0.map V.str) false :: .int .i64 (a0.length : Int) :: .bool (decide (x2 < (a0.length : Int))) :: an 13 []), ⟨lv + 1, L, E⟩, [], E⟩ [] (by simp -implicitDefEqProofs []) claims_nil ?_
      refine satO_nil (by simp) ?_
      repeat refine sat_seq ?_
      refine sat_cond rfl (fun hb => ?_) (fun hb => ?_)
      · have h := ite_t hb h
        repeat refine sat_seq ?_
        refine sat_skip ?_
        repeat refine sat_seq ?_
        refine sat_block ?_
        repeat refine sat_seq ?_
        refine satO_reg ?_
        refine satO_step 2 [] ⟨.sl 1 (a0.map V.str) false :: an 2 (.str x1 :: .int .i64 x2 :: .int .i64 x2 :: .sl 1 (a0.map V.str) false :: .int .i64 (a0.length : Int) :: .bool (decide (x2 < (a0.length : Int))) :: an 2 (.int .i64 x2 :: .bool (decide (0 < x2)) :: an 9 [])), ⟨lv + 1, L, E⟩, [], E⟩ [] (by simp -implicitDefEqProofs []) claims_nil ?_
        refine satO_nil (by simp) ?_
        repeat refine sat_seq ?_
        refine sat_meet (fun σ => ∃ (k : Nat), k ≤ n ∧ ∃ (x3 : List UInt8) (L : List (Option AObj)), AccG (lv + 1) L [] [] ∧ go_ref02_Path_J1 k a0 x2 x3 = some r ∧ σ = ⟨.sl 1 (a0.map V.str) false :: an 2 (.str x3 :: .int .i64 x2 :: an 17 []), ⟨lv + 1, L, E⟩, [], E⟩) ?_ ?_
        · refine sat_cond rfl (fun hb => ?_) (fun hb => ?_)
          · have h := ite_t hb h
            repeat refine sat_seq ?_
            refine satO_reg ?_
            obtain ⟨x4, q5, h⟩ := bnd_hi h
            obtain ⟨q5, q6⟩ := cat_some q5
            simp only [List.length_cons, List.length_nil, Nat.zero_add, Nat.reduceAdd] at q5
            refine satO_step 3 [] ⟨.sl 1 (a0.map V.str) false :: an 2 (.str x4 :: .int .i64 x2 :: .int .i64 x2 :: .sl 1 (a0.map V.str) false :: .int .i64 (a0.length : Int) :: .bool (decide (x2 < (a0.length : Int))) :: an 2 (.int .i64 x2 :: .bool (decide (0 < x2)) :: .str x1 :: .str x4 :: an 7 [])), ⟨lv + 1, L, E⟩, [], E⟩ [] (by simp -implicitDefEqProofs [q5, q6]) claims_nil ?_
            refine satO_nil (by simp) ?_
            refine ⟨⟨.sl 1 (a0.map V.str) false :: an 2 (.str x4 :: .int .i64 x2 :: an 17 []), ⟨lv + 1, L, E⟩, [], E⟩, weak_tmps ?_, n, by omega, x4, L, hA, h, rfl⟩
            (try simp only [an, List.map_cons, List.map_nil]); repeat (first | exact VLeL.nil | refine VLeL.cons (by first | exact VLe.refl _ | exact VLe.any _ | exact VLe.nil _ _ | exact VLe.full _ _ | (refine VLe.agg' ?_; repeat (first | exact VLeL.nil | refine VLeL.cons (by first | exact VLe.refl _ | exact VLe.any _ | exact VLe.nil _ _) ?_))) ?_)
          · have h := ite_f hb h
            repeat refine sat_seq ?_
            refine sat_skip ?_
            refine ⟨⟨.sl 1 (a0.map V.str) false :: an 2 (.str x1 :: .int .i64 x2 :: an 17 []), ⟨lv + 1, L, E⟩, [], E⟩, weak_tmps ?_, n, by omega, x1, L, hA, h, rfl⟩
            (try simp only [an, List.map_cons, List.map_nil]); repeat (first | exact VLeL.nil | refine VLeL.cons (by first | exact VLe.refl _ | exact VLe.any _ | exact VLe.nil _ _ | exact VLe.full _ _ | (refine VLe.agg' ?_; repeat (first | exact VLeL.nil | refine VLeL.cons (by first | exact VLe.refl _ | exact VLe.any _ | exact VLe.nil _ _) ?_))) ?_)
        · rintro σ0 σ hw ⟨k, hk, x3, L, hA, h, rfl⟩
          rcases k with _ | n
          · simp [go_ref02_Path_J1] at h
          · rw [go_ref02_Path_J1] at h
            refine sat_weak hw ?_
            repeat refine sat_seq ?_
            refine satO_reg ?_
            obtain ⟨x7, q8, h⟩ := bnd_hi h
            obtain ⟨q8, q9⟩ := ix_some q8
            obtain ⟨x10, q11, h⟩ := bnd_hi h
            obtain ⟨q11, q12⟩ := cat_some q11
            refine satO_step 7 [] ⟨.sl 1 (a0.map V.str) false :: an 2 (.str x10 :: .int .i64 x2 :: an 10 (.str x3 :: .sl 1 (a0.map V.str) false :: .int .i64 x2 :: .ref [.str x7] 0 :: .str x7 :: .str x10 :: an 1 [])), ⟨lv + 1, L, E⟩, [], E⟩ [] (by simp -implicitDefEqProofs [q8, q9, q11, q12]) claims_nil ?_
            refine satO_nil (by simp) ?_
            repeat refine sat_seq ?_
            refine satO_reg ?_
            refine satO_step 3 [] ⟨.sl 1 (a0.map V.str) false :: an 2 (.str x10 :: .int .i64 (IntKind.i64.wrap (x2 + 1)) :: an 4 (.int .i64 x2 :: .int .i64 (IntKind.i64.wrap (x2 + 1)) :: an 4 (.str x3 :: .sl 1 (a0.map V.str) false :: .int .i64 x2 :: .ref [.str x7] 0 :: .str x7 :: .str x10 :: an 1 []))), ⟨lv + 1, L, E⟩, [], E⟩ [] (by simp -implicitDefEqProofs []) claims_nil ?_
            refine satO_nil (by simp) ?_
            refine ⟨n, ⟨.sl 1 (a0.map V.str) false :: an 2 (.str x10 :: .int .i64 (IntKind.i64.wrap (x2 + 1)) :: an 17 []), ⟨lv + 1, L, E⟩, [], E⟩, weak_tmps ?_, ⟨x10, (IntKind.i64.wrap (x2 + 1)), L, by omega, hA, h, rfl⟩, by omega⟩
            (try simp only [an, List.map_cons, List.map_nil]); repeat (first | exact VLeL.nil | refine VLeL.cons (by first | exact VLe.refl _ | exact VLe.any _ | exact VLe.nil _ _ | exact VLe.full _ _ | (refine VLe.agg' ?_; repeat (first | exact VLeL.nil | refine VLeL.cons (by first | exact VLe.refl _ | exact VLe.any _ | exact VLe.nil _ _) ?_))) ?_)
      · have h := ite_f hb h
        repeat refine sat_seq ?_
        refine sat_exit ?_
        repeat refine sat_seq ?_
        refine satO_reg ?_
        refine satO_step 2 [] ⟨.sl 1 (a0.map V.str) false :: an 1 (.str x1 :: .str x1 :: .int .i64 x2 :: .int .i64 x2 :: .sl 1 (a0.map V.str) false :: .int .i64 (a0.length : Int) :: .bool (decide (x2 < (a0.length : Int))) :: an 12 (.str x1 :: [])), ⟨lv + 1, L, E⟩, [], E⟩ [] (by simp -implicitDefEqProofs []) claims_nil ?_
        refine satO_nil (by simp) ?_
        repeat refine sat_seq ?_
        refine sat_ret ?_
        refine ends (v := .str x1) (by simp [resultsV, resL, resV, tupOf, Tryd.f28, pLoad]) rfl rfl ?_
        injection h with h
        subst h
        exact (.keep _ (by simp [V.kin, V.kinL]))
end Go.Proofs

namespace Go.Proofs
open Go Go.Ab
set_option maxRecDepth 10000
set_option maxHeartbeats 1000000
set_option linter.unusedSimpArgs false
set_option linter.unusedVariables false
theorem go_ref31_RenamedPath_ok (n : Nat) (a0 : List UInt8) (a1 : List UInt8) (a2 : List UInt8) (r : (List UInt8)) (h : go_ref31_RenamedPath n a0 a1 a2 = some r) : PCall Tryd.prog 15 [.str a0, .str a1, .str a2] (.str r) := by
  rcases n with _ | n
  · simp [go_ref31_RenamedPath] at h
  rw [go_ref31_RenamedPath] at h
  refine pcall_of Tryd.func15 rfl Tryd.ntmps15 (fun _ _ => Tryd.call15 _ _) fun lv E => ?_
  simp only [List.length_cons, List.length_nil, Nat.reduceAdd, Nat.reduceSub, List.replicate, List.cons_append, List.nil_append]
  have hA := AccG.nil (lv + 1)
  generalize ([] : List (Option AObj)) = L at hA ⊢
  repeat refine sat_seq ?_
  refine satO_reg ?_
  refine satO_step 1 [] ⟨.str a0 :: .str a1 :: .str a2 :: an 3 (.str ([]) :: an 41 []), ⟨lv + 1, L, E⟩, [], E⟩ [] (by simp -implicitDefEqProofs []) claims_nil ?_
  refine satO_nil (by simp) ?_
  repeat refine sat_seq ?_
  refine satO_reg ?_
  obtain ⟨y1, q2, h⟩ := bnd_hi h
  refine satO_step 3 [(.sl 1 (y1.map V.str) false, none)] ⟨.str a0 :: .str a1 :: .str a2 :: an 3 (.str ([]) :: an 5 (.sl 1 [] true :: .str a0 :: .sl 1 (y1.map V.str) false :: an 33 [])), ⟨lv + 1, L, E⟩, [], E⟩ [⟨26, [.str a0], ⟨lv + 1, L, E⟩, .sl 1 (y1.map V.str) false, ⟨lv + 1, L, E⟩⟩] (by simp -implicitDefEqProofs []) (claims_cons (go_ref02_Cut_ok _ _ _ q2 _) claims_nil) ?_
  have hA := hA.consS 9 1 [] true (fun _ => rfl)
  obtain ⟨l4, q5, h⟩ := bnd_hi h
  obtain ⟨q5, q6⟩ := ext_some q5
  obtain ⟨v7, L, q8, hA⟩ := hA.push (j := 0) rfl (y1.map V.str) (by simpa using q5) E
  refine satO_step 1 [] ⟨.str a0 :: .str a1 :: .str a2 :: an 3 (.str ([]) :: an 5 (.sl 1 [] true :: .str a0 :: .sl 1 (y1.map V.str) false :: v7 :: an 32 [])), ⟨lv + 1, L, E⟩, [], E⟩ [] (by simp -implicitDefEqProofs [q8]) claims_nil ?_
  have hA : AccG (lv + 1) L [⟨9, 1, v7, l4.map V.str, true⟩] [] := by rw [q6]; simpa using hA
  obtain ⟨w0a, w0b, w0c⟩ := hA.whole (j := 0) rfl
  refine satO_step 1 [] ⟨.str a0 :: .str a1 :: .str a2 :: an 3 (.str ([]) :: v7 :: an 4 (.sl 1 [] true :: .str a0 :: .sl 1 (y1.map V.str) false :: v7 :: an 32 [])), ⟨lv + 1, L, E⟩, [], E⟩ [] (by simp -implicitDefEqProofs [w0a, w0b, w0c]) claims_nil ?_
  refine satO_nil (by simp) ?_
  repeat refine sat_seq ?_
  refine satO_reg ?_
  obtain ⟨w0a, w0b, w0c⟩ := hA.whole (j := 0) rfl
  refine satO_step 1 [] ⟨.str a0 :: .str a1 :: .str a2 :: an 3 (.str ([]) :: v7 :: .int .i64 0 :: an 3 (.sl 1 [] true :: .str a0 :: .sl 1 (y1.map V.str) false :: v7 :: an 32 [])), ⟨lv + 1, L, E⟩, [], E⟩ [] (by simp -implicitDefEqProofs [w0a, w0b, w0c]) claims_nil ?_
  refine satO_nil (by simp) ?_
  repeat refine sat_seq ?_
  refine sat_block ?_
  repeat refine sat_seq ?_
  refine sat_loop (fun k σ => ∃ (x11 : Int) (v9 : V) (l10 : List (List UInt8)) (L : List (Option AObj)), k ≤ n ∧ AccG (lv + 1) L [⟨9, 1, v9, l10.map V.str, true⟩] [] ∧ go_ref31_RenamedPath_L1 k a1 a2 l10 x11 = some r ∧ σ = ⟨an 1 (.str a1 :: .str a2 :: an 4 (v9 :: .int .i64 x11 :: an 39 [])), ⟨lv + 1, L, E⟩, [], E⟩) n ⟨an 1 (.str a1 :: .str a2 :: an 4 (v7 :: .int .i64 0 :: an 39 [])), ⟨lv + 1, L, E⟩, [], E⟩ (weak_tmps ?_) ⟨0, v7, l4, L, Nat.le_refl _, hA, h, rfl⟩ ?_
  · (try simp only [an, List.map_cons, List.map_nil]); repeat (first | exact VLeL.nil | refine VLeL.cons (by first | exact VLe.refl _ | exact VLe.any _ | exact VLe.nil _ _ | exact VLe.full _ _ | (refine VLe.agg' ?_; repeat (first | exact VLeL.nil | refine VLeL.cons (by first | exact VLe.refl _ | exact VLe.any _ | exact VLe.nil _ _) ?_))) ?_)
  · rintro k σ ⟨x11, v9, l10, L, hk, hA, h, rfl⟩
    rcases k with _ | n
    · simp [go_ref31_RenamedPath_L1] at h
    · rw [go_ref31_RenamedPath_L1] at h
      repeat refine sat_seq ?_
      refine satO_reg ?_
      have g12 := hA.len (P := Tryd.prog) (j := 0) rfl Tryd.underlying37 E
      simp only [List.length_map] at g12
      obtain ⟨w0a, w0b, w0c⟩ := hA.whole (j := 0) rfl
      refine satO_step 4 [] ⟨an 1 (.str a1 :: .str a2 :: an 4 (v9 :: .int .i64 x11 :: an 7 (.int .i64 x11 :: v9 :: .int .i64 (l10.length : Int) :: .bool (decide (x11 < (l10.length : Int))) :: an 28 []))), ⟨lv + 1, L, E⟩, [], E⟩ [] (by simp -implicitDefEqProofs [w0a, w0b, w0c, g12]) claims_nil ?_
      refine satO_nil (by simp) ?_
      repeat refine sat_seq ?_
      refine sat_cond rfl (fun hb => ?_) (fun hb => ?_)
      · have h := ite_t hb h
        repeat refine sat_seq ?_
        refine sat_skip ?_
        repeat refine sat_seq ?_
        refine sat_block ?_
        repeat refine sat_seq ?_
        refine satO_reg ?_
        obtain ⟨x13, q14, h⟩ := bnd_hi h
        obtain ⟨q14, q15⟩ := ix_some q14
        obtain ⟨p16, q17, q18, q19, q20⟩ := hA.put (P := Tryd.prog) (j := 0) rfl Tryd.underlying37 (by simp) (by simp) q14 (x := V.str x13) (by rw [List.getElem?_map, q15]; rfl) E
        obtain ⟨y21, q22, h⟩ := bnd_hi h
        obtain ⟨w0a, w0b, w0c⟩ := hA.whole (j := 0) rfl
        refine satO_step 12 [(.tup [.str y21.1, .int .i64 y21.2.1, .bool y21.2.2], none)] ⟨an 1 (.str a1 :: .str a2 :: an 4 (v9 :: .int .i64 x11 :: .str y21.1 :: .int .i64 y21.2.1 :: .bool y21.2.2 :: an 4 (.int .i64 x11 :: v9 :: .int .i64 (l10.length : Int) :: .bool (decide (x11 < (l10.length : Int))) :: an 2 (.tup [.str y21.1, .int .i64 y21.2.1, .bool y21.2.2] :: v9 :: .int .i64 x11 :: p16 0 :: .str x13 :: .tup [.str y21.1, .int .i64 y21.2.1, .bool y21.2.2] :: .str y21.1 :: .int .i64 y21.2.1 :: .bool y21.2.2 :: an 17 [])))), ⟨lv + 1, L, E⟩, [], E⟩ [⟨27, [.str x13], ⟨lv + 1, L, E⟩, .tup [.str y21.1, .int .i64 y21.2.1, .bool y21.2.2], ⟨lv + 1, L, E⟩⟩] (by simp -implicitDefEqProofs [w0a, w0b, w0c, q17, q18, q19]) (claims_cons (go_ref02_Step_ok _ _ _ q22 _) claims_nil) ?_
        refine satO_nil (by simp) ?_
        repeat refine sat_seq ?_
        refine satO_reg ?_
        obtain ⟨w0a, w0b, w0c⟩ := hA.whole (j := 0) rfl
        refine satO_step 3 [] ⟨an 1 (.str a1 :: .str a2 :: an 4 (v9 :: .int .i64 x11 :: .str y21.1 :: .int .i64 y21.2.1 :: .bool y21.2.2 :: an 4 (.int .i64 x11 :: v9 :: .int .i64 (l10.length : Int) :: .bool (decide (x11 < (l10.length : Int))) :: an 2 (.tup [.str y21.1, .int .i64 y21.2.1, .bool y21.2.2] :: v9 :: .int .i64 x11 :: p16 0 :: .str x13 :: .tup [.str y21.1, .int .i64 y21.2.1, .bool y21.2.2] :: .str y21.1 :: .int .i64 y21.2.1 :: .bool y21.2.2 :: .str y21.1 :: .str a1 :: .bool (y21.1 == a1) :: an 14 [])))), ⟨lv + 1, L, E⟩, [], E⟩ [] (by simp -implicitDefEqProofs [w0a, w0b, w0c]) claims_nil ?_
        refine satO_nil (by simp) ?_
        repeat refine sat_seq ?_
        refine sat_meet (fun σ => ∃ (k : Nat), k ≤ n ∧ ∃ (v23 : V) (l24 : List (List UInt8)) (L : List (Option AObj)), AccG (lv + 1) L [⟨9, 1, v23, l24.map V.str, true⟩] [] ∧ go_ref31_RenamedPath_J1 k a1 a2 x11 l24 = some r ∧ σ = ⟨an 1 (.str a1 :: .str a2 :: an 4 (v23 :: .int .i64 x11 :: an 39 [])), ⟨lv + 1, L, E⟩, [], E⟩) ?_ ?_
        · refine sat_cond rfl (fun hb => ?_) (fun hb => ?_)
          · have h := ite_t hb h
            repeat refine sat_seq ?_
            refine satO_reg ?_
            obtain ⟨x25, q26, h⟩ := bnd_hi h
            obtain ⟨q26, q27⟩ := ix_some q26
            obtain ⟨p28, q29, q30, q31, q32⟩ := hA.put (P := Tryd.prog) (j := 0) rfl Tryd.underlying37 (by simp) (by simp) q26 (x := V.str x25) (by rw [List.getElem?_map, q27]; rfl) E
            obtain ⟨x33, q34, h⟩ := bnd_hi h
            obtain ⟨q34, q35, q36, q37, q38, q39⟩ := sub_some q34
            have q40 := q35
            try simp only [Int.ofNat_le] at q40
            obtain ⟨x41, q42, h⟩ := bnd_hi h
            obtain ⟨q42, q43⟩ := cat_some q42
            have q44 := q42
            try simp [q37] at q44
            obtain ⟨w0a, w0b, w0c⟩ := hA.whole (j := 0) rfl
            refine satO_step 12 [] ⟨an 1 (.str a1 :: .str a2 :: an 4 (v9 :: .int .i64 x11 :: .str y21.1 :: .int .i64 y21.2.1 :: .bool y21.2.2 :: an 4 (.int .i64 x11 :: v9 :: .int .i64 (l10.length : Int) :: .bool (decide (x11 < (l10.length : Int))) :: an 2 (.tup [.str y21.1, .int .i64 y21.2.1, .bool y21.2.2] :: v9 :: .int .i64 x11 :: p16 0 :: .str x13 :: .tup [.str y21.1, .int .i64 y21.2.1, .bool y21.2.2] :: .str y21.1 :: .int .i64 y21.2.1 :: .bool y21.2.2 :: .str y21.1 :: .str a1 :: .bool (y21.1 == a1) :: v9 :: .int .i64 x11 :: .str a2 :: v9 :: .int .i64 x11 :: p28 0 :: .str x25 :: .str y21.1 :: .int .i64 (y21.1.length : Int) :: .str x33 :: .str x41 :: p28 0 :: an 2 [])))), ⟨lv + 1, L, E⟩, [], E⟩ [] (by simp -implicitDefEqProofs [w0a, w0b, w0c, q29, q30, q31, q34, q35, q36, q37, q38, q39, q40, List.map_take, List.map_drop, Int.max_eq_left, q42, q43, q44]) claims_nil ?_
            obtain ⟨w0a, w0b, w0c⟩ := hA.whole (j := 0) rfl
            obtain ⟨L, q45, hA⟩ := q32 9 0 (.str x41) (by simp) (by simp) (by simp) (by simp) (by simp)
            refine satO_step 1 [] ⟨an 1 (.str a1 :: .str a2 :: an 4 (v9 :: .int .i64 x11 :: .str y21.1 :: .int .i64 y21.2.1 :: .bool y21.2.2 :: an 4 (.int .i64 x11 :: v9 :: .int .i64 (l10.length : Int) :: .bool (decide (x11 < (l10.length : Int))) :: an 2 (.tup [.str y21.1, .int .i64 y21.2.1, .bool y21.2.2] :: v9 :: .int .i64 x11 :: p16 0 :: .str x13 :: .tup [.str y21.1, .int .i64 y21.2.1, .bool y21.2.2] :: .str y21.1 :: .int .i64 y21.2.1 :: .bool y21.2.2 :: .str y21.1 :: .str a1 :: .bool (y21.1 == a1) :: v9 :: .int .i64 x11 :: .str a2 :: v9 :: .int .i64 x11 :: p28 0 :: .str x25 :: .str y21.1 :: .int .i64 (y21.1.length : Int) :: .str x33 :: .str x41 :: p28 0 :: an 2 [])))), ⟨lv + 1, L, E⟩, [], E⟩ [] (by simp -implicitDefEqProofs [-hStore, q45, w0a, w0b, w0c]) claims_nil ?_
            have hA : AccG (lv + 1) L [⟨9, 1, v9, (l10.set (x11).toNat x41).map V.str, true⟩] [] := by simpa [List.map_set] using hA
            refine satO_nil (by simp) ?_
            refine ⟨⟨an 1 (.str a1 :: .str a2 :: an 4 (v9 :: .int .i64 x11 :: an 39 [])), ⟨lv + 1, L, E⟩, [], E⟩, weak_tmps ?_, n, by omega, v9, (l10.set (x11).toNat x41), L, hA, h, rfl⟩
            (try simp only [an, List.map_cons, List.map_nil]); repeat (first | exact VLeL.nil | refine VLeL.cons (by first | exact VLe.refl _ | exact VLe.any _ | exact VLe.nil _ _ | exact VLe.full _ _ | (refine VLe.agg' ?_; repeat (first | exact VLeL.nil | refine VLeL.cons (by first | exact VLe.refl _ | exact VLe.any _ | exact VLe.nil _ _) ?_))) ?_)
          · have h := ite_f hb h
            repeat refine sat_seq ?_
            refine sat_skip ?_
            refine ⟨⟨an 1 (.str a1 :: .str a2 :: an 4 (v9 :: .int .i64 x11 :: an 39 [])), ⟨lv + 1, L, E⟩, [], E⟩, weak_tmps ?_, n, by omega, v9, l10, L, hA, h, rfl⟩
            (try simp only [an, List.map_cons, List.map_nil]); repeat (first | exact VLeL.nil | refine VLeL.cons (by first | exact VLe.refl _ | exact VLe.any _ | exact VLe.nil _ _ | exact VLe.full _ _ | (refine VLe.agg' ?_; repeat (first | exact VLeL.nil | refine VLeL.cons (by first | exact VLe.refl _ | exact VLe.any _ | exact VLe.nil _ _) ?_))) ?_)
        · rintro σ0 σ hw ⟨k, hk, v23, l24, L, hA, h, rfl⟩
          rcases k with _ | n
          · simp [go_ref31_RenamedPath_J1] at h
          · rw [go_ref31_RenamedPath_J1] at h
            refine sat_weak hw ?_
            repeat refine sat_seq ?_
            refine satO_reg ?_
            obtain ⟨w0a, w0b, w0c⟩ := hA.whole (j := 0) rfl
            refine satO_step 3 [] ⟨an 1 (.str a1 :: .str a2 :: an 4 (v23 :: .int .i64 (IntKind.i64.wrap (x11 + 1)) :: an 11 (.int .i64 x11 :: .int .i64 (IntKind.i64.wrap (x11 + 1)) :: an 26 []))), ⟨lv + 1, L, E⟩, [], E⟩ [] (by simp -implicitDefEqProofs [w0a, w0b, w0c]) claims_nil ?_
            refine satO_nil (by simp) ?_
            refine ⟨n, ⟨an 1 (.str a1 :: .str a2 :: an 4 (v23 :: .int .i64 (IntKind.i64.wrap (x11 + 1)) :: an 39 [])), ⟨lv + 1, L, E⟩, [], E⟩, weak_tmps ?_, ⟨(IntKind.i64.wrap (x11 + 1)), v23, l24, L, by omega, hA, h, rfl⟩, by omega⟩
            (try simp only [an, List.map_cons, List.map_nil]); repeat (first | exact VLeL.nil | refine VLeL.cons (by first | exact VLe.refl _ | exact VLe.any _ | exact VLe.nil _ _ | exact VLe.full _ _ | (refine VLe.agg' ?_; repeat (first | exact VLeL.nil | refine VLeL.cons (by first | exact VLe.refl _ | exact VLe.any _ | exact VLe.nil _ _) ?_))) ?_)
      · have h := ite_f hb h
        repeat refine sat_seq ?_
        refine sat_exit ?_
        repeat refine sat_seq ?_
        obtain ⟨L, hA, hw0⟩ := hA.freeze (j := 0) rfl (t := an 1 (.str a1 :: .str a2 :: an 4 (v9 :: .int .i64 x11 :: an 7 (.int .i64 x11 :: v9 :: .int .i64 (l10.length : Int) :: .bool (decide (x11 < (l10.length : Int))) :: an 28 [])))) (t' := an 1 (.str a1 :: .str a2 :: an 4 (.sl 1 (l10.map V.str) false :: .int .i64 x11 :: an 7 (.int .i64 x11 :: .sl 1 (l10.map V.str) false :: .int .i64 (l10.length : Int) :: .bool (decide (x11 < (l10.length : Int))) :: an 28 [])))) (os' := []) (by (try simp only [an]); repeat (first | exact FVL.nil | refine FVL.cons (by first | exact FV.keep _ | exact FV.it | exact FV.any _ | (refine FV.agg' ?_; repeat (first | exact FVL.nil | refine FVL.cons (by first | exact FV.keep _ | exact FV.it | exact FV.any _) ?_))) ?_)) (.refl _) E E
        have hA : AccG (lv + 1) L [] [] := hA
        refine sat_weak hw0 ?_
        clear hw0
        repeat refine sat_seq ?_
        refine satO_reg ?_
        obtain ⟨y46, q47, h⟩ := bnd_hi h
        refine satO_step 3 [(.str y46, none)] ⟨an 1 (.str a1 :: .str a2 :: an 3 (.str y46 :: .sl 1 (l10.map V.str) false :: .int .i64 x11 :: an 7 (.int .i64 x11 :: .sl 1 (l10.map V.str) false :: .int .i64 (l10.length : Int) :: .bool (decide (x11 < (l10.length : Int))) :: an 26 (.sl 1 (l10.map V.str) false :: .str y46 :: [])))), ⟨lv + 1, L, E⟩, [], E⟩ [⟨28, [.sl 1 (l10.map V.str) false], ⟨lv + 1, L, E⟩, .str y46, ⟨lv + 1, L, E⟩⟩] (by simp -implicitDefEqProofs []) (claims_cons (go_ref02_Path_ok _ _ _ q47 _) claims_nil) ?_
        refine satO_nil (by simp) ?_
        repeat refine sat_seq ?_
        refine sat_ret ?_
        refine ends (v := .str y46) (by simp [resultsV, resL, resV, tupOf, Tryd.f15, pLoad]) rfl rfl ?_
        injection h with h
        subst h
        exact (.keep _ (by simp [V.kin, V.kinL]))
end Go.Proofs

namespace Go.Proofs
open Go Go.Ab
set_option maxRecDepth 10000
set_option maxHeartbeats 1000000
set_option linter.unusedSimpArgs false
set_option linter.unusedVariables false
theorem go_ref31_other_ok (n : Nat) (a0 : List UInt8) (a1 : List UInt8) (a2 : List UInt8) (r : (List UInt8)) (h : go_ref31_other n a0 a1 a2 = some r) : PCall Tryd.prog 16 [.str a0, .str a1, .str a2] (.str r) := by
  rw [go_ref31_other] at h
  refine pcall_of Tryd.func16 rfl Tryd.ntmps16 (fun _ _ => Tryd.call16 _ _) fun lv E => ?_
  simp only [List.length_cons, List.length_nil, Nat.reduceAdd, Nat.reduceSub, List.replicate, List.cons_append, List.nil_append]
  have hA := AccG.nil (lv + 1)
  generalize ([] : List (Option AObj)) = L at hA ⊢
  repeat refine sat_seq ?_
  refine satO_reg ?_
  refine satO_step 1 [] ⟨.str a0 :: .str a1 :: .str a2 :: an 3 (.str ([]) :: an 5 []), ⟨lv + 1, L, E⟩, [], E⟩ [] (by simp -implicitDefEqProofs []) claims_nil ?_
  refine satO_nil (by simp) ?_
  repeat refine sat_seq ?_
  refine satO_reg ?_
  refine satO_step 3 [] ⟨.str a0 :: .str a1 :: .str a2 :: an 3 (.str ([]) :: .str a0 :: .str a1 :: .bool (a0 == a1) :: an 2 []), ⟨lv + 1, L, E⟩, [], E⟩ [] (by simp -implicitDefEqProofs []) claims_nil ?_
  refine satO_nil (by simp) ?_
  repeat refine sat_seq ?_
  refine sat_cond rfl (fun hb => ?_) (fun hb => ?_)
  · have h := ite_t hb h
    repeat refine sat_seq ?_
    refine satO_reg ?_
    refine satO_step 2 [] ⟨.str a0 :: .str a1 :: .str a2 :: an 3 (.str a2 :: .str a0 :: .str a1 :: .bool (a0 == a1) :: .str a2 :: an 1 []), ⟨lv + 1, L, E⟩, [], E⟩ [] (by simp -implicitDefEqProofs []) claims_nil ?_
    refine satO_nil (by simp) ?_
    repeat refine sat_seq ?_
    refine sat_ret ?_
    refine ends (v := .str a2) (by simp [resultsV, resL, resV, tupOf, Tryd.f16, pLoad]) rfl rfl ?_
    injection h with h
    subst h
    exact (.keep _ (by simp [V.kin, V.kinL]))
  · have h := ite_f hb h
    repeat refine sat_seq ?_
    refine sat_skip ?_
    repeat refine sat_seq ?_
    refine satO_reg ?_
    refine satO_step 2 [] ⟨.str a0 :: .str a1 :: .str a2 :: an 3 (.str a0 :: .str a0 :: .str a1 :: .bool (a0 == a1) :: an 1 (.str a0 :: [])), ⟨lv + 1, L, E⟩, [], E⟩ [] (by simp -implicitDefEqProofs []) claims_nil ?_
    refine satO_nil (by simp) ?_
    repeat refine sat_seq ?_
    refine sat_ret ?_
    refine ends (v := .str a0) (by simp [resultsV, resL, resV, tupOf, Tryd.f16, pLoad]) rfl rfl ?_
    injection h with h
    subst h
    exact (.keep _ (by simp [V.kin, V.kinL]))
end Go.Proofs

namespace Go.Proofs
open Go Go.Ab
set_option maxRecDepth 10000
set_option maxHeartbeats 1000000
set_option linter.unusedSimpArgs false
set_option linter.unusedVariables false
theorem go_ref31_Follow_ok (n : Nat) (a0 : List GOver) (a1 : List UInt8) (a2 : List UInt8) (r : (List GOver) × Int) (h : go_ref31_Follow n a0 a1 a2 = some r) : PCall Tryd.prog 6 [.sl 3 (a0.map GOver.el) false, .str a1, .str a2] (.tup [.sl 3 (r.1.map GOver.el) false, .int .i64 r.2]) := by
  rcases n with _ | n
  · simp [go_ref31_Follow] at h
  rw [go_ref31_Follow] at h
  refine pcall_of Tryd.func6 rfl Tryd.ntmps6 (fun _ _ => Tryd.call6 _ _) fun lv E => ?_
  simp only [List.length_cons, List.length_nil, Nat.reduceAdd, Nat.reduceSub, List.replicate, List.cons_append, List.nil_append]
  have hA := AccG.nil (lv + 1)
  generalize ([] : List (Option AObj)) = L at hA ⊢
  repeat refine sat_seq ?_
  refine satO_reg ?_
  refine satO_step 2 [] ⟨.sl 3 (a0.map GOver.el) false :: .str a1 :: .str a2 :: an 3 (.nils :: .int .i64 0 :: an 46 []), ⟨lv + 1, L, E⟩, [], E⟩ [] (by simp -implicitDefEqProofs []) claims_nil ?_
  refine satO_nil (by simp) ?_
  repeat refine sat_seq ?_
  refine satO_reg ?_
  obtain ⟨y1, q2, h⟩ := bnd_hi h
  refine satO_step 3 [(.int .i64 y1, none)] ⟨.sl 3 (a0.map GOver.el) false :: .str a1 :: .str a2 :: an 3 (.nils :: .int .i64 0 :: an 3 (.sl 3 (a0.map GOver.el) false :: .int .i64 y1 :: .bool (!(y1 == 0)) :: an 40 [])), ⟨lv + 1, L, E⟩, [], E⟩ [⟨13, [.sl 3 (a0.map GOver.el) false], ⟨lv + 1, L, E⟩, .int .i64 y1, ⟨lv + 1, L, E⟩⟩] (by simp -implicitDefEqProofs []) (claims_cons (go_ref30_Formed_ok _ _ _ q2 _) claims_nil) ?_
  refine satO_nil (by simp) ?_
  repeat refine sat_seq ?_
  refine sat_cond rfl (fun hb => ?_) (fun hb => ?_)
  · have h := ite_t hb h
    repeat refine sat_seq ?_
    refine satO_reg ?_
    obtain ⟨y3, q4, h⟩ := bnd_hi h
    refine satO_step 4 [(.int .i64 y3, none)] ⟨.sl 3 (a0.map GOver.el) false :: .str a1 :: .str a2 :: an 3 (.nils :: .int .i64 y3 :: an 3 (.sl 3 (a0.map GOver.el) false :: .int .i64 y1 :: .bool (!(y1 == 0)) :: .sl 3 (a0.map GOver.el) false :: .int .i64 y3 :: an 38 [])), ⟨lv + 1, L, E⟩, [], E⟩ [⟨13, [.sl 3 (a0.map GOver.el) false], ⟨lv + 1, L, E⟩, .int .i64 y3, ⟨lv + 1, L, E⟩⟩] (by simp -implicitDefEqProofs []) (claims_cons (go_ref30_Formed_ok _ _ _ q4 _) claims_nil) ?_
    refine satO_nil (by simp) ?_
    repeat refine sat_seq ?_
    refine sat_ret ?_
    refine ends (v := .tup [.nils, .int .i64 y3]) (by simp [resultsV, resL, resV, tupOf, Tryd.f6, pLoad]) rfl rfl ?_
    injection h with h
    subst h
    exact VS.tup' (.cons (.nil _ _) (.cons (.keep _ (by simp [V.kin, V.kinL])) .nil))
  · have h := ite_f hb h
    repeat refine sat_seq ?_
    refine sat_skip ?_
    repeat refine sat_seq ?_
    refine sat_meet (fun σ => ∃ (k : Nat), k ≤ n ∧ ∃ (x5 : Bool) (L : List (Option AObj)), AccG (lv + 1) L [] [] ∧ go_ref31_Follow_J1 k a0 a1 a2 x5 = some r ∧ σ = ⟨.sl 3 (a0.map GOver.el) false :: .str a1 :: .str a2 :: an 20 (.bool x5 :: an 30 []), ⟨lv + 1, L, E⟩, [], E⟩) ?_ ?_
    · refine satO_reg ?_
      obtain ⟨y6, q7, h⟩ := bnd_hi h
      rcases Bool.eq_false_or_eq_true (!y6) with hg8 | hg9
      · have h := ite_t hg8 h
        have hg8n := hg8
        try simp at hg8n
        refine satO_step 8 [(.bool y6, none)] ⟨.sl 3 (a0.map GOver.el) false :: .str a1 :: .str a2 :: an 3 (.nils :: .int .i64 0 :: an 3 (.sl 3 (a0.map GOver.el) false :: .int .i64 y1 :: .bool (!(y1 == 0)) :: an 2 (.str a1 :: .bool y6 :: .bool (!y6) :: .bool (!y6) :: .tup [] :: .tup [] :: .tup [] :: .bool true :: an 30 []))), ⟨lv + 1, L, E⟩, [], E⟩ [⟨14, [.str a1], ⟨lv + 1, L, E⟩, .bool y6, ⟨lv + 1, L, E⟩⟩] (by first | (simp -implicitDefEqProofs [hg8]; done) | simp -implicitDefEqProofs [hg8, hg8n]) (claims_cons (go_ref02_Name_ok _ _ _ q7 _) claims_nil) ?_
        refine satO_nil (by simp) ?_
        refine ⟨⟨.sl 3 (a0.map GOver.el) false :: .str a1 :: .str a2 :: an 20 (.bool true :: an 30 []), ⟨lv + 1, L, E⟩, [], E⟩, weak_tmps ?_, n, by omega, true, L, hA, h, rfl⟩
        (try simp only [an, List.map_cons, List.map_nil]); repeat (first | exact VLeL.nil | refine VLeL.cons (by first | exact VLe.refl _ | exact VLe.any _ | exact VLe.nil _ _ | exact VLe.full _ _ | (refine VLe.agg' ?_; repeat (first | exact VLeL.nil | refine VLeL.cons (by first | exact VLe.refl _ | exact VLe.any _ | exact VLe.nil _ _) ?_))) ?_)
      · have h := ite_f hg9 h
        have hg9n := hg9
        try simp at hg9n
        obtain ⟨y10, q11, h⟩ := bnd_hi h
        refine satO_step 8 [(.bool y6, none), (.bool y10, none)] ⟨.sl 3 (a0.map GOver.el) false :: .str a1 :: .str a2 :: an 3 (.nils :: .int .i64 0 :: an 3 (.sl 3 (a0.map GOver.el) false :: .int .i64 y1 :: .bool (!(y1 == 0)) :: an 2 (.str a1 :: .bool y6 :: .bool (!y6) :: .bool (!y6) :: .str a2 :: .bool y10 :: .bool (!y10) :: .bool (!y10) :: an 30 []))), ⟨lv + 1, L, E⟩, [], E⟩ [⟨14, [.str a1], ⟨lv + 1, L, E⟩, .bool y6, ⟨lv + 1, L, E⟩⟩, ⟨14, [.str a2], ⟨lv + 1, L, E⟩, .bool y10, ⟨lv + 1, L, E⟩⟩] (by first | (simp -implicitDefEqProofs [hg9]; done) | simp -implicitDefEqProofs [hg9, hg9n]) (claims_cons (go_ref02_Name_ok _ _ _ q7 _) (claims_cons (go_ref02_Name_ok _ _ _ q11 _) claims_nil)) ?_
        refine satO_nil (by simp) ?_
        refine ⟨⟨.sl 3 (a0.map GOver.el) false :: .str a1 :: .str a2 :: an 20 (.bool (!y10) :: an 30 []), ⟨lv + 1, L, E⟩, [], E⟩, weak_tmps ?_, n, by omega, (!y10), L, hA, h, rfl⟩
        (try simp only [an, List.map_cons, List.map_nil]); repeat (first | exact VLeL.nil | refine VLeL.cons (by first | exact VLe.refl _ | exact VLe.any _ | exact VLe.nil _ _ | exact VLe.full _ _ | (refine VLe.agg' ?_; repeat (first | exact VLeL.nil | refine VLeL.cons (by first | exact VLe.refl _ | exact VLe.any _ | exact VLe.nil _ _) ?_))) ?_)
    · rintro σ0 σ hw ⟨k, hk, x5, L, hA, h, rfl⟩
      rcases k with _ | n
      · simp [go_ref31_Follow_J1] at h
      · rw [go_ref31_Follow_J1] at h
        refine sat_weak hw ?_
        repeat refine sat_seq ?_
        refine sat_cond rfl (fun hb => ?_) (fun hb => ?_)
        · have h := ite_t hb h
          repeat refine sat_seq ?_
          refine satO_reg ?_
          refine satO_step 2 [] ⟨.sl 3 (a0.map GOver.el) false :: .str a1 :: .str a2 :: an 3 (.nils :: .int .i64 12 :: an 15 (.bool x5 :: an 30 [])), ⟨lv + 1, L, E⟩, [], E⟩ [] (by simp -implicitDefEqProofs []) claims_nil ?_
          refine satO_nil (by simp) ?_
          repeat refine sat_seq ?_
          refine sat_ret ?_
          refine ends (v := .tup [.nils, .int .i64 12]) (by simp [resultsV, resL, resV, tupOf, Tryd.f6, pLoad]) rfl rfl ?_
          injection h with h
          subst h
          exact VS.tup' (.cons (.nil _ _) (.cons (.keep _ (by simp [V.kin, V.kinL])) .nil))
        · have h := ite_f hb h
          repeat refine sat_seq ?_
          refine sat_skip ?_
          repeat refine sat_seq ?_
          refine satO_reg ?_
          refine satO_step 1 [] ⟨.sl 3 (a0.map GOver.el) false :: .str a1 :: .str a2 :: an 5 (.nils :: an 14 (.bool x5 :: an 30 [])), ⟨lv + 1, L, E⟩, [], E⟩ [] (by simp -implicitDefEqProofs []) claims_nil ?_
          refine satO_nil (by simp) ?_
          repeat refine sat_seq ?_
          refine satO_reg ?_
          refine satO_step 1 [] ⟨.sl 3 (a0.map GOver.el) false :: .str a1 :: .str a2 :: an 5 (.nils :: .int .i64 0 :: an 13 (.bool x5 :: an 30 [])), ⟨lv + 1, L, E⟩, [], E⟩ [] (by simp -implicitDefEqProofs []) claims_nil ?_
          refine satO_nil (by simp) ?_
          repeat refine sat_seq ?_
          refine sat_block ?_
          repeat refine sat_seq ?_
          have hA := hA.cons 32 3 false
          refine sat_loop (fun k σ => ∃ (x15 : Int) (v13 : V) (l14 : List GOver) (L : List (Option AObj)), k ≤ n ∧ AccG (lv + 1) L [⟨32, 3, v13, l14.map GOver.el, false⟩] [] ∧ go_ref31_Follow_L1 k a0 a1 a2 l14 x15 = some r ∧ σ = ⟨.sl 3 (a0.map GOver.el) false :: .str a1 :: .str a2 :: an 5 (v13 :: .int .i64 x15 :: an 44 []), ⟨lv + 1, L, E⟩, [], E⟩) n ⟨.sl 3 (a0.map GOver.el) false :: .str a1 :: .str a2 :: an 5 (.nils :: .int .i64 0 :: an 44 []), ⟨lv + 1, L, E⟩, [], E⟩ (weak_tmps ?_) ⟨0, .nils, ([]), L, Nat.le_refl _, hA, h, rfl⟩ ?_
          · (try simp only [an, List.map_cons, List.map_nil]); repeat (first | exact VLeL.nil | refine VLeL.cons (by first | exact VLe.refl _ | exact VLe.any _ | exact VLe.nil _ _ | exact VLe.full _ _ | (refine VLe.agg' ?_; repeat (first | exact VLeL.nil | refine VLeL.cons (by first | exact VLe.refl _ | exact VLe.any _ | exact VLe.nil _ _) ?_))) ?_)
          · rintro k σ ⟨x15, v13, l14, L, hk, hA, h, rfl⟩
            rcases k with _ | n
            · simp [go_ref31_Follow_L1] at h
            · rw [go_ref31_Follow_L1] at h
              repeat refine sat_seq ?_
              refine satO_reg ?_
              obtain ⟨w0a, w0b, w0c⟩ := hA.whole (j := 0) rfl
              refine satO_step 4 [] ⟨.sl 3 (a0.map GOver.el) false :: .str a1 :: .str a2 :: an 5 (v13 :: .int .i64 x15 :: an 14 (.int .i64 x15 :: .sl 3 (a0.map GOver.el) false :: .int .i64 (a0.length : Int) :: .bool (decide (x15 < (a0.length : Int))) :: an 26 [])), ⟨lv + 1, L, E⟩, [], E⟩ [] (by simp -implicitDefEqProofs [w0a, w0b, w0c]) claims_nil ?_
              refine satO_nil (by simp) ?_
              repeat refine sat_seq ?_
              refine sat_cond rfl (fun hb => ?_) (fun hb => ?_)
              · have h := ite_t hb h
                repeat refine sat_seq ?_
                refine sat_skip ?_
                repeat refine sat_seq ?_
                refine sat_block ?_
                repeat refine sat_seq ?_
                refine satO_reg ?_
                obtain ⟨x16, q17, h⟩ := bnd_hi h
                obtain ⟨q17, q18⟩ := ix_some q17
                obtain ⟨w0a, w0b, w0c⟩ := hA.whole (j := 0) rfl
                refine satO_step 4 [] ⟨.sl 3 (a0.map GOver.el) false :: .str a1 :: .str a2 :: an 5 (v13 :: .int .i64 x15 :: an 14 (.int .i64 x15 :: .sl 3 (a0.map GOver.el) false :: .int .i64 (a0.length : Int) :: .bool (decide (x15 < (a0.length : Int))) :: an 2 (.sl 3 (a0.map GOver.el) false :: .int .i64 x15 :: .ref x16.cs 0 :: .agg x16.cs :: an 20 []))), ⟨lv + 1, L, E⟩, [], E⟩ [] (by simp -implicitDefEqProofs [GOver.cs, w0a, w0b, w0c, q17, q18, GOver.el_cs]) claims_nil ?_
                refine satO_step 1 [] ⟨.sl 3 (a0.map GOver.el) false :: .str a1 :: .str a2 :: an 5 (v13 :: .int .i64 x15 :: .ptr (lv + 1) L.length 0 :: an 13 (.int .i64 x15 :: .sl 3 (a0.map GOver.el) false :: .int .i64 (a0.length : Int) :: .bool (decide (x15 < (a0.length : Int))) :: an 2 (.sl 3 (a0.map GOver.el) false :: .int .i64 x15 :: .ref x16.cs 0 :: .agg x16.cs :: an 20 []))), ⟨lv + 1, (L ++ [some (.cells [.str ([]), .int .u8 0, .str ([])])]), E⟩, [], E⟩ [] (by simp -implicitDefEqProofs [GOver.cs]) claims_nil ?_
                have hA : AccG (lv + 1) (L ++ [some (.cells [.str ([]), .int .u8 0, .str ([])])]) [⟨32, 3, v13, l14.map GOver.el, false⟩] [(L.length, .cells [.str ([]), .int .u8 0, .str ([])])] := hA.obj _
                generalize L.length = i20 at hA ⊢
                generalize (L ++ [some (.cells [.str ([]), .int .u8 0, .str ([])])]) = L at hA ⊢
                have g0 := hA.get (k := 0) rfl
                obtain ⟨w0a, w0b, w0c⟩ := hA.whole (j := 0) rfl
                refine satO_step 1 [] ⟨.sl 3 (a0.map GOver.el) false :: .str a1 :: .str a2 :: an 5 (v13 :: .int .i64 x15 :: .ptr (lv + 1) i20 0 :: an 13 (.int .i64 x15 :: .sl 3 (a0.map GOver.el) false :: .int .i64 (a0.length : Int) :: .bool (decide (x15 < (a0.length : Int))) :: an 2 (.sl 3 (a0.map GOver.el) false :: .int .i64 x15 :: .ref x16.cs 0 :: .agg x16.cs :: an 20 []))), ⟨lv + 1, (L.set i20 (some (.cells x16.cs))), E⟩, [], E⟩ [] (by simp -implicitDefEqProofs [GOver.cs, g0, w0a, w0b, w0c]) claims_nil ?_
                have hA : AccG (lv + 1) (L.set i20 (some (.cells x16.cs))) [⟨32, 3, v13, l14.map GOver.el, false⟩] [(i20, .cells x16.cs)] := hA.upd (k := 0) rfl _
                generalize (L.set i20 (some (.cells x16.cs))) = L at hA ⊢
                refine satO_nil (by simp) ?_
                repeat refine sat_seq ?_
                refine satO_reg ?_
                obtain ⟨y21, q22, h⟩ := bnd_hi h
                have g0 := hA.get (k := 0) rfl
                obtain ⟨w0a, w0b, w0c⟩ := hA.whole (j := 0) rfl
                refine satO_step 6 [(.str y21, none)] ⟨.sl 3 (a0.map GOver.el) false :: .str a1 :: .str a2 :: an 5 (v13 :: .int .i64 x15 :: .ptr (lv + 1) i20 0 :: an 13 (.int .i64 x15 :: .sl 3 (a0.map GOver.el) false :: .int .i64 (a0.length : Int) :: .bool (decide (x15 < (a0.length : Int))) :: an 2 (.sl 3 (a0.map GOver.el) false :: .int .i64 x15 :: .ref x16.cs 0 :: .agg x16.cs :: .ptr (lv + 1) i20 0 :: .str x16.path :: .str a1 :: .str a2 :: .str y21 :: .ptr (lv + 1) i20 0 :: an 14 []))), ⟨lv + 1, L, E⟩, [], E⟩ [⟨15, [.str x16.path, .str a1, .str a2], ⟨lv + 1, L, E⟩, .str y21, ⟨lv + 1, L, E⟩⟩] (by simp -implicitDefEqProofs [GOver.cs, g0, w0a, w0b, w0c]) (claims_cons (go_ref31_RenamedPath_ok _ _ _ _ _ q22 _) claims_nil) ?_
                have g0 := hA.get (k := 0) rfl
                obtain ⟨w0a, w0b, w0c⟩ := hA.whole (j := 0) rfl
                refine satO_step 1 [] ⟨.sl 3 (a0.map GOver.el) false :: .str a1 :: .str a2 :: an 5 (v13 :: .int .i64 x15 :: .ptr (lv + 1) i20 0 :: an 13 (.int .i64 x15 :: .sl 3 (a0.map GOver.el) false :: .int .i64 (a0.length : Int) :: .bool (decide (x15 < (a0.length : Int))) :: an 2 (.sl 3 (a0.map GOver.el) false :: .int .i64 x15 :: .ref x16.cs 0 :: .agg x16.cs :: .ptr (lv + 1) i20 0 :: .str x16.path :: .str a1 :: .str a2 :: .str y21 :: .ptr (lv + 1) i20 0 :: an 14 []))), ⟨lv + 1, (L.set i20 (some (.cells [.str y21, .int .u8 x16.kind, .str x16.name]))), E⟩, [], E⟩ [] (by simp -implicitDefEqProofs [GOver.cs, g0, w0a, w0b, w0c]) claims_nil ?_
                have hA : AccG (lv + 1) (L.set i20 (some (.cells [.str y21, .int .u8 x16.kind, .str x16.name]))) [⟨32, 3, v13, l14.map GOver.el, false⟩] [(i20, .cells [.str y21, .int .u8 x16.kind, .str x16.name])] := hA.upd (k := 0) rfl _
                generalize (L.set i20 (some (.cells [.str y21, .int .u8 x16.kind, .str x16.name]))) = L at hA ⊢
                refine satO_nil (by simp) ?_
                repeat refine sat_seq ?_
                refine satO_reg ?_
                have g0 := hA.get (k := 0) rfl
                obtain ⟨w0a, w0b, w0c⟩ := hA.whole (j := 0) rfl
                refine satO_step 3 [] ⟨.sl 3 (a0.map GOver.el) false :: .str a1 :: .str a2 :: an 5 (v13 :: .int .i64 x15 :: .ptr (lv + 1) i20 0 :: an 13 (.int .i64 x15 :: .sl 3 (a0.map GOver.el) false :: .int .i64 (a0.length : Int) :: .bool (decide (x15 < (a0.length : Int))) :: an 2 (.sl 3 (a0.map GOver.el) false :: .int .i64 x15 :: .ref x16.cs 0 :: .agg x16.cs :: .ptr (lv + 1) i20 0 :: .str x16.path :: .str a1 :: .str a2 :: .str y21 :: .ptr (lv + 1) i20 0 :: .ptr (lv + 1) i20 1 :: .int .u8 x16.kind :: .bool (x16.kind == 2) :: an 11 []))), ⟨lv + 1, L, E⟩, [], E⟩ [] (by simp -implicitDefEqProofs [GOver.cs, g0, w0a, w0b, w0c]) claims_nil ?_
                refine satO_nil (by simp) ?_
                repeat refine sat_seq ?_
                refine sat_meet (fun σ => ∃ (k : Nat), k ≤ n ∧ ∃ (x23 : List UInt8) (L : List (Option AObj)), AccG (lv + 1) L [⟨32, 3, v13, l14.map GOver.el, false⟩] [(i20, .cells [.str y21, .int .u8 x16.kind, .str x23])] ∧ go_ref31_Follow_J2 k a0 a1 a2 l14 x15 x16 y21 x23 = some r ∧ σ = ⟨.sl 3 (a0.map GOver.el) false :: .str a1 :: .str a2 :: an 5 (v13 :: .int .i64 x15 :: .ptr (lv + 1) i20 0 :: an 43 []), ⟨lv + 1, L, E⟩, [], E⟩) ?_ ?_
                · refine sat_cond rfl (fun hb => ?_) (fun hb => ?_)
                  · have h := ite_t hb h
                    repeat refine sat_seq ?_
                    refine satO_reg ?_
                    obtain ⟨y24, q25, h⟩ := bnd_hi h
                    have g0 := hA.get (k := 0) rfl
                    obtain ⟨w0a, w0b, w0c⟩ := hA.whole (j := 0) rfl
                    refine satO_step 6 [(.str y24, none)] ⟨.sl 3 (a0.map GOver.el) false :: .str a1 :: .str a2 :: an 5 (v13 :: .int .i64 x15 :: .ptr (lv + 1) i20 0 :: an 13 (.int .i64 x15 :: .sl 3 (a0.map GOver.el) false :: .int .i64 (a0.length : Int) :: .bool (decide (x15 < (a0.length : Int))) :: an 2 (.sl 3 (a0.map GOver.el) false :: .int .i64 x15 :: .ref x16.cs 0 :: .agg x16.cs :: .ptr (lv + 1) i20 0 :: .str x16.path :: .str a1 :: .str a2 :: .str y21 :: .ptr (lv + 1) i20 0 :: .ptr (lv + 1) i20 1 :: .int .u8 x16.kind :: .bool (x16.kind == 2) :: .ptr (lv + 1) i20 2 :: .str x16.name :: .str a1 :: .str a2 :: .str y24 :: .ptr (lv + 1) i20 2 :: an 5 []))), ⟨lv + 1, L, E⟩, [], E⟩ [⟨16, [.str x16.name, .str a1, .str a2], ⟨lv + 1, L, E⟩, .str y24, ⟨lv + 1, L, E⟩⟩] (by simp -implicitDefEqProofs [GOver.cs, g0, w0a, w0b, w0c]) (claims_cons (go_ref31_other_ok _ _ _ _ _ q25 _) claims_nil) ?_
                    have g0 := hA.get (k := 0) rfl
                    obtain ⟨w0a, w0b, w0c⟩ := hA.whole (j := 0) rfl
                    refine satO_step 1 [] ⟨.sl 3 (a0.map GOver.el) false :: .str a1 :: .str a2 :: an 5 (v13 :: .int .i64 x15 :: .ptr (lv + 1) i20 0 :: an 13 (.int .i64 x15 :: .sl 3 (a0.map GOver.el) false :: .int .i64 (a0.length : Int) :: .bool (decide (x15 < (a0.length : Int))) :: an 2 (.sl 3 (a0.map GOver.el) false :: .int .i64 x15 :: .ref x16.cs 0 :: .agg x16.cs :: .ptr (lv + 1) i20 0 :: .str x16.path :: .str a1 :: .str a2 :: .str y21 :: .ptr (lv + 1) i20 0 :: .ptr (lv + 1) i20 1 :: .int .u8 x16.kind :: .bool (x16.kind == 2) :: .ptr (lv + 1) i20 2 :: .str x16.name :: .str a1 :: .str a2 :: .str y24 :: .ptr (lv + 1) i20 2 :: an 5 []))), ⟨lv + 1, (L.set i20 (some (.cells [.str y21, .int .u8 x16.kind, .str y24]))), E⟩, [], E⟩ [] (by simp -implicitDefEqProofs [GOver.cs, g0, w0a, w0b, w0c]) claims_nil ?_
                    have hA : AccG (lv + 1) (L.set i20 (some (.cells [.str y21, .int .u8 x16.kind, .str y24]))) [⟨32, 3, v13, l14.map GOver.el, false⟩] [(i20, .cells [.str y21, .int .u8 x16.kind, .str y24])] := hA.upd (k := 0) rfl _
                    generalize (L.set i20 (some (.cells [.str y21, .int .u8 x16.kind, .str y24]))) = L at hA ⊢
                    refine satO_nil (by simp) ?_
                    refine ⟨⟨.sl 3 (a0.map GOver.el) false :: .str a1 :: .str a2 :: an 5 (v13 :: .int .i64 x15 :: .ptr (lv + 1) i20 0 :: an 43 []), ⟨lv + 1, L, E⟩, [], E⟩, weak_tmps ?_, n, by omega, y24, L, hA, h, rfl⟩
                    (try simp only [an, List.map_cons, List.map_nil]); repeat (first | exact VLeL.nil | refine VLeL.cons (by first | exact VLe.refl _ | exact VLe.any _ | exact VLe.nil _ _ | exact VLe.full _ _ | (refine VLe.agg' ?_; repeat (first | exact VLeL.nil | refine VLeL.cons (by first | exact VLe.refl _ | exact VLe.any _ | exact VLe.nil _ _) ?_))) ?_)
                  · have h := ite_f hb h
                    repeat refine sat_seq ?_
                    refine sat_skip ?_
                    refine ⟨⟨.sl 3 (a0.map GOver.el) false :: .str a1 :: .str a2 :: an 5 (v13 :: .int .i64 x15 :: .ptr (lv + 1) i20 0 :: an 43 []), ⟨lv + 1, L, E⟩, [], E⟩, weak_tmps ?_, n, by omega, x16.name, L, hA, h, rfl⟩
                    (try simp only [an, List.map_cons, List.map_nil]); repeat (first | exact VLeL.nil | refine VLeL.cons (by first | exact VLe.refl _ | exact VLe.any _ | exact VLe.nil _ _ | exact VLe.full _ _ | (refine VLe.agg' ?_; repeat (first | exact VLeL.nil | refine VLeL.cons (by first | exact VLe.refl _ | exact VLe.any _ | exact VLe.nil _ _) ?_))) ?_)
                · rintro σ0 σ hw ⟨k, hk, x23, L, hA, h, rfl⟩
                  rcases k with _ | n
                  · simp [go_ref31_Follow_J2] at h
                  · rw [go_ref31_Follow_J2] at h
                    refine sat_weak hw ?_
                    repeat refine sat_seq ?_
                    refine satO_reg ?_
                    have g0 := hA.get (k := 0) rfl
                    obtain ⟨w0a, w0b, w0c⟩ := hA.whole (j := 0) rfl
                    refine satO_step 3 [] ⟨.sl 3 (a0.map GOver.el) false :: .str a1 :: .str a2 :: an 5 (v13 :: .int .i64 x15 :: .ptr (lv + 1) i20 0 :: an 38 (v13 :: .agg [.str y21, .int .u8 x16.kind, .str x23] :: .sl 3 [.agg [.str y21, .int .u8 x16.kind, .str x23]] true :: an 2 [])), ⟨lv + 1, L, E⟩, [], E⟩ [] (by simp -implicitDefEqProofs [GOver.cs, g0, w0a, w0b, w0c]) claims_nil ?_
                    obtain ⟨l26, q27, h⟩ := bnd_hi h
                    obtain ⟨q27, q28⟩ := ext_some q27
                    obtain ⟨v29, L, q30, hA⟩ := hA.push (j := 0) rfl [.agg [.str y21, .int .u8 x16.kind, .str x23]] (by simpa using q27) E
                    refine satO_step 1 [] ⟨.sl 3 (a0.map GOver.el) false :: .str a1 :: .str a2 :: an 5 (v13 :: .int .i64 x15 :: .ptr (lv + 1) i20 0 :: an 38 (v13 :: .agg [.str y21, .int .u8 x16.kind, .str x23] :: .sl 3 [.agg [.str y21, .int .u8 x16.kind, .str x23]] true :: v29 :: an 1 [])), ⟨lv + 1, L, E⟩, [], E⟩ [] (by simp -implicitDefEqProofs [q30]) claims_nil ?_
                    have hA : AccG (lv + 1) L [⟨32, 3, v29, l26.map GOver.el, false⟩] [(i20, .cells [.str y21, .int .u8 x16.kind, .str x23])] := by rw [q28]; first | simpa [GOver.el_cs] using hA | simpa [GOver.el_eq] using hA
                    have g0 := hA.get (k := 0) rfl
                    obtain ⟨w0a, w0b, w0c⟩ := hA.whole (j := 0) rfl
                    refine satO_step 1 [] ⟨.sl 3 (a0.map GOver.el) false :: .str a1 :: .str a2 :: an 5 (v29 :: .int .i64 x15 :: .ptr (lv + 1) i20 0 :: an 38 (v13 :: .agg [.str y21, .int .u8 x16.kind, .str x23] :: .sl 3 [.agg [.str y21, .int .u8 x16.kind, .str x23]] true :: v29 :: an 1 [])), ⟨lv + 1, L, E⟩, [], E⟩ [] (by simp -implicitDefEqProofs [GOver.cs, g0, w0a, w0b, w0c]) claims_nil ?_
                    refine satO_nil (by simp) ?_
                    repeat refine sat_seq ?_
                    refine satO_reg ?_
                    have g0 := hA.get (k := 0) rfl
                    obtain ⟨w0a, w0b, w0c⟩ := hA.whole (j := 0) rfl
                    refine satO_step 3 [] ⟨.sl 3 (a0.map GOver.el) false :: .str a1 :: .str a2 :: an 5 (v29 :: .int .i64 (IntKind.i64.wrap (x15 + 1)) :: .ptr (lv + 1) i20 0 :: an 17 (.int .i64 x15 :: .int .i64 (IntKind.i64.wrap (x15 + 1)) :: an 19 (v13 :: .agg [.str y21, .int .u8 x16.kind, .str x23] :: .sl 3 [.agg [.str y21, .int .u8 x16.kind, .str x23]] true :: v29 :: an 1 []))), ⟨lv + 1, L, E⟩, [], E⟩ [] (by simp -implicitDefEqProofs [GOver.cs, g0, w0a, w0b, w0c]) claims_nil ?_
                    refine satO_nil (by simp) ?_
                    have hA : AccG (lv + 1) L [⟨32, 3, v29, l26.map GOver.el, false⟩] [] := hA.sel [0] (by simp) rfl (.cons _ .slnil)
                    refine ⟨n, ⟨.sl 3 (a0.map GOver.el) false :: .str a1 :: .str a2 :: an 5 (v29 :: .int .i64 (IntKind.i64.wrap (x15 + 1)) :: an 44 []), ⟨lv + 1, L, E⟩, [], E⟩, weak_tmps ?_, ⟨(IntKind.i64.wrap (x15 + 1)), v29, l26, L, by omega, hA, h, rfl⟩, by omega⟩
                    (try simp only [an, List.map_cons, List.map_nil]); repeat (first | exact VLeL.nil | refine VLeL.cons (by first | exact VLe.refl _ | exact VLe.any _ | exact VLe.nil _ _ | exact VLe.full _ _ | (refine VLe.agg' ?_; repeat (first | exact VLeL.nil | refine VLeL.cons (by first | exact VLe.refl _ | exact VLe.any _ | exact VLe.nil _ _) ?_))) ?_)
              · have h := ite_f hb h
                repeat refine sat_seq ?_
                refine sat_exit ?_
                repeat refine sat_seq ?_
                refine satO_reg ?_
                obtain ⟨w0a, w0b, w0c⟩ := hA.whole (j := 0) rfl
                refine satO_step 3 [] ⟨.sl 3 (a0.map GOver.el) false :: .str a1 :: .str a2 :: an 3 (v13 :: .int .i64 0 :: v13 :: .int .i64 x15 :: an 14 (.int .i64 x15 :: .sl 3 (a0.map GOver.el) false :: .int .i64 (a0.length : Int) :: .bool (decide (x15 < (a0.length : Int))) :: an 25 (v13 :: []))), ⟨lv + 1, L, E⟩, [], E⟩ [] (by simp -implicitDefEqProofs [GOver.cs, w0a, w0b, w0c]) claims_nil ?_
                refine satO_nil (by simp) ?_
                repeat refine sat_seq ?_
                refine sat_ret ?_
                obtain ⟨w0a, w0b, w0c⟩ := hA.whole (j := 0) rfl
                refine ends (v := .tup [v13, .int .i64 0]) (by simp [resultsV, resL, resV, tupOf, Tryd.f6, pLoad, w0a, w0b, w0c, GOver.cs]) rfl rfl ?_
                injection h with h
                subst h
                exact VS.tup' (.cons (hA.shut (j := 0) rfl (by simp [V.kin, V.kinL, GOver.cs])) (.cons (.keep _ (by simp [V.kin, V.kinL, GOver.cs])) .nil))
end Go.Proofs
