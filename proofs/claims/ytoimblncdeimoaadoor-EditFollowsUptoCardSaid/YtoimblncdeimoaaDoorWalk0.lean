/-
  The Go functions compute what their Lean functions do, by a program of this repo.
-/
import Derived.Test.YtoimblncdeimoaaDoorFns
import Derived.Test.YtoimblncdeimoaaDoorFacts
import Derived.Test.YtoimblncdeimoaaDoorAbSimp
import Derived.Lib.Bytealg
import Derived.Laws.Externs
import Derived.KernelRfl
namespace Go.Proofs
open Go Go.Ab
set_option maxRecDepth 10000
set_option maxHeartbeats 1000000
set_option linter.unusedSimpArgs false
set_option linter.unusedVariables false
theorem go_ref30_Great_ok (n : Nat) (a0 : List GOver) (r : Bool) (h : go_ref30_Great n a0 = some r) : PCall Tryd.prog 4 [.sl 3 (a0.map GOver.el) false] (.bool r) := by
  rcases n with _ | n
  · simp [go_ref30_Great] at h
  rw [go_ref30_Great] at h
  refine pcall_of Tryd.func4 rfl Tryd.ntmps4 (fun _ _ => Tryd.call4 _ _) fun lv E => ?_
  simp only [List.length_cons, List.length_nil, Nat.reduceAdd, Nat.reduceSub, List.replicate, List.cons_append, List.nil_append]
  have hA := AccG.nil (lv + 1)
  generalize ([] : List (Option AObj)) = L at hA ⊢
  repeat refine sat_seq ?_
  refine satO_reg ?_
  refine satO_step 1 [] ⟨.sl 3 (a0.map GOver.el) false :: an 1 (.bool false :: an 26 []), ⟨lv + 1, L, E⟩, [], E⟩ [] (by simp -implicitDefEqProofs []) claims_nil ?_
  refine satO_nil (by simp) ?_
  repeat refine sat_seq ?_
  refine satO_reg ?_
  refine satO_step 1 [] ⟨.sl 3 (a0.map GOver.el) false :: an 1 (.bool false :: .int .i64 0 :: an 25 []), ⟨lv + 1, L, E⟩, [], E⟩ [] (by simp -implicitDefEqProofs []) claims_nil ?_
  refine satO_nil (by simp) ?_
  repeat refine sat_seq ?_
  refine sat_block ?_
  repeat refine sat_seq ?_
  refine sat_loop (fun k σ => ∃ (x1 : Int) (L : List (Option AObj)), k ≤ n ∧ AccG (lv + 1) L [] [] ∧ go_ref30_Great_L1 k a0 x1 = some r ∧ σ = ⟨.sl 3 (a0.map GOver.el) false :: an 2 (.int .i64 x1 :: an 25 []), ⟨lv + 1, L, E⟩, [], E⟩) n ⟨.sl 3 (a0.map GOver.el) false :: an 2 (.int .i64 0 :: an 25 []), ⟨lv + 1, L, E⟩, [], E⟩ (weak_tmps ?_) ⟨0, L, Nat.le_refl _, hA, h, rfl⟩ ?_
  · (try simp only [an, List.map_cons, List.map_nil]); repeat (first | exact VLeL.nil | refine VLeL.cons (by first | exact VLe.refl _ | exact VLe.any _ | exact VLe.nil _ _ | exact VLe.full _ _ | (refine VLe.agg' ?_; repeat (first | exact VLeL.nil | refine VLeL.cons (by first | exact VLe.refl _ | exact VLe.any _ | exact VLe.nil _ _) ?_))) ?_)
  · rintro k σ ⟨x1, L, hk, hA, h, rfl⟩
    rcases k with _ | n
    · simp [go_ref30_Great_L1] at h
    · rw [go_ref30_Great_L1] at h
      repeat refine sat_seq ?_
      refine satO_reg ?_
      refine satO_step 4 [] ⟨.sl 3 (a0.map GOver.el) false :: an 2 (.int .i64 x1 :: .int .i64 x1 :: .sl 3 (a0.map GOver.el) false :: .int .i64 (a0.length : Int) :: .bool (decide (x1 < (a0.length : Int))) :: an 21 []), ⟨lv + 1, L, E⟩, [], E⟩ [] (by simp -implicitDefEqProofs []) claims_nil ?_
      refine satO_nil (by simp) ?_
      repeat refine sat_seq ?_
      refine sat_cond rfl (fun hb => ?_) (fun hb => ?_)
      · have h := ite_t hb h
        repeat refine sat_seq ?_
        refine sat_skip ?_
        repeat refine sat_seq ?_
        refine sat_block ?_
        repeat refine sat_seq ?_
        refine sat_meet (fun σ => ∃ (k : Nat), k ≤ n ∧ ∃ (x2 : Bool) (L : List (Option AObj)), AccG (lv + 1) L [] [] ∧ go_ref30_Great_J1 k a0 x1 x2 = some r ∧ σ = ⟨.sl 3 (a0.map GOver.el) false :: an 2 (.int .i64 x1 :: an 21 (.bool x2 :: an 3 [])), ⟨lv + 1, L, E⟩, [], E⟩) ?_ ?_
        · refine satO_reg ?_
          obtain ⟨x3, q4, h⟩ := bnd_hi h
          obtain ⟨q4, q5⟩ := ix_some q4
          rcases Bool.eq_false_or_eq_true (decide (5000 < (x3.path.length : Int))) with hg6 | hg7
          · have h := ite_t hg6 h
            have hg6n := hg6
            try simp at hg6n
            refine satO_step 16 [] ⟨.sl 3 (a0.map GOver.el) false :: an 2 (.int .i64 x1 :: .int .i64 x1 :: .sl 3 (a0.map GOver.el) false :: .int .i64 (a0.length : Int) :: .bool (decide (x1 < (a0.length : Int))) :: an 2 (.sl 3 (a0.map GOver.el) false :: .int .i64 x1 :: .ref x3.cs 0 :: .ref x3.cs 0 :: .str x3.path :: .int .i64 (x3.path.length : Int) :: .bool (decide (5000 < (x3.path.length : Int))) :: .bool (decide (5000 < (x3.path.length : Int))) :: .tup [] :: .tup [] :: .tup [] :: .tup [] :: .tup [] :: .tup [] :: .tup [] :: .bool true :: an 3 [])), ⟨lv + 1, L, E⟩, [], E⟩ [] (by first | (simp -implicitDefEqProofs [GOver.cs, q4, q5, GOver.el_cs, hg6]; done) | simp -implicitDefEqProofs [GOver.cs, q4, q5, GOver.el_cs, hg6, hg6n]) claims_nil ?_
            refine satO_nil (by simp) ?_
            refine ⟨⟨.sl 3 (a0.map GOver.el) false :: an 2 (.int .i64 x1 :: an 21 (.bool true :: an 3 [])), ⟨lv + 1, L, E⟩, [], E⟩, weak_tmps ?_, n, by omega, true, L, hA, h, rfl⟩
            (try simp only [an, List.map_cons, List.map_nil]); repeat (first | exact VLeL.nil | refine VLeL.cons (by first | exact VLe.refl _ | exact VLe.any _ | exact VLe.nil _ _ | exact VLe.full _ _ | (refine VLe.agg' ?_; repeat (first | exact VLeL.nil | refine VLeL.cons (by first | exact VLe.refl _ | exact VLe.any _ | exact VLe.nil _ _) ?_))) ?_)
          · have h := ite_f hg7 h
            have hg7n := hg7
            try simp at hg7n
            refine satO_step 16 [] ⟨.sl 3 (a0.map GOver.el) false :: an 2 (.int .i64 x1 :: .int .i64 x1 :: .sl 3 (a0.map GOver.el) false :: .int .i64 (a0.length : Int) :: .bool (decide (x1 < (a0.length : Int))) :: an 2 (.sl 3 (a0.map GOver.el) false :: .int .i64 x1 :: .ref x3.cs 0 :: .ref x3.cs 0 :: .str x3.path :: .int .i64 (x3.path.length : Int) :: .bool (decide (5000 < (x3.path.length : Int))) :: .bool (decide (5000 < (x3.path.length : Int))) :: .sl 3 (a0.map GOver.el) false :: .int .i64 x1 :: .ref x3.cs 0 :: .ref x3.cs 2 :: .str x3.name :: .int .i64 (x3.name.length : Int) :: .bool (decide (200 < (x3.name.length : Int))) :: .bool (decide (200 < (x3.name.length : Int))) :: an 3 [])), ⟨lv + 1, L, E⟩, [], E⟩ [] (by first | (simp -implicitDefEqProofs [GOver.cs, q4, q5, GOver.el_cs, hg7, q4, q5, GOver.el_cs]; done) | simp -implicitDefEqProofs [GOver.cs, q4, q5, GOver.el_cs, hg7, q4, q5, GOver.el_cs, hg7n]) claims_nil ?_
            refine satO_nil (by simp) ?_
            refine ⟨⟨.sl 3 (a0.map GOver.el) false :: an 2 (.int .i64 x1 :: an 21 (.bool (decide (200 < (x3.name.length : Int))) :: an 3 [])), ⟨lv + 1, L, E⟩, [], E⟩, weak_tmps ?_, n, by omega, (decide (200 < (x3.name.length : Int))), L, hA, h, rfl⟩
            (try simp only [an, List.map_cons, List.map_nil]); repeat (first | exact VLeL.nil | refine VLeL.cons (by first | exact VLe.refl _ | exact VLe.any _ | exact VLe.nil _ _ | exact VLe.full _ _ | (refine VLe.agg' ?_; repeat (first | exact VLeL.nil | refine VLeL.cons (by first | exact VLe.refl _ | exact VLe.any _ | exact VLe.nil _ _) ?_))) ?_)
        · rintro σ0 σ hw ⟨k, hk, x2, L, hA, h, rfl⟩
          rcases k with _ | n
          · simp [go_ref30_Great_J1] at h
          · rw [go_ref30_Great_J1] at h
            refine sat_weak hw ?_
            repeat refine sat_seq ?_
            refine sat_cond rfl (fun hb => ?_) (fun hb => ?_)
            · have h := ite_t hb h
              repeat refine sat_seq ?_
              refine satO_reg ?_
              refine satO_step 1 [] ⟨.sl 3 (a0.map GOver.el) false :: an 1 (.bool true :: .int .i64 x1 :: an 21 (.bool x2 :: an 3 [])), ⟨lv + 1, L, E⟩, [], E⟩ [] (by simp -implicitDefEqProofs [GOver.cs]) claims_nil ?_
              refine satO_nil (by simp) ?_
              repeat refine sat_seq ?_
              refine sat_ret ?_
              refine ends (v := .bool true) (by simp [resultsV, resL, resV, tupOf, Tryd.f4, pLoad, GOver.cs]) rfl rfl ?_
              injection h with h
              subst h
              exact (.keep _ (by simp [V.kin, V.kinL, GOver.cs]))
            · have h := ite_f hb h
              repeat refine sat_seq ?_
              refine sat_skip ?_
              repeat refine sat_seq ?_
              refine satO_reg ?_
              refine satO_step 3 [] ⟨.sl 3 (a0.map GOver.el) false :: an 2 (.int .i64 (IntKind.i64.wrap (x1 + 1)) :: an 4 (.int .i64 x1 :: .int .i64 (IntKind.i64.wrap (x1 + 1)) :: an 15 (.bool x2 :: an 3 []))), ⟨lv + 1, L, E⟩, [], E⟩ [] (by simp -implicitDefEqProofs [GOver.cs]) claims_nil ?_
              refine satO_nil (by simp) ?_
              refine ⟨n, ⟨.sl 3 (a0.map GOver.el) false :: an 2 (.int .i64 (IntKind.i64.wrap (x1 + 1)) :: an 25 []), ⟨lv + 1, L, E⟩, [], E⟩, weak_tmps ?_, ⟨(IntKind.i64.wrap (x1 + 1)), L, by omega, hA, h, rfl⟩, by omega⟩
              (try simp only [an, List.map_cons, List.map_nil]); repeat (first | exact VLeL.nil | refine VLeL.cons (by first | exact VLe.refl _ | exact VLe.any _ | exact VLe.nil _ _ | exact VLe.full _ _ | (refine VLe.agg' ?_; repeat (first | exact VLeL.nil | refine VLeL.cons (by first | exact VLe.refl _ | exact VLe.any _ | exact VLe.nil _ _) ?_))) ?_)
      · have h := ite_f hb h
        repeat refine sat_seq ?_
        refine sat_exit ?_
        repeat refine sat_seq ?_
        refine satO_reg ?_
        refine satO_step 4 [] ⟨.sl 3 (a0.map GOver.el) false :: an 1 (.bool (decide (70 < (a0.length : Int))) :: .int .i64 x1 :: .int .i64 x1 :: .sl 3 (a0.map GOver.el) false :: .int .i64 (a0.length : Int) :: .bool (decide (x1 < (a0.length : Int))) :: an 18 (.sl 3 (a0.map GOver.el) false :: .int .i64 (a0.length : Int) :: .bool (decide (70 < (a0.length : Int))) :: [])), ⟨lv + 1, L, E⟩, [], E⟩ [] (by simp -implicitDefEqProofs [GOver.cs]) claims_nil ?_
        refine satO_nil (by simp) ?_
        repeat refine sat_seq ?_
        refine sat_ret ?_
        refine ends (v := .bool (decide (70 < (a0.length : Int)))) (by simp [resultsV, resL, resV, tupOf, Tryd.f4, pLoad, GOver.cs]) rfl rfl ?_
        injection h with h
        subst h
        exact (.keep _ (by simp [V.kin, V.kinL, GOver.cs]))
end Go.Proofs

namespace Go.Proofs
open Go Go.Ab
set_option maxRecDepth 10000
set_option maxHeartbeats 1000000
set_option linter.unusedSimpArgs false
set_option linter.unusedVariables false
theorem go_internal_bytealg_CountString_ok (n : Nat) (a0 : List UInt8) (a1 : Int) (r : Int) (h : go_internal_bytealg_CountString n a0 a1 = some r) : PCall Tryd.prog 44 [.str a0, .int .u8 a1] (.int .i64 r) := by
  rw [go_internal_bytealg_CountString] at h
  injection h with h
  subst h
  intro H W g cargs hG hA
  refine .inr ⟨_, W, g, ?_, .refl _ _ _, hG, .int _ _⟩
  obtain ⟨x, y, rfl, h0, h1⟩ := args2 hA
  cases h0; cases h1
  rw [run_callFunc_extern Tryd.func44 (by kernel_rfl) (by kernel_rfl) (by kernel_rfl) (e := Extern.BytealgCount.count) (by kernel_rfl), Lib.run_countString]
  rfl
end Go.Proofs

namespace Go.Proofs
open Go Go.Ab
set_option maxRecDepth 10000
set_option maxHeartbeats 1000000
set_option linter.unusedSimpArgs false
set_option linter.unusedVariables false
theorem go_strings_Count_s47_ok (n : Nat) (a0 : List UInt8) (r : Int) (h : go_strings_Count_s47 n a0 = some r) : PCall Tryd.prog 33 [.str a0, .str ([47])] (.int .i64 r) := by
  rcases n with _ | n
  · simp [go_strings_Count_s47] at h
  rw [go_strings_Count_s47] at h
  refine pcall_of Tryd.func33 rfl Tryd.ntmps33 (fun _ _ => Tryd.call33 _ _) fun lv E => ?_
  simp only [List.length_cons, List.length_nil, Nat.reduceAdd, Nat.reduceSub, List.replicate, List.cons_append, List.nil_append]
  have hA := AccG.nil (lv + 1)
  generalize ([] : List (Option AObj)) = L at hA ⊢
  repeat refine sat_seq ?_
  refine satO_reg ?_
  refine satO_step 1 [] ⟨.str a0 :: .str ([47]) :: an 2 (.int .i64 0 :: an 29 []), ⟨lv + 1, L, E⟩, [], E⟩ [] (by simp -implicitDefEqProofs []) claims_nil ?_
  refine satO_nil (by simp) ?_
  repeat refine sat_seq ?_
  refine satO_reg ?_
  refine satO_step 3 [] ⟨.str a0 :: .str ([47]) :: an 2 (.int .i64 0 :: an 2 (.str ([47]) :: .int .i64 1 :: .bool false :: an 24 [])), ⟨lv + 1, L, E⟩, [], E⟩ [] (by simp -implicitDefEqProofs []) claims_nil ?_
  refine satO_nil (by simp) ?_
  repeat refine sat_seq ?_
  refine sat_cond rfl (fun hb => by cases hb) (fun hb => ?_)
  repeat refine sat_seq ?_
  refine sat_skip ?_
  repeat refine sat_seq ?_
  refine satO_reg ?_
  refine satO_step 3 [] ⟨.str a0 :: .str ([47]) :: an 2 (.int .i64 0 :: an 2 (.str ([47]) :: .int .i64 1 :: .bool false :: an 3 (.str ([47]) :: .int .i64 1 :: .bool true :: an 18 []))), ⟨lv + 1, L, E⟩, [], E⟩ [] (by simp -implicitDefEqProofs []) claims_nil ?_
  refine satO_nil (by simp) ?_
  repeat refine sat_seq ?_
  refine sat_cond rfl (fun hb => ?_) (fun hb => by cases hb)
  repeat refine sat_seq ?_
  refine satO_reg ?_
  obtain ⟨y1, q2, h⟩ := bnd_hi h
  refine satO_step 5 [(.int .i64 y1, none)] ⟨.str a0 :: .str ([47]) :: an 2 (.int .i64 y1 :: an 2 (.str ([47]) :: .int .i64 1 :: .bool false :: an 3 (.str ([47]) :: .int .i64 1 :: .bool true :: .str a0 :: .str ([47]) :: .int .u8 ((47 : UInt8).toNat : Int) :: .int .i64 y1 :: an 14 []))), ⟨lv + 1, L, E⟩, [], E⟩ [⟨44, [.str a0, .int .u8 ((47 : UInt8).toNat : Int)], ⟨lv + 1, L, E⟩, .int .i64 y1, ⟨lv + 1, L, E⟩⟩] (by simp -implicitDefEqProofs []) (claims_cons (go_internal_bytealg_CountString_ok _ _ _ _ q2 _) claims_nil) ?_
  refine satO_nil (by simp) ?_
  repeat refine sat_seq ?_
  refine sat_ret ?_
  refine ends (v := .int .i64 y1) (by simp [resultsV, resL, resV, tupOf, Tryd.f33, pLoad]) rfl rfl ?_
  injection h with h
  subst h
  exact (.keep _ (by simp [V.kin, V.kinL]))
end Go.Proofs

namespace Go.Proofs
open Go Go.Ab
set_option maxRecDepth 10000
set_option maxHeartbeats 1000000
set_option linter.unusedSimpArgs false
set_option linter.unusedVariables false
theorem go_internal_bytealg_IndexByteString_ok (n : Nat) (a0 : List UInt8) (a1 : Int) (r : Int) (h : go_internal_bytealg_IndexByteString n a0 a1 = some r) : PCall Tryd.prog 54 [.str a0, .int .u8 a1] (.int .i64 r) := by
  rw [go_internal_bytealg_IndexByteString] at h
  injection h with h
  subst h
  intro H W g cargs hG hA
  refine .inr ⟨_, W, g, ?_, .refl _ _ _, hG, .int _ _⟩
  obtain ⟨x, y, rfl, h0, h1⟩ := args2 hA
  cases h0; cases h1
  rw [run_callFunc_extern Tryd.func54 (by kernel_rfl) (by kernel_rfl) (by kernel_rfl) (e := Extern.BytealgIndexByte.indexByte) (by kernel_rfl), Lib.run_indexByteString]
  rfl
end Go.Proofs

namespace Go.Proofs
open Go Go.Ab
set_option maxRecDepth 10000
set_option maxHeartbeats 1000000
set_option linter.unusedSimpArgs false
set_option linter.unusedVariables false
theorem go_internal_stringslite_IndexByte_ok (n : Nat) (a0 : List UInt8) (a1 : Int) (r : Int) (h : go_internal_stringslite_IndexByte n a0 a1 = some r) : PCall Tryd.prog 45 [.str a0, .int .u8 a1] (.int .i64 r) := by
  rw [go_internal_stringslite_IndexByte] at h
  refine pcall_of Tryd.func45 rfl Tryd.ntmps45 (fun _ _ => Tryd.call45 _ _) fun lv E => ?_
  simp only [List.length_cons, List.length_nil, Nat.reduceAdd, Nat.reduceSub, List.replicate, List.cons_append, List.nil_append]
  have hA := AccG.nil (lv + 1)
  generalize ([] : List (Option AObj)) = L at hA ⊢
  repeat refine sat_seq ?_
  refine satO_reg ?_
  refine satO_step 1 [] ⟨.str a0 :: .int .u8 a1 :: an 2 (.int .i64 0 :: an 3 []), ⟨lv + 1, L, E⟩, [], E⟩ [] (by simp -implicitDefEqProofs []) claims_nil ?_
  refine satO_nil (by simp) ?_
  repeat refine sat_seq ?_
  refine satO_reg ?_
  obtain ⟨y1, q2, h⟩ := bnd_hi h
  refine satO_step 4 [(.int .i64 y1, none)] ⟨.str a0 :: .int .u8 a1 :: an 2 (.int .i64 y1 :: .str a0 :: .int .u8 a1 :: .int .i64 y1 :: []), ⟨lv + 1, L, E⟩, [], E⟩ [⟨54, [.str a0, .int .u8 a1], ⟨lv + 1, L, E⟩, .int .i64 y1, ⟨lv + 1, L, E⟩⟩] (by simp -implicitDefEqProofs []) (claims_cons (go_internal_bytealg_IndexByteString_ok _ _ _ _ q2 _) claims_nil) ?_
  refine satO_nil (by simp) ?_
  repeat refine sat_seq ?_
  refine sat_ret ?_
  refine ends (v := .int .i64 y1) (by simp [resultsV, resL, resV, tupOf, Tryd.f45, pLoad]) rfl rfl ?_
  injection h with h
  subst h
  exact (.keep _ (by simp [V.kin, V.kinL]))
end Go.Proofs

namespace Go.Proofs
open Go Go.Ab
set_option maxRecDepth 10000
set_option maxHeartbeats 1000000
set_option linter.unusedSimpArgs false
set_option linter.unusedVariables false
theorem go_internal_stringslite_Index_s47_ok (n : Nat) (a0 : List UInt8) (r : Int) (h : go_internal_stringslite_Index_s47 n a0 = some r) : PCall Tryd.prog 35 [.str a0, .str ([47])] (.int .i64 r) := by
  rcases n with _ | n
  · simp [go_internal_stringslite_Index_s47] at h
  rw [go_internal_stringslite_Index_s47] at h
  refine pcall_of Tryd.func35 rfl Tryd.ntmps35 (fun _ _ => Tryd.call35 _ _) fun lv E => ?_
  simp only [List.length_cons, List.length_nil, Nat.reduceAdd, Nat.reduceSub, List.replicate, List.cons_append, List.nil_append]
  have hA := AccG.nil (lv + 1)
  generalize ([] : List (Option AObj)) = L at hA ⊢
  repeat refine sat_seq ?_
  refine satO_reg ?_
  refine satO_step 1 [] ⟨.str a0 :: .str ([47]) :: an 2 (.int .i64 0 :: an 138 []), ⟨lv + 1, L, E⟩, [], E⟩ [] (by simp -implicitDefEqProofs []) claims_nil ?_
  refine satO_nil (by simp) ?_
  repeat refine sat_seq ?_
  refine satO_reg ?_
  refine satO_step 3 [] ⟨.str a0 :: .str ([47]) :: an 2 (.int .i64 0 :: .int .i64 1 :: an 8 (.str ([47]) :: .int .i64 1 :: an 127 [])), ⟨lv + 1, L, E⟩, [], E⟩ [] (by simp -implicitDefEqProofs []) claims_nil ?_
  refine satO_nil (by simp) ?_
  repeat refine sat_seq ?_
  refine sat_block ?_
  repeat refine sat_seq ?_
  refine sat_meet (fun σ => ∃ (k : Nat), k ≤ n ∧ ∃ (x1 : Bool) (L : List (Option AObj)), AccG (lv + 1) L [] [] ∧ go_internal_stringslite_Index_s47_J1 k a0 x1 = some r ∧ σ = ⟨.str a0 :: .str ([47]) :: an 3 (.int .i64 1 :: an 10 (.bool x1 :: an 126 [])), ⟨lv + 1, L, E⟩, [], E⟩) ?_ ?_
  · refine satO_reg ?_
    refine satO_step 8 [] ⟨.str a0 :: .str ([47]) :: an 2 (.int .i64 0 :: .int .i64 1 :: an 8 (.str ([47]) :: .int .i64 1 :: .bool (([47]) == a0) :: .int .i64 1 :: .bool false :: .bool false :: .str ([47]) :: .str a0 :: .bool (([47]) == a0) :: .bool (([47]) == a0) :: an 119 [])), ⟨lv + 1, L, E⟩, [], E⟩ [] (by simp -implicitDefEqProofs []) claims_nil ?_
    refine satO_nil (by simp) ?_
    refine ⟨⟨.str a0 :: .str ([47]) :: an 3 (.int .i64 1 :: an 10 (.bool (([47]) == a0) :: an 126 [])), ⟨lv + 1, L, E⟩, [], E⟩, weak_tmps ?_, n, by omega, (([47]) == a0), L, hA, h, rfl⟩
    (try simp only [an, List.map_cons, List.map_nil]); repeat (first | exact VLeL.nil | refine VLeL.cons (by first | exact VLe.refl _ | exact VLe.any _ | exact VLe.nil _ _ | exact VLe.full _ _ | (refine VLe.agg' ?_; repeat (first | exact VLeL.nil | refine VLeL.cons (by first | exact VLe.refl _ | exact VLe.any _ | exact VLe.nil _ _) ?_))) ?_)
  · rintro σ0 σ hw ⟨k, hk, x1, L, hA, h, rfl⟩
    rcases k with _ | n
    · simp [go_internal_stringslite_Index_s47_J1] at h
    · rw [go_internal_stringslite_Index_s47_J1] at h
      refine sat_weak hw ?_
      repeat refine sat_seq ?_
      refine sat_cond rfl (fun hb => ?_) (fun hb => ?_)
      · have h := ite_t hb h
        repeat refine sat_seq ?_
        refine satO_reg ?_
        refine satO_step 1 [] ⟨.str a0 :: .str ([47]) :: an 2 (.int .i64 0 :: .int .i64 1 :: an 10 (.bool x1 :: an 126 [])), ⟨lv + 1, L, E⟩, [], E⟩ [] (by simp -implicitDefEqProofs []) claims_nil ?_
        refine satO_nil (by simp) ?_
        repeat refine sat_seq ?_
        refine sat_ret ?_
        refine ends (v := .int .i64 0) (by simp [resultsV, resL, resV, tupOf, Tryd.f35, pLoad]) rfl rfl ?_
        injection h with h
        subst h
        exact (.keep _ (by simp [V.kin, V.kinL]))
      · have h := ite_f hb h
        repeat refine sat_seq ?_
        refine satO_reg ?_
        refine satO_step 3 [] ⟨.str a0 :: .str ([47]) :: an 3 (.int .i64 1 :: an 10 (.bool x1 :: an 7 (.bool true :: .int .i64 1 :: .bool true :: an 116 []))), ⟨lv + 1, L, E⟩, [], E⟩ [] (by simp -implicitDefEqProofs []) claims_nil ?_
        refine satO_nil (by simp) ?_
        repeat refine sat_seq ?_
        refine sat_cond rfl (fun hb => ?_) (fun hb => by cases hb)
        repeat refine sat_seq ?_
        refine satO_reg ?_
        obtain ⟨y2, q3, h⟩ := bnd_hi h
        refine satO_step 5 [(.int .i64 y2, none)] ⟨.str a0 :: .str ([47]) :: an 2 (.int .i64 y2 :: .int .i64 1 :: an 10 (.bool x1 :: an 7 (.bool true :: .int .i64 1 :: .bool true :: .str a0 :: .str ([47]) :: .int .u8 ((47 : UInt8).toNat : Int) :: .int .i64 y2 :: an 112 []))), ⟨lv + 1, L, E⟩, [], E⟩ [⟨45, [.str a0, .int .u8 ((47 : UInt8).toNat : Int)], ⟨lv + 1, L, E⟩, .int .i64 y2, ⟨lv + 1, L, E⟩⟩] (by simp -implicitDefEqProofs []) (claims_cons (go_internal_stringslite_IndexByte_ok _ _ _ _ q3 _) claims_nil) ?_
        refine satO_nil (by simp) ?_
        repeat refine sat_seq ?_
        refine sat_ret ?_
        refine ends (v := .int .i64 y2) (by simp [resultsV, resL, resV, tupOf, Tryd.f35, pLoad]) rfl rfl ?_
        injection h with h
        subst h
        exact (.keep _ (by simp [V.kin, V.kinL]))
end Go.Proofs

namespace Go.Proofs
open Go Go.Ab
set_option maxRecDepth 10000
set_option maxHeartbeats 1000000
set_option linter.unusedSimpArgs false
set_option linter.unusedVariables false
theorem go_internal_stringslite_Cut_s47_ok (n : Nat) (a0 : List UInt8) (r : (List UInt8) × (List UInt8) × Bool) (h : go_internal_stringslite_Cut_s47 n a0 = some r) : PCall Tryd.prog 19 [.str a0, .str ([47])] (.tup [.str r.1, .str r.2.1, .bool r.2.2]) := by
  rw [go_internal_stringslite_Cut_s47] at h
  refine pcall_of Tryd.func19 rfl Tryd.ntmps19 (fun _ _ => Tryd.call19 _ _) fun lv E => ?_
  simp only [List.length_cons, List.length_nil, Nat.reduceAdd, Nat.reduceSub, List.replicate, List.cons_append, List.nil_append]
  have hA := AccG.nil (lv + 1)
  generalize ([] : List (Option AObj)) = L at hA ⊢
  repeat refine sat_seq ?_
  refine satO_reg ?_
  refine satO_step 3 [] ⟨.str a0 :: .str ([47]) :: an 2 (.str ([]) :: .str ([]) :: .bool false :: an 16 []), ⟨lv + 1, L, E⟩, [], E⟩ [] (by simp -implicitDefEqProofs []) claims_nil ?_
  refine satO_nil (by simp) ?_
  repeat refine sat_seq ?_
  refine satO_reg ?_
  obtain ⟨y1, q2, h⟩ := bnd_hi h
  refine satO_step 4 [(.int .i64 y1, none)] ⟨.str a0 :: .str ([47]) :: an 2 (.str ([]) :: .str ([]) :: .bool false :: .int .i64 y1 :: .str a0 :: .str ([47]) :: .int .i64 y1 :: an 12 []), ⟨lv + 1, L, E⟩, [], E⟩ [⟨35, [.str a0, .str ([47])], ⟨lv + 1, L, E⟩, .int .i64 y1, ⟨lv + 1, L, E⟩⟩] (by simp -implicitDefEqProofs []) (claims_cons (go_internal_stringslite_Index_s47_ok _ _ _ q2 _) claims_nil) ?_
  refine satO_nil (by simp) ?_
  repeat refine sat_seq ?_
  refine satO_reg ?_
  refine satO_step 2 [] ⟨.str a0 :: .str ([47]) :: an 2 (.str ([]) :: .str ([]) :: .bool false :: .int .i64 y1 :: .str a0 :: .str ([47]) :: .int .i64 y1 :: .int .i64 y1 :: .bool (decide (0 ≤ y1)) :: an 10 []), ⟨lv + 1, L, E⟩, [], E⟩ [] (by simp -implicitDefEqProofs []) claims_nil ?_
  refine satO_nil (by simp) ?_
  repeat refine sat_seq ?_
  refine sat_cond rfl (fun hb => ?_) (fun hb => ?_)
  · have h := ite_t hb h
    repeat refine sat_seq ?_
    obtain ⟨x3, q4, h⟩ := bnd_hi h
    obtain ⟨q4, q5, q6, q7, q8, q9⟩ := sub_some q4
    have q10 := q5
    try simp only [Int.ofNat_le] at q10
    obtain ⟨x11, q12, h⟩ := bnd_hi h
    obtain ⟨q12, q13, q14, q15, q16, q17⟩ := sub_some q12
    have q18 := q13
    try simp only [Int.ofNat_le] at q18
    refine satO_drw (by kernel_rfl) (by kernel_rfl) [] ⟨.str a0 :: .str ([47]) :: an 2 (.str x3 :: .str x11 :: .bool true :: .int .i64 y1 :: .str a0 :: .str ([47]) :: .int .i64 y1 :: .int .i64 y1 :: .bool (decide (0 ≤ y1)) :: .str a0 :: .int .i64 y1 :: .str x3 :: .str a0 :: .int .i64 y1 :: .str ([47]) :: .int .i64 1 :: .int .i64 (IntKind.i64.wrap (y1 + 1)) :: .str x11 :: an 1 []), ⟨lv + 1, L, E⟩, [], E⟩ [] (by simp -implicitDefEqProofs [q4, q5, q6, q7, q8, q9, q10, List.map_take, List.map_drop, Int.max_eq_left, q12, q13, q14, q15, q16, q17, q18, List.map_take, List.map_drop, Int.max_eq_left]) claims_nil ?_
    repeat refine sat_seq ?_
    refine sat_ret ?_
    refine ends (v := .tup [.str x3, .str x11, .bool true]) (by simp [resultsV, resL, resV, tupOf, Tryd.f19, pLoad]) rfl rfl ?_
    injection h with h
    subst h
    exact .keep _ (by simp [V.kin, V.kinL])
  · have h := ite_f hb h
    repeat refine sat_seq ?_
    refine sat_skip ?_
    repeat refine sat_seq ?_
    refine satO_reg ?_
    refine satO_step 4 [] ⟨.str a0 :: .str ([47]) :: an 2 (.str a0 :: .str ([]) :: .bool false :: .int .i64 y1 :: .str a0 :: .str ([47]) :: .int .i64 y1 :: .int .i64 y1 :: .bool (decide (0 ≤ y1)) :: an 9 (.str a0 :: [])), ⟨lv + 1, L, E⟩, [], E⟩ [] (by simp -implicitDefEqProofs []) claims_nil ?_
    refine satO_nil (by simp) ?_
    repeat refine sat_seq ?_
    refine sat_ret ?_
    refine ends (v := .tup [.str a0, .str ([]), .bool false]) (by simp [resultsV, resL, resV, tupOf, Tryd.f19, pLoad]) rfl rfl ?_
    injection h with h
    subst h
    exact .keep _ (by simp [V.kin, V.kinL])
end Go.Proofs

namespace Go.Proofs
open Go Go.Ab
set_option maxRecDepth 10000
set_option maxHeartbeats 1000000
set_option linter.unusedSimpArgs false
set_option linter.unusedVariables false
theorem go_strings_Cut_s47_ok (n : Nat) (a0 : List UInt8) (r : (List UInt8) × (List UInt8) × Bool) (h : go_strings_Cut_s47 n a0 = some r) : PCall Tryd.prog 11 [.str a0, .str ([47])] (.tup [.str r.1, .str r.2.1, .bool r.2.2]) := by
  rw [go_strings_Cut_s47] at h
  refine pcall_of Tryd.func11 rfl Tryd.ntmps11 (fun _ _ => Tryd.call11 _ _) fun lv E => ?_
  simp only [List.length_cons, List.length_nil, Nat.reduceAdd, Nat.reduceSub, List.replicate, List.cons_append, List.nil_append]
  have hA := AccG.nil (lv + 1)
  generalize ([] : List (Option AObj)) = L at hA ⊢
  repeat refine sat_seq ?_
  refine satO_reg ?_
  refine satO_step 3 [] ⟨.str a0 :: .str ([47]) :: an 2 (.str ([]) :: .str ([]) :: .bool false :: an 6 []), ⟨lv + 1, L, E⟩, [], E⟩ [] (by simp -implicitDefEqProofs []) claims_nil ?_
  refine satO_nil (by simp) ?_
  repeat refine sat_seq ?_
  refine satO_reg ?_
  obtain ⟨y1, q2, h⟩ := bnd_hi h
  refine satO_step 9 [(.tup [.str y1.1, .str y1.2.1, .bool y1.2.2], none)] ⟨.str a0 :: .str ([47]) :: an 2 (.str y1.1 :: .str y1.2.1 :: .bool y1.2.2 :: .str a0 :: .str ([47]) :: .tup [.str y1.1, .str y1.2.1, .bool y1.2.2] :: .str y1.1 :: .str y1.2.1 :: .bool y1.2.2 :: []), ⟨lv + 1, L, E⟩, [], E⟩ [⟨19, [.str a0, .str ([47])], ⟨lv + 1, L, E⟩, .tup [.str y1.1, .str y1.2.1, .bool y1.2.2], ⟨lv + 1, L, E⟩⟩] (by simp -implicitDefEqProofs []) (claims_cons (go_internal_stringslite_Cut_s47_ok _ _ _ q2 _) claims_nil) ?_
  refine satO_nil (by simp) ?_
  repeat refine sat_seq ?_
  refine sat_ret ?_
  refine ends (v := .tup [.str y1.1, .str y1.2.1, .bool y1.2.2]) (by simp [resultsV, resL, resV, tupOf, Tryd.f11, pLoad]) rfl rfl ?_
  injection h with h
  subst h
  exact .keep _ (by simp [V.kin, V.kinL])
end Go.Proofs

namespace Go.Proofs
open Go Go.Ab
set_option maxRecDepth 10000
set_option maxHeartbeats 1000000
set_option linter.unusedSimpArgs false
set_option linter.unusedVariables false
theorem go_internal_stringslite_Index_s91_ok (n : Nat) (a0 : List UInt8) (r : Int) (h : go_internal_stringslite_Index_s91 n a0 = some r) : PCall Tryd.prog 35 [.str a0, .str ([91])] (.int .i64 r) := by
  rcases n with _ | n
  · simp [go_internal_stringslite_Index_s91] at h
  rw [go_internal_stringslite_Index_s91] at h
  refine pcall_of Tryd.func35 rfl Tryd.ntmps35 (fun _ _ => Tryd.call35 _ _) fun lv E => ?_
  simp only [List.length_cons, List.length_nil, Nat.reduceAdd, Nat.reduceSub, List.replicate, List.cons_append, List.nil_append]
  have hA := AccG.nil (lv + 1)
  generalize ([] : List (Option AObj)) = L at hA ⊢
  repeat refine sat_seq ?_
  refine satO_reg ?_
  refine satO_step 1 [] ⟨.str a0 :: .str ([91]) :: an 2 (.int .i64 0 :: an 138 []), ⟨lv + 1, L, E⟩, [], E⟩ [] (by simp -implicitDefEqProofs []) claims_nil ?_
  refine satO_nil (by simp) ?_
  repeat refine sat_seq ?_
  refine satO_reg ?_
  refine satO_step 3 [] ⟨.str a0 :: .str ([91]) :: an 2 (.int .i64 0 :: .int .i64 1 :: an 8 (.str ([91]) :: .int .i64 1 :: an 127 [])), ⟨lv + 1, L, E⟩, [], E⟩ [] (by simp -implicitDefEqProofs []) claims_nil ?_
  refine satO_nil (by simp) ?_
  repeat refine sat_seq ?_
  refine sat_block ?_
  repeat refine sat_seq ?_
  refine sat_meet (fun σ => ∃ (k : Nat), k ≤ n ∧ ∃ (x1 : Bool) (L : List (Option AObj)), AccG (lv + 1) L [] [] ∧ go_internal_stringslite_Index_s91_J1 k a0 x1 = some r ∧ σ = ⟨.str a0 :: .str ([91]) :: an 3 (.int .i64 1 :: an 10 (.bool x1 :: an 126 [])), ⟨lv + 1, L, E⟩, [], E⟩) ?_ ?_
  · refine satO_reg ?_
    refine satO_step 8 [] ⟨.str a0 :: .str ([91]) :: an 2 (.int .i64 0 :: .int .i64 1 :: an 8 (.str ([91]) :: .int .i64 1 :: .bool (([91]) == a0) :: .int .i64 1 :: .bool false :: .bool false :: .str ([91]) :: .str a0 :: .bool (([91]) == a0) :: .bool (([91]) == a0) :: an 119 [])), ⟨lv + 1, L, E⟩, [], E⟩ [] (by simp -implicitDefEqProofs []) claims_nil ?_
    refine satO_nil (by simp) ?_
    refine ⟨⟨.str a0 :: .str ([91]) :: an 3 (.int .i64 1 :: an 10 (.bool (([91]) == a0) :: an 126 [])), ⟨lv + 1, L, E⟩, [], E⟩, weak_tmps ?_, n, by omega, (([91]) == a0), L, hA, h, rfl⟩
    (try simp only [an, List.map_cons, List.map_nil]); repeat (first | exact VLeL.nil | refine VLeL.cons (by first | exact VLe.refl _ | exact VLe.any _ | exact VLe.nil _ _ | exact VLe.full _ _ | (refine VLe.agg' ?_; repeat (first | exact VLeL.nil | refine VLeL.cons (by first | exact VLe.refl _ | exact VLe.any _ | exact VLe.nil _ _) ?_))) ?_)
  · rintro σ0 σ hw ⟨k, hk, x1, L, hA, h, rfl⟩
    rcases k with _ | n
    · simp [go_internal_stringslite_Index_s91_J1] at h
    · rw [go_internal_stringslite_Index_s91_J1] at h
      refine sat_weak hw ?_
      repeat refine sat_seq ?_
      refine sat_cond rfl (fun hb => ?_) (fun hb => ?_)
      · have h := ite_t hb h
        repeat refine sat_seq ?_
        refine satO_reg ?_
        refine satO_step 1 [] ⟨.str a0 :: .str ([91]) :: an 2 (.int .i64 0 :: .int .i64 1 :: an 10 (.bool x1 :: an 126 [])), ⟨lv + 1, L, E⟩, [], E⟩ [] (by simp -implicitDefEqProofs []) claims_nil ?_
        refine satO_nil (by simp) ?_
        repeat refine sat_seq ?_
        refine sat_ret ?_
        refine ends (v := .int .i64 0) (by simp [resultsV, resL, resV, tupOf, Tryd.f35, pLoad]) rfl rfl ?_
        injection h with h
        subst h
        exact (.keep _ (by simp [V.kin, V.kinL]))
      · have h := ite_f hb h
        repeat refine sat_seq ?_
        refine satO_reg ?_
        refine satO_step 3 [] ⟨.str a0 :: .str ([91]) :: an 3 (.int .i64 1 :: an 10 (.bool x1 :: an 7 (.bool true :: .int .i64 1 :: .bool true :: an 116 []))), ⟨lv + 1, L, E⟩, [], E⟩ [] (by simp -implicitDefEqProofs []) claims_nil ?_
        refine satO_nil (by simp) ?_
        repeat refine sat_seq ?_
        refine sat_cond rfl (fun hb => ?_) (fun hb => by cases hb)
        repeat refine sat_seq ?_
        refine satO_reg ?_
        obtain ⟨y2, q3, h⟩ := bnd_hi h
        refine satO_step 5 [(.int .i64 y2, none)] ⟨.str a0 :: .str ([91]) :: an 2 (.int .i64 y2 :: .int .i64 1 :: an 10 (.bool x1 :: an 7 (.bool true :: .int .i64 1 :: .bool true :: .str a0 :: .str ([91]) :: .int .u8 ((91 : UInt8).toNat : Int) :: .int .i64 y2 :: an 112 []))), ⟨lv + 1, L, E⟩, [], E⟩ [⟨45, [.str a0, .int .u8 ((91 : UInt8).toNat : Int)], ⟨lv + 1, L, E⟩, .int .i64 y2, ⟨lv + 1, L, E⟩⟩] (by simp -implicitDefEqProofs []) (claims_cons (go_internal_stringslite_IndexByte_ok _ _ _ _ q3 _) claims_nil) ?_
        refine satO_nil (by simp) ?_
        repeat refine sat_seq ?_
        refine sat_ret ?_
        refine ends (v := .int .i64 y2) (by simp [resultsV, resL, resV, tupOf, Tryd.f35, pLoad]) rfl rfl ?_
        injection h with h
        subst h
        exact (.keep _ (by simp [V.kin, V.kinL]))
end Go.Proofs

namespace Go.Proofs
open Go Go.Ab
set_option maxRecDepth 10000
set_option maxHeartbeats 1000000
set_option linter.unusedSimpArgs false
set_option linter.unusedVariables false
theorem go_internal_stringslite_Cut_s91_ok (n : Nat) (a0 : List UInt8) (r : (List UInt8) × (List UInt8) × Bool) (h : go_internal_stringslite_Cut_s91 n a0 = some r) : PCall Tryd.prog 19 [.str a0, .str ([91])] (.tup [.str r.1, .str r.2.1, .bool r.2.2]) := by
  rw [go_internal_stringslite_Cut_s91] at h
  refine pcall_of Tryd.func19 rfl Tryd.ntmps19 (fun _ _ => Tryd.call19 _ _) fun lv E => ?_
  simp only [List.length_cons, List.length_nil, Nat.reduceAdd, Nat.reduceSub, List.replicate, List.cons_append, List.nil_append]
  have hA := AccG.nil (lv + 1)
  generalize ([] : List (Option AObj)) = L at hA ⊢
  repeat refine sat_seq ?_
  refine satO_reg ?_
  refine satO_step 3 [] ⟨.str a0 :: .str ([91]) :: an 2 (.str ([]) :: .str ([]) :: .bool false :: an 16 []), ⟨lv + 1, L, E⟩, [], E⟩ [] (by simp -implicitDefEqProofs []) claims_nil ?_
  refine satO_nil (by simp) ?_
  repeat refine sat_seq ?_
  refine satO_reg ?_
  obtain ⟨y1, q2, h⟩ := bnd_hi h
  refine satO_step 4 [(.int .i64 y1, none)] ⟨.str a0 :: .str ([91]) :: an 2 (.str ([]) :: .str ([]) :: .bool false :: .int .i64 y1 :: .str a0 :: .str ([91]) :: .int .i64 y1 :: an 12 []), ⟨lv + 1, L, E⟩, [], E⟩ [⟨35, [.str a0, .str ([91])], ⟨lv + 1, L, E⟩, .int .i64 y1, ⟨lv + 1, L, E⟩⟩] (by simp -implicitDefEqProofs []) (claims_cons (go_internal_stringslite_Index_s91_ok _ _ _ q2 _) claims_nil) ?_
  refine satO_nil (by simp) ?_
  repeat refine sat_seq ?_
  refine satO_reg ?_
  refine satO_step 2 [] ⟨.str a0 :: .str ([91]) :: an 2 (.str ([]) :: .str ([]) :: .bool false :: .int .i64 y1 :: .str a0 :: .str ([91]) :: .int .i64 y1 :: .int .i64 y1 :: .bool (decide (0 ≤ y1)) :: an 10 []), ⟨lv + 1, L, E⟩, [], E⟩ [] (by simp -implicitDefEqProofs []) claims_nil ?_
  refine satO_nil (by simp) ?_
  repeat refine sat_seq ?_
  refine sat_cond rfl (fun hb => ?_) (fun hb => ?_)
  · have h := ite_t hb h
    repeat refine sat_seq ?_
    obtain ⟨x3, q4, h⟩ := bnd_hi h
    obtain ⟨q4, q5, q6, q7, q8, q9⟩ := sub_some q4
    have q10 := q5
    try simp only [Int.ofNat_le] at q10
    obtain ⟨x11, q12, h⟩ := bnd_hi h
    obtain ⟨q12, q13, q14, q15, q16, q17⟩ := sub_some q12
    have q18 := q13
    try simp only [Int.ofNat_le] at q18
    refine satO_drw (by kernel_rfl) (by kernel_rfl) [] ⟨.str a0 :: .str ([91]) :: an 2 (.str x3 :: .str x11 :: .bool true :: .int .i64 y1 :: .str a0 :: .str ([91]) :: .int .i64 y1 :: .int .i64 y1 :: .bool (decide (0 ≤ y1)) :: .str a0 :: .int .i64 y1 :: .str x3 :: .str a0 :: .int .i64 y1 :: .str ([91]) :: .int .i64 1 :: .int .i64 (IntKind.i64.wrap (y1 + 1)) :: .str x11 :: an 1 []), ⟨lv + 1, L, E⟩, [], E⟩ [] (by simp -implicitDefEqProofs [q4, q5, q6, q7, q8, q9, q10, List.map_take, List.map_drop, Int.max_eq_left, q12, q13, q14, q15, q16, q17, q18, List.map_take, List.map_drop, Int.max_eq_left]) claims_nil ?_
    repeat refine sat_seq ?_
    refine sat_ret ?_
    refine ends (v := .tup [.str x3, .str x11, .bool true]) (by simp [resultsV, resL, resV, tupOf, Tryd.f19, pLoad]) rfl rfl ?_
    injection h with h
    subst h
    exact .keep _ (by simp [V.kin, V.kinL])
  · have h := ite_f hb h
    repeat refine sat_seq ?_
    refine sat_skip ?_
    repeat refine sat_seq ?_
    refine satO_reg ?_
    refine satO_step 4 [] ⟨.str a0 :: .str ([91]) :: an 2 (.str a0 :: .str ([]) :: .bool false :: .int .i64 y1 :: .str a0 :: .str ([91]) :: .int .i64 y1 :: .int .i64 y1 :: .bool (decide (0 ≤ y1)) :: an 9 (.str a0 :: [])), ⟨lv + 1, L, E⟩, [], E⟩ [] (by simp -implicitDefEqProofs []) claims_nil ?_
    refine satO_nil (by simp) ?_
    repeat refine sat_seq ?_
    refine sat_ret ?_
    refine ends (v := .tup [.str a0, .str ([]), .bool false]) (by simp [resultsV, resL, resV, tupOf, Tryd.f19, pLoad]) rfl rfl ?_
    injection h with h
    subst h
    exact .keep _ (by simp [V.kin, V.kinL])
end Go.Proofs

namespace Go.Proofs
open Go Go.Ab
set_option maxRecDepth 10000
set_option maxHeartbeats 1000000
set_option linter.unusedSimpArgs false
set_option linter.unusedVariables false
theorem go_strings_Cut_s91_ok (n : Nat) (a0 : List UInt8) (r : (List UInt8) × (List UInt8) × Bool) (h : go_strings_Cut_s91 n a0 = some r) : PCall Tryd.prog 11 [.str a0, .str ([91])] (.tup [.str r.1, .str r.2.1, .bool r.2.2]) := by
  rw [go_strings_Cut_s91] at h
  refine pcall_of Tryd.func11 rfl Tryd.ntmps11 (fun _ _ => Tryd.call11 _ _) fun lv E => ?_
  simp only [List.length_cons, List.length_nil, Nat.reduceAdd, Nat.reduceSub, List.replicate, List.cons_append, List.nil_append]
  have hA := AccG.nil (lv + 1)
  generalize ([] : List (Option AObj)) = L at hA ⊢
  repeat refine sat_seq ?_
  refine satO_reg ?_
  refine satO_step 3 [] ⟨.str a0 :: .str ([91]) :: an 2 (.str ([]) :: .str ([]) :: .bool false :: an 6 []), ⟨lv + 1, L, E⟩, [], E⟩ [] (by simp -implicitDefEqProofs []) claims_nil ?_
  refine satO_nil (by simp) ?_
  repeat refine sat_seq ?_
  refine satO_reg ?_
  obtain ⟨y1, q2, h⟩ := bnd_hi h
  refine satO_step 9 [(.tup [.str y1.1, .str y1.2.1, .bool y1.2.2], none)] ⟨.str a0 :: .str ([91]) :: an 2 (.str y1.1 :: .str y1.2.1 :: .bool y1.2.2 :: .str a0 :: .str ([91]) :: .tup [.str y1.1, .str y1.2.1, .bool y1.2.2] :: .str y1.1 :: .str y1.2.1 :: .bool y1.2.2 :: []), ⟨lv + 1, L, E⟩, [], E⟩ [⟨19, [.str a0, .str ([91])], ⟨lv + 1, L, E⟩, .tup [.str y1.1, .str y1.2.1, .bool y1.2.2], ⟨lv + 1, L, E⟩⟩] (by simp -implicitDefEqProofs []) (claims_cons (go_internal_stringslite_Cut_s91_ok _ _ _ q2 _) claims_nil) ?_
  refine satO_nil (by simp) ?_
  repeat refine sat_seq ?_
  refine sat_ret ?_
  refine ends (v := .tup [.str y1.1, .str y1.2.1, .bool y1.2.2]) (by simp [resultsV, resL, resV, tupOf, Tryd.f11, pLoad]) rfl rfl ?_
  injection h with h
  subst h
  exact .keep _ (by simp [V.kin, V.kinL])
end Go.Proofs

namespace Go.Proofs
open Go Go.Ab
set_option maxRecDepth 10000
set_option maxHeartbeats 1000000
set_option linter.unusedSimpArgs false
set_option linter.unusedVariables false
theorem go_label_Name_ok (n : Nat) (a0 : List UInt8) (r : Bool) (h : go_label_Name n a0 = some r) : PCall Tryd.prog 9 [.str a0] (.bool r) := by
  rcases n with _ | n
  · simp [go_label_Name] at h
  rw [go_label_Name] at h
  refine pcall_of Tryd.func9 rfl Tryd.ntmps9 (fun _ _ => Tryd.call9 _ _) fun lv E => ?_
  simp only [List.length_cons, List.length_nil, Nat.reduceAdd, Nat.reduceSub, List.replicate, List.cons_append, List.nil_append]
  have hA := AccG.nil (lv + 1)
  generalize ([] : List (Option AObj)) = L at hA ⊢
  repeat refine sat_seq ?_
  refine satO_reg ?_
  refine satO_step 1 [] ⟨.str a0 :: an 1 (.bool false :: an 41 []), ⟨lv + 1, L, E⟩, [], E⟩ [] (by simp -implicitDefEqProofs []) claims_nil ?_
  refine satO_nil (by simp) ?_
  repeat refine sat_seq ?_
  refine sat_meet (fun σ => ∃ (k : Nat), k ≤ n ∧ ∃ (x1 : Bool) (L : List (Option AObj)), AccG (lv + 1) L [] [] ∧ go_label_Name_J1 k a0 x1 = some r ∧ σ = ⟨.str a0 :: an 12 (.bool x1 :: an 30 []), ⟨lv + 1, L, E⟩, [], E⟩) ?_ ?_
  · refine satO_reg ?_
    rcases Bool.eq_false_or_eq_true ((a0.length : Int) == 0) with hg2 | hg3
    · have h := ite_t hg2 h
      have hg2n := hg2
      try simp at hg2n
      refine satO_step 8 [] ⟨.str a0 :: an 1 (.bool false :: an 3 (.str a0 :: .int .i64 (a0.length : Int) :: .bool ((a0.length : Int) == 0) :: .bool ((a0.length : Int) == 0) :: .tup [] :: .tup [] :: .tup [] :: .bool true :: an 30 [])), ⟨lv + 1, L, E⟩, [], E⟩ [] (by first | (simp -implicitDefEqProofs [hg2]; done) | simp -implicitDefEqProofs [hg2, hg2n]) claims_nil ?_
      refine satO_nil (by simp) ?_
      refine ⟨⟨.str a0 :: an 12 (.bool true :: an 30 []), ⟨lv + 1, L, E⟩, [], E⟩, weak_tmps ?_, n, by omega, true, L, hA, h, rfl⟩
      (try simp only [an, List.map_cons, List.map_nil]); repeat (first | exact VLeL.nil | refine VLeL.cons (by first | exact VLe.refl _ | exact VLe.any _ | exact VLe.nil _ _ | exact VLe.full _ _ | (refine VLe.agg' ?_; repeat (first | exact VLeL.nil | refine VLeL.cons (by first | exact VLe.refl _ | exact VLe.any _ | exact VLe.nil _ _) ?_))) ?_)
    · have h := ite_f hg3 h
      have hg3n := hg3
      try simp at hg3n
      refine satO_step 8 [] ⟨.str a0 :: an 1 (.bool false :: an 3 (.str a0 :: .int .i64 (a0.length : Int) :: .bool ((a0.length : Int) == 0) :: .bool ((a0.length : Int) == 0) :: .str a0 :: .int .i64 (a0.length : Int) :: .bool (decide (40 < (a0.length : Int))) :: .bool (decide (40 < (a0.length : Int))) :: an 30 [])), ⟨lv + 1, L, E⟩, [], E⟩ [] (by first | (simp -implicitDefEqProofs [hg3]; done) | simp -implicitDefEqProofs [hg3, hg3n]) claims_nil ?_
      refine satO_nil (by simp) ?_
      refine ⟨⟨.str a0 :: an 12 (.bool (decide (40 < (a0.length : Int))) :: an 30 []), ⟨lv + 1, L, E⟩, [], E⟩, weak_tmps ?_, n, by omega, (decide (40 < (a0.length : Int))), L, hA, h, rfl⟩
      (try simp only [an, List.map_cons, List.map_nil]); repeat (first | exact VLeL.nil | refine VLeL.cons (by first | exact VLe.refl _ | exact VLe.any _ | exact VLe.nil _ _ | exact VLe.full _ _ | (refine VLe.agg' ?_; repeat (first | exact VLeL.nil | refine VLeL.cons (by first | exact VLe.refl _ | exact VLe.any _ | exact VLe.nil _ _) ?_))) ?_)
  · rintro σ0 σ hw ⟨k, hk, x1, L, hA, h, rfl⟩
    rcases k with _ | n
    · simp [go_label_Name_J1] at h
    · rw [go_label_Name_J1] at h
      refine sat_weak hw ?_
      repeat refine sat_seq ?_
      refine sat_cond rfl (fun hb => ?_) (fun hb => ?_)
      · have h := ite_t hb h
        repeat refine sat_seq ?_
        refine satO_reg ?_
        refine satO_step 1 [] ⟨.str a0 :: an 1 (.bool false :: an 10 (.bool x1 :: an 30 [])), ⟨lv + 1, L, E⟩, [], E⟩ [] (by simp -implicitDefEqProofs []) claims_nil ?_
        refine satO_nil (by simp) ?_
        repeat refine sat_seq ?_
        refine sat_ret ?_
        refine ends (v := .bool false) (by simp [resultsV, resL, resV, tupOf, Tryd.f9, pLoad]) rfl rfl ?_
        injection h with h
        subst h
        exact (.keep _ (by simp [V.kin, V.kinL]))
      · have h := ite_f hb h
        repeat refine sat_seq ?_
        refine sat_skip ?_
        repeat refine sat_seq ?_
        refine satO_reg ?_
        refine satO_step 1 [] ⟨.str a0 :: an 12 (.bool x1 :: .str a0 :: an 29 []), ⟨lv + 1, L, E⟩, [], E⟩ [] (by simp -implicitDefEqProofs []) claims_nil ?_
        refine satO_step 1 [] ⟨.str a0 :: an 12 (.bool x1 :: .str a0 :: .ptr (lv + 1) L.length 0 :: an 28 []), ⟨lv + 1, (L ++ [some (.siter a0 0)]), E⟩, [], E⟩ [] (by simp -implicitDefEqProofs []) claims_nil ?_
        have hA : AccG (lv + 1) (L ++ [some (.siter a0 0)]) [] [(L.length, .siter a0 0)] := hA.obj _
        generalize L.length = i5 at hA ⊢
        generalize (L ++ [some (.siter a0 0)]) = L at hA ⊢
        refine satO_nil (by simp) ?_
        repeat refine sat_seq ?_
        refine sat_block ?_
        repeat refine sat_seq ?_
        refine sat_loop (fun k σ => ∃ (x6 : Nat) (L : List (Option AObj)), k ≤ n ∧ AccG (lv + 1) L [] [(i5, .siter a0 x6)] ∧ go_label_Name_L1 k a0 x6 = some r ∧ σ = ⟨an 15 (.ptr (lv + 1) i5 0 :: an 28 []), ⟨lv + 1, L, E⟩, [], E⟩) n ⟨an 15 (.ptr (lv + 1) i5 0 :: an 28 []), ⟨lv + 1, L, E⟩, [], E⟩ (weak_tmps ?_) ⟨0, L, Nat.le_refl _, hA, h, rfl⟩ ?_
        · (try simp only [an, List.map_cons, List.map_nil]); repeat (first | exact VLeL.nil | refine VLeL.cons (by first | exact VLe.refl _ | exact VLe.any _ | exact VLe.nil _ _ | exact VLe.full _ _ | (refine VLe.agg' ?_; repeat (first | exact VLeL.nil | refine VLeL.cons (by first | exact VLe.refl _ | exact VLe.any _ | exact VLe.nil _ _) ?_))) ?_)
        · rintro k σ ⟨x6, L, hk, hA, h, rfl⟩
          rcases k with _ | n
          · simp [go_label_Name_L1] at h
          · rw [go_label_Name_L1] at h
            repeat refine sat_seq ?_
            refine satO_reg ?_
            have g0 := hA.get (k := 0) rfl
            rcases Bool.eq_false_or_eq_true (decide (x6 < a0.length)) with hg7 | hg7
            · have h := ite_t hg7 h
              refine satO_step 1 [] ⟨an 15 (.ptr (lv + 1) i5 0 :: .tup [.bool true, .int .i64 ((x6 : Nat) : Int), .int .i32 ((decL a0 x6).1 : Int)] :: an 27 []), ⟨lv + 1, (L.set i5 (some (.siter a0 (x6 + (decL a0 x6).2)))), E⟩, [], E⟩ [] (by simp -implicitDefEqProofs [g0, hg7, of_decide_eq_true hg7]) claims_nil ?_
              have hA : AccG (lv + 1) (L.set i5 (some (.siter a0 (x6 + (decL a0 x6).2)))) [] [(i5, .siter a0 (x6 + (decL a0 x6).2))] := hA.upd (k := 0) rfl _
              generalize (L.set i5 (some (.siter a0 (x6 + (decL a0 x6).2)))) = L at hA ⊢
              have g0 := hA.get (k := 0) rfl
              refine satO_step 1 [] ⟨an 15 (.ptr (lv + 1) i5 0 :: .tup [.bool true, .int .i64 ((x6 : Nat) : Int), .int .i32 ((decL a0 x6).1 : Int)] :: .bool true :: an 26 []), ⟨lv + 1, L, E⟩, [], E⟩ [] (by simp -implicitDefEqProofs [g0]) claims_nil ?_
              refine satO_nil (by simp) ?_
              repeat refine sat_seq ?_
              refine sat_cond rfl (fun hb => ?_) (fun hb => by cases hb)
              repeat refine sat_seq ?_
              refine sat_skip ?_
              repeat refine sat_seq ?_
              refine sat_block ?_
              repeat refine sat_seq ?_
              refine satO_reg ?_
              have g0 := hA.get (k := 0) rfl
              refine satO_step 4 [] ⟨an 3 (.int .i64 ((x6 : Nat) : Int) :: .int .i32 ((decL a0 x6).1 : Int) :: an 10 (.ptr (lv + 1) i5 0 :: .tup [.bool true, .int .i64 ((x6 : Nat) : Int), .int .i32 ((decL a0 x6).1 : Int)] :: .bool true :: .int .i64 ((x6 : Nat) : Int) :: .int .i32 ((decL a0 x6).1 : Int) :: an 24 [])), ⟨lv + 1, L, E⟩, [], E⟩ [] (by simp -implicitDefEqProofs [g0]) claims_nil ?_
              refine satO_nil (by simp) ?_
              repeat refine sat_seq ?_
              refine sat_meet (fun σ => ∃ (k : Nat), k ≤ n ∧ ∃ (x8 : Bool) (L : List (Option AObj)), AccG (lv + 1) L [] [(i5, .siter a0 (x6 + (decL a0 x6).2))] ∧ go_label_Name_J2 k a0 x6 x8 = some r ∧ σ = ⟨an 3 (.int .i64 ((x6 : Nat) : Int) :: .int .i32 ((decL a0 x6).1 : Int) :: .bool x8 :: an 9 (.ptr (lv + 1) i5 0 :: an 28 [])), ⟨lv + 1, L, E⟩, [], E⟩) ?_ ?_
              · refine satO_reg ?_
                rcases Bool.eq_false_or_eq_true (decide (97 ≤ ((decL a0 x6).1 : Int))) with hg9 | hg10
                · have h := ite_t hg9 h
                  have hg9n := hg9
                  try simp at hg9n
                  have g0 := hA.get (k := 0) rfl
                  refine satO_step 7 [] ⟨an 3 (.int .i64 ((x6 : Nat) : Int) :: .int .i32 ((decL a0 x6).1 : Int) :: .bool (decide (((decL a0 x6).1 : Int) ≤ 122)) :: an 9 (.ptr (lv + 1) i5 0 :: .tup [.bool true, .int .i64 ((x6 : Nat) : Int), .int .i32 ((decL a0 x6).1 : Int)] :: .bool true :: .int .i64 ((x6 : Nat) : Int) :: .int .i32 ((decL a0 x6).1 : Int) :: .int .i32 ((decL a0 x6).1 : Int) :: .bool (decide (97 ≤ ((decL a0 x6).1 : Int))) :: .bool (decide (97 ≤ ((decL a0 x6).1 : Int))) :: .int .i32 ((decL a0 x6).1 : Int) :: .bool (decide (((decL a0 x6).1 : Int) ≤ 122)) :: .bool (decide (((decL a0 x6).1 : Int) ≤ 122)) :: an 18 [])), ⟨lv + 1, L, E⟩, [], E⟩ [] (by first | (simp -implicitDefEqProofs [g0, hg9]; done) | simp -implicitDefEqProofs [g0, hg9, hg9n]) claims_nil ?_
                  refine satO_nil (by simp) ?_
                  refine ⟨⟨an 3 (.int .i64 ((x6 : Nat) : Int) :: .int .i32 ((decL a0 x6).1 : Int) :: .bool (decide (((decL a0 x6).1 : Int) ≤ 122)) :: an 9 (.ptr (lv + 1) i5 0 :: an 28 [])), ⟨lv + 1, L, E⟩, [], E⟩, weak_tmps ?_, n, by omega, (decide (((decL a0 x6).1 : Int) ≤ 122)), L, hA, h, rfl⟩
                  (try simp only [an, List.map_cons, List.map_nil]); repeat (first | exact VLeL.nil | refine VLeL.cons (by first | exact VLe.refl _ | exact VLe.any _ | exact VLe.nil _ _ | exact VLe.full _ _ | (refine VLe.agg' ?_; repeat (first | exact VLeL.nil | refine VLeL.cons (by first | exact VLe.refl _ | exact VLe.any _ | exact VLe.nil _ _) ?_))) ?_)
                · have h := ite_f hg10 h
                  have hg10n := hg10
                  try simp at hg10n
                  have g0 := hA.get (k := 0) rfl
                  refine satO_step 7 [] ⟨an 3 (.int .i64 ((x6 : Nat) : Int) :: .int .i32 ((decL a0 x6).1 : Int) :: .bool false :: an 9 (.ptr (lv + 1) i5 0 :: .tup [.bool true, .int .i64 ((x6 : Nat) : Int), .int .i32 ((decL a0 x6).1 : Int)] :: .bool true :: .int .i64 ((x6 : Nat) : Int) :: .int .i32 ((decL a0 x6).1 : Int) :: .int .i32 ((decL a0 x6).1 : Int) :: .bool (decide (97 ≤ ((decL a0 x6).1 : Int))) :: .bool (decide (97 ≤ ((decL a0 x6).1 : Int))) :: .tup [] :: .tup [] :: .bool false :: an 18 [])), ⟨lv + 1, L, E⟩, [], E⟩ [] (by first | (simp -implicitDefEqProofs [g0, hg10]; done) | simp -implicitDefEqProofs [g0, hg10, hg10n]) claims_nil ?_
                  refine satO_nil (by simp) ?_
                  refine ⟨⟨an 3 (.int .i64 ((x6 : Nat) : Int) :: .int .i32 ((decL a0 x6).1 : Int) :: .bool false :: an 9 (.ptr (lv + 1) i5 0 :: an 28 [])), ⟨lv + 1, L, E⟩, [], E⟩, weak_tmps ?_, n, by omega, false, L, hA, h, rfl⟩
                  (try simp only [an, List.map_cons, List.map_nil]); repeat (first | exact VLeL.nil | refine VLeL.cons (by first | exact VLe.refl _ | exact VLe.any _ | exact VLe.nil _ _ | exact VLe.full _ _ | (refine VLe.agg' ?_; repeat (first | exact VLeL.nil | refine VLeL.cons (by first | exact VLe.refl _ | exact VLe.any _ | exact VLe.nil _ _) ?_))) ?_)
              · rintro σ0 σ hw ⟨k, hk, x8, L, hA, h, rfl⟩
                rcases k with _ | n
                · simp [go_label_Name_J2] at h
                · rw [go_label_Name_J2] at h
                  refine sat_weak hw ?_
                  repeat refine sat_seq ?_
                  refine sat_meet (fun σ => ∃ (k : Nat), k ≤ n ∧ ∃ (x11 : Bool) (L : List (Option AObj)), AccG (lv + 1) L [] [(i5, .siter a0 (x6 + (decL a0 x6).2))] ∧ go_label_Name_J3 k a0 x6 x11 = some r ∧ σ = ⟨an 15 (.ptr (lv + 1) i5 0 :: an 27 (.bool x11 :: [])), ⟨lv + 1, L, E⟩, [], E⟩) ?_ ?_
                  · refine satO_reg ?_
                    rcases Bool.eq_false_or_eq_true (!x8) with hg12 | hg19
                    · have h := ite_t hg12 h
                      have hg12n := hg12
                      try simp at hg12n
                      rcases Bool.eq_false_or_eq_true (((x6 : Nat) : Int) == 0) with hg13 | hg14
                      · have h := ite_t hg13 h
                        have hg13n := hg13
                        try simp at hg13n
                        have g0 := hA.get (k := 0) rfl
                        refine satO_step 18 [] ⟨an 3 (.int .i64 ((x6 : Nat) : Int) :: .int .i32 ((decL a0 x6).1 : Int) :: .bool x8 :: an 9 (.ptr (lv + 1) i5 0 :: an 10 (.bool x8 :: .bool (!x8) :: .bool (!x8) :: .int .i64 ((x6 : Nat) : Int) :: .bool (((x6 : Nat) : Int) == 0) :: .bool (((x6 : Nat) : Int) == 0) :: .tup [] :: .tup [] :: .tup [] :: .tup [] :: .tup [] :: .tup [] :: .tup [] :: .tup [] :: .tup [] :: .tup [] :: .bool true :: .bool true :: []))), ⟨lv + 1, L, E⟩, [], E⟩ [] (by first | (simp -implicitDefEqProofs [g0, hg12, hg13]; done) | simp -implicitDefEqProofs [g0, hg12, hg13, hg12n, hg13n]) claims_nil ?_
                        refine satO_nil (by simp) ?_
                        refine ⟨⟨an 15 (.ptr (lv + 1) i5 0 :: an 27 (.bool true :: [])), ⟨lv + 1, L, E⟩, [], E⟩, weak_tmps ?_, n, by omega, true, L, hA, h, rfl⟩
                        (try simp only [an, List.map_cons, List.map_nil]); repeat (first | exact VLeL.nil | refine VLeL.cons (by first | exact VLe.refl _ | exact VLe.any _ | exact VLe.nil _ _ | exact VLe.full _ _ | (refine VLe.agg' ?_; repeat (first | exact VLeL.nil | refine VLeL.cons (by first | exact VLe.refl _ | exact VLe.any _ | exact VLe.nil _ _) ?_))) ?_)
                      · have h := ite_f hg14 h
                        have hg14n := hg14
                        try simp at hg14n
                        rcases Bool.eq_false_or_eq_true (!(((decL a0 x6).1 : Int) == 45)) with hg15 | hg18
                        · have h := ite_t hg15 h
                          have hg15n := hg15
                          try simp at hg15n
                          rcases Bool.eq_false_or_eq_true (decide (((decL a0 x6).1 : Int) < 48)) with hg16 | hg17
                          · have h := ite_t hg16 h
                            have hg16n := hg16
                            try simp at hg16n
                            have g0 := hA.get (k := 0) rfl
                            refine satO_step 18 [] ⟨an 3 (.int .i64 ((x6 : Nat) : Int) :: .int .i32 ((decL a0 x6).1 : Int) :: .bool x8 :: an 9 (.ptr (lv + 1) i5 0 :: an 10 (.bool x8 :: .bool (!x8) :: .bool (!x8) :: .int .i64 ((x6 : Nat) : Int) :: .bool (((x6 : Nat) : Int) == 0) :: .bool (((x6 : Nat) : Int) == 0) :: .int .i32 ((decL a0 x6).1 : Int) :: .bool (!(((decL a0 x6).1 : Int) == 45)) :: .bool (!(((decL a0 x6).1 : Int) == 45)) :: .int .i32 ((decL a0 x6).1 : Int) :: .bool (decide (((decL a0 x6).1 : Int) < 48)) :: .bool (decide (((decL a0 x6).1 : Int) < 48)) :: .tup [] :: .tup [] :: .bool true :: .bool true :: .bool true :: .bool true :: []))), ⟨lv + 1, L, E⟩, [], E⟩ [] (by first | (simp -implicitDefEqProofs [g0, hg12, hg14, hg15, hg16]; done) | simp -implicitDefEqProofs [g0, hg12, hg14, hg15, hg16, hg12n, hg14n, hg15n, hg16n]) claims_nil ?_
                            refine satO_nil (by simp) ?_
                            refine ⟨⟨an 15 (.ptr (lv + 1) i5 0 :: an 27 (.bool true :: [])), ⟨lv + 1, L, E⟩, [], E⟩, weak_tmps ?_, n, by omega, true, L, hA, h, rfl⟩
                            (try simp only [an, List.map_cons, List.map_nil]); repeat (first | exact VLeL.nil | refine VLeL.cons (by first | exact VLe.refl _ | exact VLe.any _ | exact VLe.nil _ _ | exact VLe.full _ _ | (refine VLe.agg' ?_; repeat (first | exact VLeL.nil | refine VLeL.cons (by first | exact VLe.refl _ | exact VLe.any _ | exact VLe.nil _ _) ?_))) ?_)
                          · have h := ite_f hg17 h
                            have hg17n := hg17
                            try simp at hg17n
                            have g0 := hA.get (k := 0) rfl
                            refine satO_step 18 [] ⟨an 3 (.int .i64 ((x6 : Nat) : Int) :: .int .i32 ((decL a0 x6).1 : Int) :: .bool x8 :: an 9 (.ptr (lv + 1) i5 0 :: an 10 (.bool x8 :: .bool (!x8) :: .bool (!x8) :: .int .i64 ((x6 : Nat) : Int) :: .bool (((x6 : Nat) : Int) == 0) :: .bool (((x6 : Nat) : Int) == 0) :: .int .i32 ((decL a0 x6).1 : Int) :: .bool (!(((decL a0 x6).1 : Int) == 45)) :: .bool (!(((decL a0 x6).1 : Int) == 45)) :: .int .i32 ((decL a0 x6).1 : Int) :: .bool (decide (((decL a0 x6).1 : Int) < 48)) :: .bool (decide (((decL a0 x6).1 : Int) < 48)) :: .int .i32 ((decL a0 x6).1 : Int) :: .bool (decide (57 < ((decL a0 x6).1 : Int))) :: .bool (decide (57 < ((decL a0 x6).1 : Int))) :: .bool (decide (57 < ((decL a0 x6).1 : Int))) :: .bool (decide (57 < ((decL a0 x6).1 : Int))) :: .bool (decide (57 < ((decL a0 x6).1 : Int))) :: []))), ⟨lv + 1, L, E⟩, [], E⟩ [] (by first | (simp -implicitDefEqProofs [g0, hg12, hg14, hg15, hg17]; done) | simp -implicitDefEqProofs [g0, hg12, hg14, hg15, hg17, hg12n, hg14n, hg15n, hg17n]) claims_nil ?_
                            refine satO_nil (by simp) ?_
                            refine ⟨⟨an 15 (.ptr (lv + 1) i5 0 :: an 27 (.bool (decide (57 < ((decL a0 x6).1 : Int))) :: [])), ⟨lv + 1, L, E⟩, [], E⟩, weak_tmps ?_, n, by omega, (decide (57 < ((decL a0 x6).1 : Int))), L, hA, h, rfl⟩
                            (try simp only [an, List.map_cons, List.map_nil]); repeat (first | exact VLeL.nil | refine VLeL.cons (by first | exact VLe.refl _ | exact VLe.any _ | exact VLe.nil _ _ | exact VLe.full _ _ | (refine VLe.agg' ?_; repeat (first | exact VLeL.nil | refine VLeL.cons (by first | exact VLe.refl _ | exact VLe.any _ | exact VLe.nil _ _) ?_))) ?_)
                        · have h := ite_f hg18 h
                          have hg18n := hg18
                          try simp at hg18n
                          have g0 := hA.get (k := 0) rfl
                          refine satO_step 18 [] ⟨an 3 (.int .i64 ((x6 : Nat) : Int) :: .int .i32 ((decL a0 x6).1 : Int) :: .bool x8 :: an 9 (.ptr (lv + 1) i5 0 :: an 10 (.bool x8 :: .bool (!x8) :: .bool (!x8) :: .int .i64 ((x6 : Nat) : Int) :: .bool (((x6 : Nat) : Int) == 0) :: .bool (((x6 : Nat) : Int) == 0) :: .int .i32 ((decL a0 x6).1 : Int) :: .bool (!(((decL a0 x6).1 : Int) == 45)) :: .bool (!(((decL a0 x6).1 : Int) == 45)) :: .tup [] :: .tup [] :: .tup [] :: .tup [] :: .tup [] :: .tup [] :: .bool false :: .bool false :: .bool false :: []))), ⟨lv + 1, L, E⟩, [], E⟩ [] (by first | (simp -implicitDefEqProofs [g0, hg12, hg14, hg18]; done) | simp -implicitDefEqProofs [g0, hg12, hg14, hg18, hg12n, hg14n, hg18n]) claims_nil ?_
                          refine satO_nil (by simp) ?_
                          refine ⟨⟨an 15 (.ptr (lv + 1) i5 0 :: an 27 (.bool false :: [])), ⟨lv + 1, L, E⟩, [], E⟩, weak_tmps ?_, n, by omega, false, L, hA, h, rfl⟩
                          (try simp only [an, List.map_cons, List.map_nil]); repeat (first | exact VLeL.nil | refine VLeL.cons (by first | exact VLe.refl _ | exact VLe.any _ | exact VLe.nil _ _ | exact VLe.full _ _ | (refine VLe.agg' ?_; repeat (first | exact VLeL.nil | refine VLeL.cons (by first | exact VLe.refl _ | exact VLe.any _ | exact VLe.nil _ _) ?_))) ?_)
                    · have h := ite_f hg19 h
                      have hg19n := hg19
                      try simp at hg19n
                      have g0 := hA.get (k := 0) rfl
                      refine satO_step 18 [] ⟨an 3 (.int .i64 ((x6 : Nat) : Int) :: .int .i32 ((decL a0 x6).1 : Int) :: .bool x8 :: an 9 (.ptr (lv + 1) i5 0 :: an 10 (.bool x8 :: .bool (!x8) :: .bool (!x8) :: .tup [] :: .tup [] :: .tup [] :: .tup [] :: .tup [] :: .tup [] :: .tup [] :: .tup [] :: .tup [] :: .tup [] :: .tup [] :: .tup [] :: .tup [] :: .tup [] :: .bool false :: []))), ⟨lv + 1, L, E⟩, [], E⟩ [] (by first | (simp -implicitDefEqProofs [g0, hg19]; done) | simp -implicitDefEqProofs [g0, hg19, hg19n]) claims_nil ?_
                      refine satO_nil (by simp) ?_
                      refine ⟨⟨an 15 (.ptr (lv + 1) i5 0 :: an 27 (.bool false :: [])), ⟨lv + 1, L, E⟩, [], E⟩, weak_tmps ?_, n, by omega, false, L, hA, h, rfl⟩
                      (try simp only [an, List.map_cons, List.map_nil]); repeat (first | exact VLeL.nil | refine VLeL.cons (by first | exact VLe.refl _ | exact VLe.any _ | exact VLe.nil _ _ | exact VLe.full _ _ | (refine VLe.agg' ?_; repeat (first | exact VLeL.nil | refine VLeL.cons (by first | exact VLe.refl _ | exact VLe.any _ | exact VLe.nil _ _) ?_))) ?_)
                  · rintro σ0 σ hw ⟨k, hk, x11, L, hA, h, rfl⟩
                    rcases k with _ | n
                    · simp [go_label_Name_J3] at h
                    · rw [go_label_Name_J3] at h
                      refine sat_weak hw ?_
                      repeat refine sat_seq ?_
                      refine sat_cond rfl (fun hb => ?_) (fun hb => ?_)
                      · have h := ite_t hb h
                        repeat refine sat_seq ?_
                        refine satO_reg ?_
                        have g0 := hA.get (k := 0) rfl
                        refine satO_step 1 [] ⟨an 2 (.bool false :: an 12 (.ptr (lv + 1) i5 0 :: an 27 (.bool x11 :: []))), ⟨lv + 1, L, E⟩, [], E⟩ [] (by simp -implicitDefEqProofs [g0]) claims_nil ?_
                        refine satO_nil (by simp) ?_
                        repeat refine sat_seq ?_
                        refine sat_ret ?_
                        have g0 := hA.get (k := 0) rfl
                        refine ends (v := .bool false) (by simp [resultsV, resL, resV, tupOf, Tryd.f9, pLoad, g0]) rfl rfl ?_
                        injection h with h
                        subst h
                        exact (.keep _ (by simp [V.kin, V.kinL]))
                      · have h := ite_f hb h
                        repeat refine sat_seq ?_
                        refine sat_skip ?_
                        refine ⟨n, ⟨an 15 (.ptr (lv + 1) i5 0 :: an 28 []), ⟨lv + 1, L, E⟩, [], E⟩, weak_tmps ?_, ⟨(x6 + (decL a0 x6).2), L, by omega, hA, h, rfl⟩, by omega⟩
                        (try simp only [an, List.map_cons, List.map_nil]); repeat (first | exact VLeL.nil | refine VLeL.cons (by first | exact VLe.refl _ | exact VLe.any _ | exact VLe.nil _ _ | exact VLe.full _ _ | (refine VLe.agg' ?_; repeat (first | exact VLeL.nil | refine VLeL.cons (by first | exact VLe.refl _ | exact VLe.any _ | exact VLe.nil _ _) ?_))) ?_)
            · have h := ite_f hg7 h
              refine satO_step 1 [] ⟨an 15 (.ptr (lv + 1) i5 0 :: .tup [.bool false] :: an 27 []), ⟨lv + 1, L, E⟩, [], E⟩ [] (by simp -implicitDefEqProofs [g0, hg7, of_decide_eq_false hg7]) claims_nil ?_
              have g0 := hA.get (k := 0) rfl
              refine satO_step 1 [] ⟨an 15 (.ptr (lv + 1) i5 0 :: .tup [.bool false] :: .bool false :: an 26 []), ⟨lv + 1, L, E⟩, [], E⟩ [] (by simp -implicitDefEqProofs [g0]) claims_nil ?_
              refine satO_nil (by simp) ?_
              repeat refine sat_seq ?_
              refine sat_cond rfl (fun hb => by cases hb) (fun hb => ?_)
              repeat refine sat_seq ?_
              refine sat_exit ?_
              repeat refine sat_seq ?_
              refine satO_reg ?_
              have g0 := hA.get (k := 0) rfl
              refine satO_step 1 [] ⟨an 2 (.bool true :: an 12 (.ptr (lv + 1) i5 0 :: .tup [.bool false] :: .bool false :: an 26 [])), ⟨lv + 1, L, E⟩, [], E⟩ [] (by simp -implicitDefEqProofs [g0]) claims_nil ?_
              refine satO_nil (by simp) ?_
              repeat refine sat_seq ?_
              refine sat_ret ?_
              have g0 := hA.get (k := 0) rfl
              refine ends (v := .bool true) (by simp [resultsV, resL, resV, tupOf, Tryd.f9, pLoad, g0]) rfl rfl ?_
              injection h with h
              subst h
              exact (.keep _ (by simp [V.kin, V.kinL]))
end Go.Proofs

namespace Go.Proofs
open Go Go.Ab
set_option maxRecDepth 10000
set_option maxHeartbeats 1000000
set_option linter.unusedSimpArgs false
set_option linter.unusedVariables false
theorem go_internal_stringslite_HasSuffix_s93_ok (n : Nat) (a0 : List UInt8) (r : Bool) (h : go_internal_stringslite_HasSuffix_s93 n a0 = some r) : PCall Tryd.prog 57 [.str a0, .str ([93])] (.bool r) := by
  rw [go_internal_stringslite_HasSuffix_s93] at h
  refine pcall_of Tryd.func57 rfl Tryd.ntmps57 (fun _ _ => Tryd.call57 _ _) fun lv E => ?_
  simp only [List.length_cons, List.length_nil, Nat.reduceAdd, Nat.reduceSub, List.replicate, List.cons_append, List.nil_append]
  have hA := AccG.nil (lv + 1)
  generalize ([] : List (Option AObj)) = L at hA ⊢
  repeat refine sat_seq ?_
  refine satO_reg ?_
  refine satO_step 1 [] ⟨.str a0 :: .str ([93]) :: an 2 (.bool false :: an 16 []), ⟨lv + 1, L, E⟩, [], E⟩ [] (by simp -implicitDefEqProofs []) claims_nil ?_
  refine satO_nil (by simp) ?_
  repeat refine sat_seq ?_
  refine sat_meet (fun σ => ∃ (x1 : Bool) (L : List (Option AObj)), AccG (lv + 1) L [] [] ∧ go_internal_stringslite_HasSuffix_s93_J1 n x1 = some r ∧ σ = ⟨an 4 (.bool x1 :: an 16 []), ⟨lv + 1, L, E⟩, [], E⟩) ?_ ?_
  · refine satO_reg ?_
    rcases Bool.eq_false_or_eq_true (decide (1 ≤ (a0.length : Int))) with hg2 | hg11
    · have h := ite_t hg2 h
      have hg2n := hg2
      try simp at hg2n
      obtain ⟨x3, q4, h⟩ := bnd_hi h
      obtain ⟨q4, q5, q6, q7, q8, q9⟩ := sub_some q4
      have q10 := q5
      try simp only [Int.ofNat_le] at q10
      refine satO_step 17 [] ⟨.str a0 :: .str ([93]) :: an 2 (.bool (x3 == ([93])) :: .str a0 :: .int .i64 (a0.length : Int) :: .str ([93]) :: .int .i64 1 :: .bool (decide (1 ≤ (a0.length : Int))) :: .bool (decide (1 ≤ (a0.length : Int))) :: .str a0 :: .str a0 :: .int .i64 (a0.length : Int) :: .str ([93]) :: .int .i64 1 :: .int .i64 (IntKind.i64.wrap ((a0.length : Int) - 1)) :: .str x3 :: .str ([93]) :: .bool (x3 == ([93])) :: .bool (x3 == ([93])) :: []), ⟨lv + 1, L, E⟩, [], E⟩ [] (by first | (simp -implicitDefEqProofs [hg2, q4, q5, q6, q7, q8, q9, q10, List.map_take, List.map_drop, Int.max_eq_left]; done) | simp -implicitDefEqProofs [hg2, q4, q5, q6, q7, q8, q9, q10, List.map_take, List.map_drop, Int.max_eq_left, hg2n]) claims_nil ?_
      refine satO_nil (by simp) ?_
      refine ⟨⟨an 4 (.bool (x3 == ([93])) :: an 16 []), ⟨lv + 1, L, E⟩, [], E⟩, weak_tmps ?_, (x3 == ([93])), L, hA, h, rfl⟩
      (try simp only [an, List.map_cons, List.map_nil]); repeat (first | exact VLeL.nil | refine VLeL.cons (by first | exact VLe.refl _ | exact VLe.any _ | exact VLe.nil _ _ | exact VLe.full _ _ | (refine VLe.agg' ?_; repeat (first | exact VLeL.nil | refine VLeL.cons (by first | exact VLe.refl _ | exact VLe.any _ | exact VLe.nil _ _) ?_))) ?_)
    · have h := ite_f hg11 h
      have hg11n := hg11
      try simp at hg11n
      refine satO_step 17 [] ⟨.str a0 :: .str ([93]) :: an 2 (.bool false :: .str a0 :: .int .i64 (a0.length : Int) :: .str ([93]) :: .int .i64 1 :: .bool (decide (1 ≤ (a0.length : Int))) :: .bool (decide (1 ≤ (a0.length : Int))) :: .tup [] :: .tup [] :: .tup [] :: .tup [] :: .tup [] :: .tup [] :: .tup [] :: .tup [] :: .tup [] :: .bool false :: []), ⟨lv + 1, L, E⟩, [], E⟩ [] (by first | (simp -implicitDefEqProofs [hg11]; done) | simp -implicitDefEqProofs [hg11, hg11n]) claims_nil ?_
      refine satO_nil (by simp) ?_
      refine ⟨⟨an 4 (.bool false :: an 16 []), ⟨lv + 1, L, E⟩, [], E⟩, weak_tmps ?_, false, L, hA, h, rfl⟩
      (try simp only [an, List.map_cons, List.map_nil]); repeat (first | exact VLeL.nil | refine VLeL.cons (by first | exact VLe.refl _ | exact VLe.any _ | exact VLe.nil _ _ | exact VLe.full _ _ | (refine VLe.agg' ?_; repeat (first | exact VLeL.nil | refine VLeL.cons (by first | exact VLe.refl _ | exact VLe.any _ | exact VLe.nil _ _) ?_))) ?_)
  · rintro σ0 σ hw ⟨x1, L, hA, h, rfl⟩
    rw [go_internal_stringslite_HasSuffix_s93_J1] at h
    refine sat_weak hw ?_
    repeat refine sat_seq ?_
    refine sat_ret ?_
    refine ends (v := .bool x1) (by simp [resultsV, resL, resV, tupOf, Tryd.f57, pLoad]) rfl rfl ?_
    injection h with h
    subst h
    exact (.keep _ (by simp [V.kin, V.kinL]))
end Go.Proofs

namespace Go.Proofs
open Go Go.Ab
set_option maxRecDepth 10000
set_option maxHeartbeats 1000000
set_option linter.unusedSimpArgs false
set_option linter.unusedVariables false
theorem go_internal_stringslite_CutSuffix_s93_ok (n : Nat) (a0 : List UInt8) (r : (List UInt8) × Bool) (h : go_internal_stringslite_CutSuffix_s93 n a0 = some r) : PCall Tryd.prog 56 [.str a0, .str ([93])] (.tup [.str r.1, .bool r.2]) := by
  rw [go_internal_stringslite_CutSuffix_s93] at h
  refine pcall_of Tryd.func56 rfl Tryd.ntmps56 (fun _ _ => Tryd.call56 _ _) fun lv E => ?_
  simp only [List.length_cons, List.length_nil, Nat.reduceAdd, Nat.reduceSub, List.replicate, List.cons_append, List.nil_append]
  have hA := AccG.nil (lv + 1)
  generalize ([] : List (Option AObj)) = L at hA ⊢
  repeat refine sat_seq ?_
  refine satO_reg ?_
  refine satO_step 2 [] ⟨.str a0 :: .str ([93]) :: an 2 (.str ([]) :: .bool false :: an 12 []), ⟨lv + 1, L, E⟩, [], E⟩ [] (by simp -implicitDefEqProofs []) claims_nil ?_
  refine satO_nil (by simp) ?_
  repeat refine sat_seq ?_
  refine satO_reg ?_
  obtain ⟨y1, q2, h⟩ := bnd_hi h
  refine satO_step 4 [(.bool y1, none)] ⟨.str a0 :: .str ([93]) :: an 2 (.str ([]) :: .bool false :: .str a0 :: .str ([93]) :: .bool y1 :: .bool (!y1) :: an 8 []), ⟨lv + 1, L, E⟩, [], E⟩ [⟨57, [.str a0, .str ([93])], ⟨lv + 1, L, E⟩, .bool y1, ⟨lv + 1, L, E⟩⟩] (by simp -implicitDefEqProofs []) (claims_cons (go_internal_stringslite_HasSuffix_s93_ok _ _ _ q2 _) claims_nil) ?_
  refine satO_nil (by simp) ?_
  repeat refine sat_seq ?_
  refine sat_cond rfl (fun hb => ?_) (fun hb => ?_)
  · have h := ite_t hb h
    repeat refine sat_seq ?_
    refine satO_reg ?_
    refine satO_step 3 [] ⟨.str a0 :: .str ([93]) :: an 2 (.str a0 :: .bool false :: .str a0 :: .str ([93]) :: .bool y1 :: .bool (!y1) :: .str a0 :: an 7 []), ⟨lv + 1, L, E⟩, [], E⟩ [] (by simp -implicitDefEqProofs []) claims_nil ?_
    refine satO_nil (by simp) ?_
    repeat refine sat_seq ?_
    refine sat_ret ?_
    refine ends (v := .tup [.str a0, .bool false]) (by simp [resultsV, resL, resV, tupOf, Tryd.f56, pLoad]) rfl rfl ?_
    injection h with h
    subst h
    exact .keep _ (by simp [V.kin, V.kinL])
  · have h := ite_f hb h
    repeat refine sat_seq ?_
    refine sat_skip ?_
    repeat refine sat_seq ?_
    refine satO_reg ?_
    obtain ⟨x3, q4, h⟩ := bnd_hi h
    obtain ⟨q4, q5, q6, q7, q8, q9⟩ := sub_some q4
    have q10 := q5
    try simp only [Int.ofNat_le] at q10
    refine satO_step 9 [] ⟨.str a0 :: .str ([93]) :: an 2 (.str x3 :: .bool true :: .str a0 :: .str ([93]) :: .bool y1 :: .bool (!y1) :: an 1 (.str a0 :: .str a0 :: .int .i64 (a0.length : Int) :: .str ([93]) :: .int .i64 1 :: .int .i64 (IntKind.i64.wrap ((a0.length : Int) - 1)) :: .str x3 :: [])), ⟨lv + 1, L, E⟩, [], E⟩ [] (by simp -implicitDefEqProofs [q4, q5, q6, q7, q8, q9, q10, List.map_take, List.map_drop, Int.max_eq_left]) claims_nil ?_
    refine satO_nil (by simp) ?_
    repeat refine sat_seq ?_
    refine sat_ret ?_
    refine ends (v := .tup [.str x3, .bool true]) (by simp [resultsV, resL, resV, tupOf, Tryd.f56, pLoad]) rfl rfl ?_
    injection h with h
    subst h
    exact .keep _ (by simp [V.kin, V.kinL])
end Go.Proofs

namespace Go.Proofs
open Go Go.Ab
set_option maxRecDepth 10000
set_option maxHeartbeats 1000000
set_option linter.unusedSimpArgs false
set_option linter.unusedVariables false
theorem go_strings_CutSuffix_s93_ok (n : Nat) (a0 : List UInt8) (r : (List UInt8) × Bool) (h : go_strings_CutSuffix_s93 n a0 = some r) : PCall Tryd.prog 52 [.str a0, .str ([93])] (.tup [.str r.1, .bool r.2]) := by
  rw [go_strings_CutSuffix_s93] at h
  refine pcall_of Tryd.func52 rfl Tryd.ntmps52 (fun _ _ => Tryd.call52 _ _) fun lv E => ?_
  simp only [List.length_cons, List.length_nil, Nat.reduceAdd, Nat.reduceSub, List.replicate, List.cons_append, List.nil_append]
  have hA := AccG.nil (lv + 1)
  generalize ([] : List (Option AObj)) = L at hA ⊢
  repeat refine sat_seq ?_
  refine satO_reg ?_
  refine satO_step 2 [] ⟨.str a0 :: .str ([93]) :: an 2 (.str ([]) :: .bool false :: an 5 []), ⟨lv + 1, L, E⟩, [], E⟩ [] (by simp -implicitDefEqProofs []) claims_nil ?_
  refine satO_nil (by simp) ?_
  repeat refine sat_seq ?_
  refine satO_reg ?_
  obtain ⟨y1, q2, h⟩ := bnd_hi h
  refine satO_step 7 [(.tup [.str y1.1, .bool y1.2], none)] ⟨.str a0 :: .str ([93]) :: an 2 (.str y1.1 :: .bool y1.2 :: .str a0 :: .str ([93]) :: .tup [.str y1.1, .bool y1.2] :: .str y1.1 :: .bool y1.2 :: []), ⟨lv + 1, L, E⟩, [], E⟩ [⟨56, [.str a0, .str ([93])], ⟨lv + 1, L, E⟩, .tup [.str y1.1, .bool y1.2], ⟨lv + 1, L, E⟩⟩] (by simp -implicitDefEqProofs []) (claims_cons (go_internal_stringslite_CutSuffix_s93_ok _ _ _ q2 _) claims_nil) ?_
  refine satO_nil (by simp) ?_
  repeat refine sat_seq ?_
  refine sat_ret ?_
  refine ends (v := .tup [.str y1.1, .bool y1.2]) (by simp [resultsV, resL, resV, tupOf, Tryd.f52, pLoad]) rfl rfl ?_
  injection h with h
  subst h
  exact .keep _ (by simp [V.kin, V.kinL])
end Go.Proofs

namespace Go.Proofs
open Go Go.Ab
set_option maxRecDepth 10000
set_option maxHeartbeats 1000000
set_option linter.unusedSimpArgs false
set_option linter.unusedVariables false
theorem go_label_read_ok (n : Nat) (a0 : List UInt8) (r : GStepT × Bool) (h : go_label_read n a0 = some r) : PCall Tryd.prog 40 [.str a0] (.tup [.agg r.1.cs, .bool r.2]) := by
  rcases n with _ | n
  · simp [go_label_read] at h
  rw [go_label_read] at h
  refine pcall_of Tryd.func40 rfl Tryd.ntmps40 (fun _ _ => Tryd.call40 _ _) fun lv E => ?_
  simp only [List.length_cons, List.length_nil, Nat.reduceAdd, Nat.reduceSub, List.replicate, List.cons_append, List.nil_append]
  have hA := AccG.nil (lv + 1)
  generalize ([] : List (Option AObj)) = L at hA ⊢
  repeat refine sat_seq ?_
  refine satO_reg ?_
  refine satO_step 1 [] ⟨.str a0 :: an 1 (.ptr (lv + 1) L.length 0 :: an 79 []), ⟨lv + 1, (L ++ [some (.cells [.str ([]), .int .i64 0])]), E⟩, [], E⟩ [] (by simp -implicitDefEqProofs [GStepT.cs]) claims_nil ?_
  have hA : AccG (lv + 1) (L ++ [some (.cells [.str ([]), .int .i64 0])]) [] [(L.length, .cells [.str ([]), .int .i64 0])] := hA.obj _
  generalize L.length = i2 at hA ⊢
  generalize (L ++ [some (.cells [.str ([]), .int .i64 0])]) = L at hA ⊢
  have g0 := hA.get (k := 0) rfl
  refine satO_step 1 [] ⟨.str a0 :: an 1 (.ptr (lv + 1) i2 0 :: .bool false :: an 78 []), ⟨lv + 1, L, E⟩, [], E⟩ [] (by simp -implicitDefEqProofs [GStepT.cs, g0]) claims_nil ?_
  refine satO_nil (by simp) ?_
  repeat refine sat_seq ?_
  refine satO_reg ?_
  obtain ⟨y3, q4, h⟩ := bnd_hi h
  have g0 := hA.get (k := 0) rfl
  refine satO_step 9 [(.tup [.str y3.1, .str y3.2.1, .bool y3.2.2], none)] ⟨.str a0 :: an 1 (.ptr (lv + 1) i2 0 :: .bool false :: .str y3.1 :: .str y3.2.1 :: .bool y3.2.2 :: an 5 (.tup [.str y3.1, .str y3.2.1, .bool y3.2.2] :: .str a0 :: .tup [.str y3.1, .str y3.2.1, .bool y3.2.2] :: .str y3.1 :: .str y3.2.1 :: .bool y3.2.2 :: an 64 [])), ⟨lv + 1, L, E⟩, [], E⟩ [⟨11, [.str a0, .str ([91])], ⟨lv + 1, L, E⟩, .tup [.str y3.1, .str y3.2.1, .bool y3.2.2], ⟨lv + 1, L, E⟩⟩] (by simp -implicitDefEqProofs [GStepT.cs, g0]) (claims_cons (go_strings_Cut_s91_ok _ _ _ q4 _) claims_nil) ?_
  refine satO_nil (by simp) ?_
  repeat refine sat_seq ?_
  refine sat_meet (fun σ => ∃ (k : Nat), k ≤ n ∧ ∃ (x5 : Bool) (L : List (Option AObj)), AccG (lv + 1) L [] [(i2, .cells [.str ([]), .int .i64 0])] ∧ go_label_read_J1 k y3 x5 = some r ∧ σ = ⟨an 2 (.ptr (lv + 1) i2 0 :: an 1 (.str y3.1 :: .str y3.2.1 :: .bool y3.2.2 :: an 17 (.bool x5 :: an 57 []))), ⟨lv + 1, L, E⟩, [], E⟩) ?_ ?_
  · refine satO_reg ?_
    obtain ⟨y6, q7, h⟩ := bnd_hi h
    rcases Bool.eq_false_or_eq_true (!y6) with hg8 | hg9
    · have h := ite_t hg8 h
      have hg8n := hg8
      try simp at hg8n
      have g0 := hA.get (k := 0) rfl
      refine satO_step 7 [(.bool y6, none)] ⟨.str a0 :: an 1 (.ptr (lv + 1) i2 0 :: .bool false :: .str y3.1 :: .str y3.2.1 :: .bool y3.2.2 :: an 5 (.tup [.str y3.1, .str y3.2.1, .bool y3.2.2] :: .str a0 :: .tup [.str y3.1, .str y3.2.1, .bool y3.2.2] :: .str y3.1 :: .str y3.2.1 :: .bool y3.2.2 :: .str y3.1 :: .bool y6 :: .bool (!y6) :: .bool (!y6) :: .tup [] :: .tup [] :: .bool true :: an 57 [])), ⟨lv + 1, L, E⟩, [], E⟩ [⟨9, [.str y3.1], ⟨lv + 1, L, E⟩, .bool y6, ⟨lv + 1, L, E⟩⟩] (by first | (simp -implicitDefEqProofs [GStepT.cs, g0, hg8]; done) | simp -implicitDefEqProofs [GStepT.cs, g0, hg8, hg8n]) (claims_cons (go_label_Name_ok _ _ _ q7 _) claims_nil) ?_
      refine satO_nil (by simp) ?_
      refine ⟨⟨an 2 (.ptr (lv + 1) i2 0 :: an 1 (.str y3.1 :: .str y3.2.1 :: .bool y3.2.2 :: an 17 (.bool true :: an 57 []))), ⟨lv + 1, L, E⟩, [], E⟩, weak_tmps ?_, n, by omega, true, L, hA, h, rfl⟩
      (try simp only [an, List.map_cons, List.map_nil]); repeat (first | exact VLeL.nil | refine VLeL.cons (by first | exact VLe.refl _ | exact VLe.any _ | exact VLe.nil _ _ | exact VLe.full _ _ | (refine VLe.agg' ?_; repeat (first | exact VLeL.nil | refine VLeL.cons (by first | exact VLe.refl _ | exact VLe.any _ | exact VLe.nil _ _) ?_))) ?_)
    · have h := ite_f hg9 h
      have hg9n := hg9
      try simp at hg9n
      have g0 := hA.get (k := 0) rfl
      refine satO_step 7 [(.bool y6, none)] ⟨.str a0 :: an 1 (.ptr (lv + 1) i2 0 :: .bool false :: .str y3.1 :: .str y3.2.1 :: .bool y3.2.2 :: an 5 (.tup [.str y3.1, .str y3.2.1, .bool y3.2.2] :: .str a0 :: .tup [.str y3.1, .str y3.2.1, .bool y3.2.2] :: .str y3.1 :: .str y3.2.1 :: .bool y3.2.2 :: .str y3.1 :: .bool y6 :: .bool (!y6) :: .bool (!y6) :: .bool y3.2.2 :: .bool (!y3.2.2) :: .bool (!y3.2.2) :: an 57 [])), ⟨lv + 1, L, E⟩, [], E⟩ [⟨9, [.str y3.1], ⟨lv + 1, L, E⟩, .bool y6, ⟨lv + 1, L, E⟩⟩] (by first | (simp -implicitDefEqProofs [GStepT.cs, g0, hg9]; done) | simp -implicitDefEqProofs [GStepT.cs, g0, hg9, hg9n]) (claims_cons (go_label_Name_ok _ _ _ q7 _) claims_nil) ?_
      refine satO_nil (by simp) ?_
      refine ⟨⟨an 2 (.ptr (lv + 1) i2 0 :: an 1 (.str y3.1 :: .str y3.2.1 :: .bool y3.2.2 :: an 17 (.bool (!y3.2.2) :: an 57 []))), ⟨lv + 1, L, E⟩, [], E⟩, weak_tmps ?_, n, by omega, (!y3.2.2), L, hA, h, rfl⟩
      (try simp only [an, List.map_cons, List.map_nil]); repeat (first | exact VLeL.nil | refine VLeL.cons (by first | exact VLe.refl _ | exact VLe.any _ | exact VLe.nil _ _ | exact VLe.full _ _ | (refine VLe.agg' ?_; repeat (first | exact VLeL.nil | refine VLeL.cons (by first | exact VLe.refl _ | exact VLe.any _ | exact VLe.nil _ _) ?_))) ?_)
  · rintro σ0 σ hw ⟨k, hk, x5, L, hA, h, rfl⟩
    rcases k with _ | n
    · simp [go_label_read_J1] at h
    · rw [go_label_read_J1] at h
      refine sat_weak hw ?_
      repeat refine sat_seq ?_
      refine sat_cond rfl (fun hb => ?_) (fun hb => ?_)
      · have h := ite_t hb h
        repeat refine sat_seq ?_
        refine sat_meet (fun σ => ∃ (k : Nat), k ≤ n ∧ ∃ (x10 : GStepT) (x11 : Bool) (L : List (Option AObj)), AccG (lv + 1) L [] [(i2, .cells x10.cs)] ∧ go_label_read_J2 k x10 x11 = some r ∧ σ = ⟨an 2 (.ptr (lv + 1) i2 0 :: .bool x11 :: an 78 []), ⟨lv + 1, L, E⟩, [], E⟩) ?_ ?_
        · refine satO_reg ?_
          rcases Bool.eq_false_or_eq_true (!y3.2.2) with hg12 | hg15
          · have h := ite_t hg12 h
            have hg12n := hg12
            try simp at hg12n
            obtain ⟨y13, q14, h⟩ := bnd_hi h
            have g0 := hA.get (k := 0) rfl
            refine satO_step 8 [(.bool y13, none)] ⟨an 2 (.ptr (lv + 1) i2 0 :: an 1 (.str y3.1 :: .str y3.2.1 :: .bool y3.2.2 :: an 17 (.bool x5 :: .str y3.1 :: .agg [.str y3.1, .int .i64 (-1)] :: .bool y3.2.2 :: .bool (!y3.2.2) :: .bool (!y3.2.2) :: .str y3.1 :: .bool y13 :: .bool y13 :: an 49 []))), ⟨lv + 1, L, E⟩, [], E⟩ [⟨9, [.str y3.1], ⟨lv + 1, L, E⟩, .bool y13, ⟨lv + 1, L, E⟩⟩] (by first | (simp -implicitDefEqProofs [GStepT.cs, g0, hg12]; done) | simp -implicitDefEqProofs [GStepT.cs, g0, hg12, hg12n]) (claims_cons (go_label_Name_ok _ _ _ q14 _) claims_nil) ?_
            have g0 := hA.get (k := 0) rfl
            refine satO_step 1 [] ⟨an 2 (.ptr (lv + 1) i2 0 :: an 1 (.str y3.1 :: .str y3.2.1 :: .bool y3.2.2 :: an 17 (.bool x5 :: .str y3.1 :: .agg [.str y3.1, .int .i64 (-1)] :: .bool y3.2.2 :: .bool (!y3.2.2) :: .bool (!y3.2.2) :: .str y3.1 :: .bool y13 :: .bool y13 :: an 49 []))), ⟨lv + 1, (L.set i2 (some (.cells [.str y3.1, .int .i64 (-1)]))), E⟩, [], E⟩ [] (by first | (simp -implicitDefEqProofs [GStepT.cs, g0, hg12]; done) | simp -implicitDefEqProofs [GStepT.cs, g0, hg12, hg12n]) claims_nil ?_
            have hA : AccG (lv + 1) (L.set i2 (some (.cells [.str y3.1, .int .i64 (-1)]))) [] [(i2, .cells [.str y3.1, .int .i64 (-1)])] := hA.upd (k := 0) rfl _
            generalize (L.set i2 (some (.cells [.str y3.1, .int .i64 (-1)]))) = L at hA ⊢
            have g0 := hA.get (k := 0) rfl
            refine satO_step 1 [] ⟨an 2 (.ptr (lv + 1) i2 0 :: .bool y13 :: .str y3.1 :: .str y3.2.1 :: .bool y3.2.2 :: an 17 (.bool x5 :: .str y3.1 :: .agg [.str y3.1, .int .i64 (-1)] :: .bool y3.2.2 :: .bool (!y3.2.2) :: .bool (!y3.2.2) :: .str y3.1 :: .bool y13 :: .bool y13 :: an 49 [])), ⟨lv + 1, L, E⟩, [], E⟩ [] (by first | (simp -implicitDefEqProofs [GStepT.cs, g0, hg12]; done) | simp -implicitDefEqProofs [GStepT.cs, g0, hg12, hg12n]) claims_nil ?_
            refine satO_nil (by simp) ?_
            refine ⟨⟨an 2 (.ptr (lv + 1) i2 0 :: .bool y13 :: an 78 []), ⟨lv + 1, L, E⟩, [], E⟩, weak_tmps ?_, n, by omega, (GStepT.mk y3.1 (-1)), y13, L, hA, h, rfl⟩
            (try simp only [an, List.map_cons, List.map_nil]); repeat (first | exact VLeL.nil | refine VLeL.cons (by first | exact VLe.refl _ | exact VLe.any _ | exact VLe.nil _ _ | exact VLe.full _ _ | (refine VLe.agg' ?_; repeat (first | exact VLeL.nil | refine VLeL.cons (by first | exact VLe.refl _ | exact VLe.any _ | exact VLe.nil _ _) ?_))) ?_)
          · have h := ite_f hg15 h
            have hg15n := hg15
            try simp at hg15n
            have g0 := hA.get (k := 0) rfl
            refine satO_step 8 [] ⟨an 2 (.ptr (lv + 1) i2 0 :: an 1 (.str y3.1 :: .str y3.2.1 :: .bool y3.2.2 :: an 17 (.bool x5 :: .str y3.1 :: .agg [.str y3.1, .int .i64 (-1)] :: .bool y3.2.2 :: .bool (!y3.2.2) :: .bool (!y3.2.2) :: .tup [] :: .tup [] :: .bool false :: an 49 []))), ⟨lv + 1, L, E⟩, [], E⟩ [] (by first | (simp -implicitDefEqProofs [GStepT.cs, g0, hg15]; done) | simp -implicitDefEqProofs [GStepT.cs, g0, hg15, hg15n]) claims_nil ?_
            have g0 := hA.get (k := 0) rfl
            refine satO_step 1 [] ⟨an 2 (.ptr (lv + 1) i2 0 :: an 1 (.str y3.1 :: .str y3.2.1 :: .bool y3.2.2 :: an 17 (.bool x5 :: .str y3.1 :: .agg [.str y3.1, .int .i64 (-1)] :: .bool y3.2.2 :: .bool (!y3.2.2) :: .bool (!y3.2.2) :: .tup [] :: .tup [] :: .bool false :: an 49 []))), ⟨lv + 1, (L.set i2 (some (.cells [.str y3.1, .int .i64 (-1)]))), E⟩, [], E⟩ [] (by first | (simp -implicitDefEqProofs [GStepT.cs, g0, hg15]; done) | simp -implicitDefEqProofs [GStepT.cs, g0, hg15, hg15n]) claims_nil ?_
            have hA : AccG (lv + 1) (L.set i2 (some (.cells [.str y3.1, .int .i64 (-1)]))) [] [(i2, .cells [.str y3.1, .int .i64 (-1)])] := hA.upd (k := 0) rfl _
            generalize (L.set i2 (some (.cells [.str y3.1, .int .i64 (-1)]))) = L at hA ⊢
            have g0 := hA.get (k := 0) rfl
            refine satO_step 1 [] ⟨an 2 (.ptr (lv + 1) i2 0 :: .bool false :: .str y3.1 :: .str y3.2.1 :: .bool y3.2.2 :: an 17 (.bool x5 :: .str y3.1 :: .agg [.str y3.1, .int .i64 (-1)] :: .bool y3.2.2 :: .bool (!y3.2.2) :: .bool (!y3.2.2) :: .tup [] :: .tup [] :: .bool false :: an 49 [])), ⟨lv + 1, L, E⟩, [], E⟩ [] (by first | (simp -implicitDefEqProofs [GStepT.cs, g0, hg15]; done) | simp -implicitDefEqProofs [GStepT.cs, g0, hg15, hg15n]) claims_nil ?_
            refine satO_nil (by simp) ?_
            refine ⟨⟨an 2 (.ptr (lv + 1) i2 0 :: .bool false :: an 78 []), ⟨lv + 1, L, E⟩, [], E⟩, weak_tmps ?_, n, by omega, (GStepT.mk y3.1 (-1)), false, L, hA, h, rfl⟩
            (try simp only [an, List.map_cons, List.map_nil]); repeat (first | exact VLeL.nil | refine VLeL.cons (by first | exact VLe.refl _ | exact VLe.any _ | exact VLe.nil _ _ | exact VLe.full _ _ | (refine VLe.agg' ?_; repeat (first | exact VLeL.nil | refine VLeL.cons (by first | exact VLe.refl _ | exact VLe.any _ | exact VLe.nil _ _) ?_))) ?_)
        · rintro σ0 σ hw ⟨k, hk, x10, x11, L, hA, h, rfl⟩
          rcases k with _ | n
          · simp [go_label_read_J2] at h
          · rw [go_label_read_J2] at h
            refine sat_weak hw ?_
            repeat refine sat_seq ?_
            refine sat_ret ?_
            have g0 := hA.get (k := 0) rfl
            refine ends (v := .tup [.agg x10.cs, .bool x11]) (by simp [resultsV, resL, resV, tupOf, Tryd.f40, pLoad, g0, GStepT.cs]) rfl rfl ?_
            injection h with h
            subst h
            exact .keep _ (by simp [V.kin, V.kinL, GStepT.cs])
      · have h := ite_f hb h
        repeat refine sat_seq ?_
        refine sat_skip ?_
        repeat refine sat_seq ?_
        refine satO_reg ?_
        obtain ⟨y16, q17, h⟩ := bnd_hi h
        have g0 := hA.get (k := 0) rfl
        refine satO_step 7 [(.tup [.str y16.1, .bool y16.2], none)] ⟨an 2 (.ptr (lv + 1) i2 0 :: an 1 (.str y3.1 :: .str y3.2.1 :: .bool y3.2.2 :: .str y16.1 :: .bool y16.2 :: an 15 (.bool x5 :: an 8 (.tup [.str y16.1, .bool y16.2] :: .str y3.2.1 :: .tup [.str y16.1, .bool y16.2] :: .str y16.1 :: .bool y16.2 :: an 44 [])))), ⟨lv + 1, L, E⟩, [], E⟩ [⟨52, [.str y3.2.1, .str ([93])], ⟨lv + 1, L, E⟩, .tup [.str y16.1, .bool y16.2], ⟨lv + 1, L, E⟩⟩] (by simp -implicitDefEqProofs [GStepT.cs, g0]) (claims_cons (go_strings_CutSuffix_s93_ok _ _ _ q17 _) claims_nil) ?_
        refine satO_nil (by simp) ?_
        repeat refine sat_seq ?_
        refine sat_meet (fun σ => ∃ (k : Nat), k ≤ n ∧ ∃ (x18 : Bool) (L : List (Option AObj)), AccG (lv + 1) L [] [(i2, .cells [.str ([]), .int .i64 0])] ∧ go_label_read_J3 k y3 y16 x18 = some r ∧ σ = ⟨an 2 (.ptr (lv + 1) i2 0 :: an 1 (.str y3.1 :: an 2 (.str y16.1 :: an 51 (.bool x18 :: an 22 [])))), ⟨lv + 1, L, E⟩, [], E⟩) ?_ ?_
        · refine satO_reg ?_
          rcases Bool.eq_false_or_eq_true (!y16.2) with hg19 | hg20
          · have h := ite_t hg19 h
            have hg19n := hg19
            try simp at hg19n
            have g0 := hA.get (k := 0) rfl
            refine satO_step 22 [] ⟨an 2 (.ptr (lv + 1) i2 0 :: an 1 (.str y3.1 :: .str y3.2.1 :: .bool y3.2.2 :: .str y16.1 :: .bool y16.2 :: an 15 (.bool x5 :: an 8 (.tup [.str y16.1, .bool y16.2] :: .str y3.2.1 :: .tup [.str y16.1, .bool y16.2] :: .str y16.1 :: .bool y16.2 :: .bool y16.2 :: .bool (!y16.2) :: .bool (!y16.2) :: .tup [] :: .tup [] :: .tup [] :: .bool true :: .bool true :: .tup [] :: .tup [] :: .tup [] :: .bool true :: .bool true :: .tup [] :: .tup [] :: .tup [] :: .tup [] :: .tup [] :: .tup [] :: .tup [] :: .tup [] :: .bool true :: an 22 [])))), ⟨lv + 1, L, E⟩, [], E⟩ [] (by first | (simp -implicitDefEqProofs [GStepT.cs, g0, hg19]; done) | simp -implicitDefEqProofs [GStepT.cs, g0, hg19, hg19n]) claims_nil ?_
            refine satO_nil (by simp) ?_
            refine ⟨⟨an 2 (.ptr (lv + 1) i2 0 :: an 1 (.str y3.1 :: an 2 (.str y16.1 :: an 51 (.bool true :: an 22 [])))), ⟨lv + 1, L, E⟩, [], E⟩, weak_tmps ?_, n, by omega, true, L, hA, h, rfl⟩
            (try simp only [an, List.map_cons, List.map_nil]); repeat (first | exact VLeL.nil | refine VLeL.cons (by first | exact VLe.refl _ | exact VLe.any _ | exact VLe.nil _ _ | exact VLe.full _ _ | (refine VLe.agg' ?_; repeat (first | exact VLeL.nil | refine VLeL.cons (by first | exact VLe.refl _ | exact VLe.any _ | exact VLe.nil _ _) ?_))) ?_)
          · have h := ite_f hg20 h
            have hg20n := hg20
            try simp at hg20n
            rcases Bool.eq_false_or_eq_true ((y16.1.length : Int) == 0) with hg21 | hg22
            · have h := ite_t hg21 h
              have hg21n := hg21
              try simp at hg21n
              have g0 := hA.get (k := 0) rfl
              refine satO_step 22 [] ⟨an 2 (.ptr (lv + 1) i2 0 :: an 1 (.str y3.1 :: .str y3.2.1 :: .bool y3.2.2 :: .str y16.1 :: .bool y16.2 :: an 15 (.bool x5 :: an 8 (.tup [.str y16.1, .bool y16.2] :: .str y3.2.1 :: .tup [.str y16.1, .bool y16.2] :: .str y16.1 :: .bool y16.2 :: .bool y16.2 :: .bool (!y16.2) :: .bool (!y16.2) :: .str y16.1 :: .int .i64 (y16.1.length : Int) :: .bool ((y16.1.length : Int) == 0) :: .bool ((y16.1.length : Int) == 0) :: .bool ((y16.1.length : Int) == 0) :: .tup [] :: .tup [] :: .tup [] :: .bool true :: .bool true :: .tup [] :: .tup [] :: .tup [] :: .tup [] :: .tup [] :: .tup [] :: .tup [] :: .tup [] :: .bool true :: an 22 [])))), ⟨lv + 1, L, E⟩, [], E⟩ [] (by first | (simp -implicitDefEqProofs [GStepT.cs, g0, hg20, hg21]; done) | simp -implicitDefEqProofs [GStepT.cs, g0, hg20, hg21, hg20n, hg21n]) claims_nil ?_
              refine satO_nil (by simp) ?_
              refine ⟨⟨an 2 (.ptr (lv + 1) i2 0 :: an 1 (.str y3.1 :: an 2 (.str y16.1 :: an 51 (.bool true :: an 22 [])))), ⟨lv + 1, L, E⟩, [], E⟩, weak_tmps ?_, n, by omega, true, L, hA, h, rfl⟩
              (try simp only [an, List.map_cons, List.map_nil]); repeat (first | exact VLeL.nil | refine VLeL.cons (by first | exact VLe.refl _ | exact VLe.any _ | exact VLe.nil _ _ | exact VLe.full _ _ | (refine VLe.agg' ?_; repeat (first | exact VLeL.nil | refine VLeL.cons (by first | exact VLe.refl _ | exact VLe.any _ | exact VLe.nil _ _) ?_))) ?_)
            · have h := ite_f hg22 h
              have hg22n := hg22
              try simp at hg22n
              rcases Bool.eq_false_or_eq_true (decide (4 < (y16.1.length : Int))) with hg23 | hg24
              · have h := ite_t hg23 h
                have hg23n := hg23
                try simp at hg23n
                have g0 := hA.get (k := 0) rfl
                refine satO_step 22 [] ⟨an 2 (.ptr (lv + 1) i2 0 :: an 1 (.str y3.1 :: .str y3.2.1 :: .bool y3.2.2 :: .str y16.1 :: .bool y16.2 :: an 15 (.bool x5 :: an 8 (.tup [.str y16.1, .bool y16.2] :: .str y3.2.1 :: .tup [.str y16.1, .bool y16.2] :: .str y16.1 :: .bool y16.2 :: .bool y16.2 :: .bool (!y16.2) :: .bool (!y16.2) :: .str y16.1 :: .int .i64 (y16.1.length : Int) :: .bool ((y16.1.length : Int) == 0) :: .bool ((y16.1.length : Int) == 0) :: .bool ((y16.1.length : Int) == 0) :: .str y16.1 :: .int .i64 (y16.1.length : Int) :: .bool (decide (4 < (y16.1.length : Int))) :: .bool (decide (4 < (y16.1.length : Int))) :: .bool (decide (4 < (y16.1.length : Int))) :: .tup [] :: .tup [] :: .tup [] :: .tup [] :: .tup [] :: .tup [] :: .tup [] :: .tup [] :: .bool true :: an 22 [])))), ⟨lv + 1, L, E⟩, [], E⟩ [] (by first | (simp -implicitDefEqProofs [GStepT.cs, g0, hg20, hg22, hg23]; done) | simp -implicitDefEqProofs [GStepT.cs, g0, hg20, hg22, hg23, hg20n, hg22n, hg23n]) claims_nil ?_
                refine satO_nil (by simp) ?_
                refine ⟨⟨an 2 (.ptr (lv + 1) i2 0 :: an 1 (.str y3.1 :: an 2 (.str y16.1 :: an 51 (.bool true :: an 22 [])))), ⟨lv + 1, L, E⟩, [], E⟩, weak_tmps ?_, n, by omega, true, L, hA, h, rfl⟩
                (try simp only [an, List.map_cons, List.map_nil]); repeat (first | exact VLeL.nil | refine VLeL.cons (by first | exact VLe.refl _ | exact VLe.any _ | exact VLe.nil _ _ | exact VLe.full _ _ | (refine VLe.agg' ?_; repeat (first | exact VLeL.nil | refine VLeL.cons (by first | exact VLe.refl _ | exact VLe.any _ | exact VLe.nil _ _) ?_))) ?_)
              · have h := ite_f hg24 h
                have hg24n := hg24
                try simp at hg24n
                obtain ⟨x25, q26, h⟩ := bnd_hi h
                obtain ⟨q26, q27⟩ := ix_some q26
                have q27 : (y16.1)[0]? = some x25 := q27
                rcases Bool.eq_false_or_eq_true ((x25.toNat : Int) == 48) with hg28 | hg29
                · have h := ite_t hg28 h
                  have hg28n := hg28
                  try simp at hg28n
                  have g0 := hA.get (k := 0) rfl
                  refine satO_step 22 [] ⟨an 2 (.ptr (lv + 1) i2 0 :: an 1 (.str y3.1 :: .str y3.2.1 :: .bool y3.2.2 :: .str y16.1 :: .bool y16.2 :: an 15 (.bool x5 :: an 8 (.tup [.str y16.1, .bool y16.2] :: .str y3.2.1 :: .tup [.str y16.1, .bool y16.2] :: .str y16.1 :: .bool y16.2 :: .bool y16.2 :: .bool (!y16.2) :: .bool (!y16.2) :: .str y16.1 :: .int .i64 (y16.1.length : Int) :: .bool ((y16.1.length : Int) == 0) :: .bool ((y16.1.length : Int) == 0) :: .bool ((y16.1.length : Int) == 0) :: .str y16.1 :: .int .i64 (y16.1.length : Int) :: .bool (decide (4 < (y16.1.length : Int))) :: .bool (decide (4 < (y16.1.length : Int))) :: .bool (decide (4 < (y16.1.length : Int))) :: .str y16.1 :: .int .u8 (x25.toNat : Int) :: .bool ((x25.toNat : Int) == 48) :: .bool ((x25.toNat : Int) == 48) :: .str y16.1 :: .int .i64 (y16.1.length : Int) :: .bool (decide (1 < (y16.1.length : Int))) :: .bool (decide (1 < (y16.1.length : Int))) :: .bool (decide (1 < (y16.1.length : Int))) :: an 22 [])))), ⟨lv + 1, L, E⟩, [], E⟩ [] (by first | (simp -implicitDefEqProofs [GStepT.cs, g0, hg20, hg22, hg24, q26, q27, hg28]; done) | simp -implicitDefEqProofs [GStepT.cs, g0, hg20, hg22, hg24, q26, q27, hg28, hg20n, hg22n, hg24n, hg28n]) claims_nil ?_
                  refine satO_nil (by simp) ?_
                  refine ⟨⟨an 2 (.ptr (lv + 1) i2 0 :: an 1 (.str y3.1 :: an 2 (.str y16.1 :: an 51 (.bool (decide (1 < (y16.1.length : Int))) :: an 22 [])))), ⟨lv + 1, L, E⟩, [], E⟩, weak_tmps ?_, n, by omega, (decide (1 < (y16.1.length : Int))), L, hA, h, rfl⟩
                  (try simp only [an, List.map_cons, List.map_nil]); repeat (first | exact VLeL.nil | refine VLeL.cons (by first | exact VLe.refl _ | exact VLe.any _ | exact VLe.nil _ _ | exact VLe.full _ _ | (refine VLe.agg' ?_; repeat (first | exact VLeL.nil | refine VLeL.cons (by first | exact VLe.refl _ | exact VLe.any _ | exact VLe.nil _ _) ?_))) ?_)
                · have h := ite_f hg29 h
                  have hg29n := hg29
                  try simp at hg29n
                  have g0 := hA.get (k := 0) rfl
                  refine satO_step 22 [] ⟨an 2 (.ptr (lv + 1) i2 0 :: an 1 (.str y3.1 :: .str y3.2.1 :: .bool y3.2.2 :: .str y16.1 :: .bool y16.2 :: an 15 (.bool x5 :: an 8 (.tup [.str y16.1, .bool y16.2] :: .str y3.2.1 :: .tup [.str y16.1, .bool y16.2] :: .str y16.1 :: .bool y16.2 :: .bool y16.2 :: .bool (!y16.2) :: .bool (!y16.2) :: .str y16.1 :: .int .i64 (y16.1.length : Int) :: .bool ((y16.1.length : Int) == 0) :: .bool ((y16.1.length : Int) == 0) :: .bool ((y16.1.length : Int) == 0) :: .str y16.1 :: .int .i64 (y16.1.length : Int) :: .bool (decide (4 < (y16.1.length : Int))) :: .bool (decide (4 < (y16.1.length : Int))) :: .bool (decide (4 < (y16.1.length : Int))) :: .str y16.1 :: .int .u8 (x25.toNat : Int) :: .bool ((x25.toNat : Int) == 48) :: .bool ((x25.toNat : Int) == 48) :: .tup [] :: .tup [] :: .tup [] :: .bool false :: .bool false :: an 22 [])))), ⟨lv + 1, L, E⟩, [], E⟩ [] (by first | (simp -implicitDefEqProofs [GStepT.cs, g0, hg20, hg22, hg24, q26, q27, hg29]; done) | simp -implicitDefEqProofs [GStepT.cs, g0, hg20, hg22, hg24, q26, q27, hg29, hg20n, hg22n, hg24n, hg29n]) claims_nil ?_
                  refine satO_nil (by simp) ?_
                  refine ⟨⟨an 2 (.ptr (lv + 1) i2 0 :: an 1 (.str y3.1 :: an 2 (.str y16.1 :: an 51 (.bool false :: an 22 [])))), ⟨lv + 1, L, E⟩, [], E⟩, weak_tmps ?_, n, by omega, false, L, hA, h, rfl⟩
                  (try simp only [an, List.map_cons, List.map_nil]); repeat (first | exact VLeL.nil | refine VLeL.cons (by first | exact VLe.refl _ | exact VLe.any _ | exact VLe.nil _ _ | exact VLe.full _ _ | (refine VLe.agg' ?_; repeat (first | exact VLeL.nil | refine VLeL.cons (by first | exact VLe.refl _ | exact VLe.any _ | exact VLe.nil _ _) ?_))) ?_)
        · rintro σ0 σ hw ⟨k, hk, x18, L, hA, h, rfl⟩
          rcases k with _ | n
          · simp [go_label_read_J3] at h
          · rw [go_label_read_J3] at h
            refine sat_weak hw ?_
            repeat refine sat_seq ?_
            refine sat_cond rfl (fun hb => ?_) (fun hb => ?_)
            · have h := ite_t hb h
              repeat refine sat_seq ?_
              refine satO_reg ?_
              have g0 := hA.get (k := 0) rfl
              refine satO_step 1 [] ⟨an 2 (.ptr (lv + 1) i2 0 :: an 1 (.str y3.1 :: an 2 (.str y16.1 :: an 51 (.bool x18 :: .agg [.str ([]), .int .i64 0] :: an 21 [])))), ⟨lv + 1, L, E⟩, [], E⟩ [] (by simp -implicitDefEqProofs [GStepT.cs, g0]) claims_nil ?_
              have g0 := hA.get (k := 0) rfl
              refine satO_step 1 [] ⟨an 2 (.ptr (lv + 1) i2 0 :: an 1 (.str y3.1 :: an 2 (.str y16.1 :: an 51 (.bool x18 :: .agg [.str ([]), .int .i64 0] :: an 21 [])))), ⟨lv + 1, (L.set i2 (some (.cells [.str ([]), .int .i64 0]))), E⟩, [], E⟩ [] (by simp -implicitDefEqProofs [GStepT.cs, g0]) claims_nil ?_
              have hA : AccG (lv + 1) (L.set i2 (some (.cells [.str ([]), .int .i64 0]))) [] [(i2, .cells [.str ([]), .int .i64 0])] := hA.upd (k := 0) rfl _
              generalize (L.set i2 (some (.cells [.str ([]), .int .i64 0]))) = L at hA ⊢
              have g0 := hA.get (k := 0) rfl
              refine satO_step 1 [] ⟨an 2 (.ptr (lv + 1) i2 0 :: .bool false :: .str y3.1 :: an 2 (.str y16.1 :: an 51 (.bool x18 :: .agg [.str ([]), .int .i64 0] :: an 21 []))), ⟨lv + 1, L, E⟩, [], E⟩ [] (by simp -implicitDefEqProofs [GStepT.cs, g0]) claims_nil ?_
              refine satO_nil (by simp) ?_
              repeat refine sat_seq ?_
              refine sat_ret ?_
              have g0 := hA.get (k := 0) rfl
              refine ends (v := .tup [.agg [.str ([]), .int .i64 0], .bool false]) (by simp [resultsV, resL, resV, tupOf, Tryd.f40, pLoad, g0, GStepT.cs]) rfl rfl ?_
              injection h with h
              subst h
              exact .keep _ (by simp [V.kin, V.kinL, GStepT.cs])
            · have h := ite_f hb h
              repeat refine sat_seq ?_
              refine sat_skip ?_
              repeat refine sat_seq ?_
              refine satO_reg ?_
              have g0 := hA.get (k := 0) rfl
              refine satO_step 1 [] ⟨an 2 (.ptr (lv + 1) i2 0 :: an 1 (.str y3.1 :: an 2 (.str y16.1 :: an 1 (.int .i64 0 :: an 49 (.bool x18 :: an 22 []))))), ⟨lv + 1, L, E⟩, [], E⟩ [] (by simp -implicitDefEqProofs [GStepT.cs, g0]) claims_nil ?_
              refine satO_nil (by simp) ?_
              repeat refine sat_seq ?_
              refine satO_reg ?_
              have g0 := hA.get (k := 0) rfl
              refine satO_step 1 [] ⟨an 2 (.ptr (lv + 1) i2 0 :: an 1 (.str y3.1 :: an 2 (.str y16.1 :: an 1 (.int .i64 0 :: an 49 (.bool x18 :: an 1 (.str y16.1 :: an 20 [])))))), ⟨lv + 1, L, E⟩, [], E⟩ [] (by simp -implicitDefEqProofs [GStepT.cs, g0]) claims_nil ?_
              refine satO_step 1 [] ⟨an 2 (.ptr (lv + 1) i2 0 :: an 1 (.str y3.1 :: an 2 (.str y16.1 :: an 1 (.int .i64 0 :: an 49 (.bool x18 :: an 1 (.str y16.1 :: .ptr (lv + 1) L.length 0 :: an 19 [])))))), ⟨lv + 1, (L ++ [some (.siter y16.1 0)]), E⟩, [], E⟩ [] (by simp -implicitDefEqProofs [GStepT.cs]) claims_nil ?_
              have hA : AccG (lv + 1) (L ++ [some (.siter y16.1 0)]) [] [(L.length, .siter y16.1 0), (i2, .cells [.str ([]), .int .i64 0])] := hA.obj _
              generalize L.length = i31 at hA ⊢
              generalize (L ++ [some (.siter y16.1 0)]) = L at hA ⊢
              refine satO_nil (by simp) ?_
              repeat refine sat_seq ?_
              refine sat_block ?_
              repeat refine sat_seq ?_
              refine sat_loop (fun k σ => ∃ (x32 : Nat) (x33 : GStepT) (x34 : Int) (L : List (Option AObj)), k ≤ n ∧ AccG (lv + 1) L [] [(i31, .siter y16.1 x32), (i2, .cells x33.cs)] ∧ go_label_read_L1 k y3 y16 x32 x33 x34 = some r ∧ σ = ⟨an 2 (.ptr (lv + 1) i2 0 :: an 1 (.str y3.1 :: an 4 (.int .i64 x34 :: an 52 (.ptr (lv + 1) i31 0 :: an 19 [])))), ⟨lv + 1, L, E⟩, [], E⟩) n ⟨an 2 (.ptr (lv + 1) i2 0 :: an 1 (.str y3.1 :: an 4 (.int .i64 0 :: an 52 (.ptr (lv + 1) i31 0 :: an 19 [])))), ⟨lv + 1, L, E⟩, [], E⟩ (weak_tmps ?_) ⟨0, (GStepT.mk ([]) 0), 0, L, Nat.le_refl _, hA, h, rfl⟩ ?_
              · (try simp only [an, List.map_cons, List.map_nil]); repeat (first | exact VLeL.nil | refine VLeL.cons (by first | exact VLe.refl _ | exact VLe.any _ | exact VLe.nil _ _ | exact VLe.full _ _ | (refine VLe.agg' ?_; repeat (first | exact VLeL.nil | refine VLeL.cons (by first | exact VLe.refl _ | exact VLe.any _ | exact VLe.nil _ _) ?_))) ?_)
              · rintro k σ ⟨x32, x33, x34, L, hk, hA, h, rfl⟩
                rcases k with _ | n
                · simp [go_label_read_L1] at h
                · rw [go_label_read_L1] at h
                  repeat refine sat_seq ?_
                  refine satO_reg ?_
                  have g0 := hA.get (k := 0) rfl
                  have g1 := hA.get (k := 1) rfl
                  rcases Bool.eq_false_or_eq_true (decide (x32 < y16.1.length)) with hg35 | hg35
                  · have h := ite_t hg35 h
                    refine satO_step 1 [] ⟨an 2 (.ptr (lv + 1) i2 0 :: an 1 (.str y3.1 :: an 4 (.int .i64 x34 :: an 52 (.ptr (lv + 1) i31 0 :: .tup [.bool true, .int .i64 ((x32 : Nat) : Int), .int .i32 ((decL y16.1 x32).1 : Int)] :: an 18 [])))), ⟨lv + 1, (L.set i31 (some (.siter y16.1 (x32 + (decL y16.1 x32).2)))), E⟩, [], E⟩ [] (by simp -implicitDefEqProofs [GStepT.cs, g0, g1, hg35, of_decide_eq_true hg35]) claims_nil ?_
                    have hA : AccG (lv + 1) (L.set i31 (some (.siter y16.1 (x32 + (decL y16.1 x32).2)))) [] [(i31, .siter y16.1 (x32 + (decL y16.1 x32).2)), (i2, .cells x33.cs)] := hA.upd (k := 0) rfl _
                    generalize (L.set i31 (some (.siter y16.1 (x32 + (decL y16.1 x32).2)))) = L at hA ⊢
                    have g0 := hA.get (k := 0) rfl
                    have g1 := hA.get (k := 1) rfl
                    refine satO_step 1 [] ⟨an 2 (.ptr (lv + 1) i2 0 :: an 1 (.str y3.1 :: an 4 (.int .i64 x34 :: an 52 (.ptr (lv + 1) i31 0 :: .tup [.bool true, .int .i64 ((x32 : Nat) : Int), .int .i32 ((decL y16.1 x32).1 : Int)] :: .bool true :: an 17 [])))), ⟨lv + 1, L, E⟩, [], E⟩ [] (by simp -implicitDefEqProofs [GStepT.cs, g0, g1]) claims_nil ?_
                    refine satO_nil (by simp) ?_
                    repeat refine sat_seq ?_
                    refine sat_cond rfl (fun hb => ?_) (fun hb => by cases hb)
                    repeat refine sat_seq ?_
                    refine sat_skip ?_
                    repeat refine sat_seq ?_
                    refine sat_block ?_
                    repeat refine sat_seq ?_
                    refine satO_reg ?_
                    have g0 := hA.get (k := 0) rfl
                    have g1 := hA.get (k := 1) rfl
                    refine satO_step 2 [] ⟨an 2 (.ptr (lv + 1) i2 0 :: an 1 (.str y3.1 :: an 4 (.int .i64 x34 :: an 1 (.int .i32 ((decL y16.1 x32).1 : Int) :: an 50 (.ptr (lv + 1) i31 0 :: .tup [.bool true, .int .i64 ((x32 : Nat) : Int), .int .i32 ((decL y16.1 x32).1 : Int)] :: .bool true :: .int .i32 ((decL y16.1 x32).1 : Int) :: an 16 []))))), ⟨lv + 1, L, E⟩, [], E⟩ [] (by simp -implicitDefEqProofs [GStepT.cs, g0, g1]) claims_nil ?_
                    refine satO_nil (by simp) ?_
                    repeat refine sat_seq ?_
                    refine sat_meet (fun σ => ∃ (k : Nat), k ≤ n ∧ ∃ (x36 : Bool) (L : List (Option AObj)), AccG (lv + 1) L [] [(i31, .siter y16.1 (x32 + (decL y16.1 x32).2)), (i2, .cells x33.cs)] ∧ go_label_read_J4 k y3 y16 x32 x33 x34 x36 = some r ∧ σ = ⟨an 2 (.ptr (lv + 1) i2 0 :: an 1 (.str y3.1 :: an 4 (.int .i64 x34 :: an 1 (.int .i32 ((decL y16.1 x32).1 : Int) :: an 50 (.ptr (lv + 1) i31 0 :: an 8 (.bool x36 :: an 10 [])))))), ⟨lv + 1, L, E⟩, [], E⟩) ?_ ?_
                    · refine satO_reg ?_
                      rcases Bool.eq_false_or_eq_true (decide (((decL y16.1 x32).1 : Int) < 48)) with hg37 | hg38
                      · have h := ite_t hg37 h
                        have hg37n := hg37
                        try simp at hg37n
                        have g0 := hA.get (k := 0) rfl
                        have g1 := hA.get (k := 1) rfl
                        refine satO_step 6 [] ⟨an 2 (.ptr (lv + 1) i2 0 :: an 1 (.str y3.1 :: an 4 (.int .i64 x34 :: an 1 (.int .i32 ((decL y16.1 x32).1 : Int) :: an 50 (.ptr (lv + 1) i31 0 :: .tup [.bool true, .int .i64 ((x32 : Nat) : Int), .int .i32 ((decL y16.1 x32).1 : Int)] :: .bool true :: .int .i32 ((decL y16.1 x32).1 : Int) :: .int .i32 ((decL y16.1 x32).1 : Int) :: .bool (decide (((decL y16.1 x32).1 : Int) < 48)) :: .bool (decide (((decL y16.1 x32).1 : Int) < 48)) :: .tup [] :: .tup [] :: .bool true :: an 10 []))))), ⟨lv + 1, L, E⟩, [], E⟩ [] (by first | (simp -implicitDefEqProofs [GStepT.cs, g0, g1, hg37]; done) | simp -implicitDefEqProofs [GStepT.cs, g0, g1, hg37, hg37n]) claims_nil ?_
                        refine satO_nil (by simp) ?_
                        refine ⟨⟨an 2 (.ptr (lv + 1) i2 0 :: an 1 (.str y3.1 :: an 4 (.int .i64 x34 :: an 1 (.int .i32 ((decL y16.1 x32).1 : Int) :: an 50 (.ptr (lv + 1) i31 0 :: an 8 (.bool true :: an 10 [])))))), ⟨lv + 1, L, E⟩, [], E⟩, weak_tmps ?_, n, by omega, true, L, hA, h, rfl⟩
                        (try simp only [an, List.map_cons, List.map_nil]); repeat (first | exact VLeL.nil | refine VLeL.cons (by first | exact VLe.refl _ | exact VLe.any _ | exact VLe.nil _ _ | exact VLe.full _ _ | (refine VLe.agg' ?_; repeat (first | exact VLeL.nil | refine VLeL.cons (by first | exact VLe.refl _ | exact VLe.any _ | exact VLe.nil _ _) ?_))) ?_)
                      · have h := ite_f hg38 h
                        have hg38n := hg38
                        try simp at hg38n
                        have g0 := hA.get (k := 0) rfl
                        have g1 := hA.get (k := 1) rfl
                        refine satO_step 6 [] ⟨an 2 (.ptr (lv + 1) i2 0 :: an 1 (.str y3.1 :: an 4 (.int .i64 x34 :: an 1 (.int .i32 ((decL y16.1 x32).1 : Int) :: an 50 (.ptr (lv + 1) i31 0 :: .tup [.bool true, .int .i64 ((x32 : Nat) : Int), .int .i32 ((decL y16.1 x32).1 : Int)] :: .bool true :: .int .i32 ((decL y16.1 x32).1 : Int) :: .int .i32 ((decL y16.1 x32).1 : Int) :: .bool (decide (((decL y16.1 x32).1 : Int) < 48)) :: .bool (decide (((decL y16.1 x32).1 : Int) < 48)) :: .int .i32 ((decL y16.1 x32).1 : Int) :: .bool (decide (57 < ((decL y16.1 x32).1 : Int))) :: .bool (decide (57 < ((decL y16.1 x32).1 : Int))) :: an 10 []))))), ⟨lv + 1, L, E⟩, [], E⟩ [] (by first | (simp -implicitDefEqProofs [GStepT.cs, g0, g1, hg38]; done) | simp -implicitDefEqProofs [GStepT.cs, g0, g1, hg38, hg38n]) claims_nil ?_
                        refine satO_nil (by simp) ?_
                        refine ⟨⟨an 2 (.ptr (lv + 1) i2 0 :: an 1 (.str y3.1 :: an 4 (.int .i64 x34 :: an 1 (.int .i32 ((decL y16.1 x32).1 : Int) :: an 50 (.ptr (lv + 1) i31 0 :: an 8 (.bool (decide (57 < ((decL y16.1 x32).1 : Int))) :: an 10 [])))))), ⟨lv + 1, L, E⟩, [], E⟩, weak_tmps ?_, n, by omega, (decide (57 < ((decL y16.1 x32).1 : Int))), L, hA, h, rfl⟩
                        (try simp only [an, List.map_cons, List.map_nil]); repeat (first | exact VLeL.nil | refine VLeL.cons (by first | exact VLe.refl _ | exact VLe.any _ | exact VLe.nil _ _ | exact VLe.full _ _ | (refine VLe.agg' ?_; repeat (first | exact VLeL.nil | refine VLeL.cons (by first | exact VLe.refl _ | exact VLe.any _ | exact VLe.nil _ _) ?_))) ?_)
                    · rintro σ0 σ hw ⟨k, hk, x36, L, hA, h, rfl⟩
                      rcases k with _ | n
                      · simp [go_label_read_J4] at h
                      · rw [go_label_read_J4] at h
                        refine sat_weak hw ?_
                        repeat refine sat_seq ?_
                        refine sat_cond rfl (fun hb => ?_) (fun hb => ?_)
                        · have h := ite_t hb h
                          repeat refine sat_seq ?_
                          refine satO_reg ?_
                          have g0 := hA.get (k := 0) rfl
                          have g1 := hA.get (k := 1) rfl
                          refine satO_step 1 [] ⟨an 2 (.ptr (lv + 1) i2 0 :: an 1 (.str y3.1 :: an 4 (.int .i64 x34 :: an 1 (.int .i32 ((decL y16.1 x32).1 : Int) :: an 50 (.ptr (lv + 1) i31 0 :: an 8 (.bool x36 :: .agg [.str ([]), .int .i64 0] :: an 9 [])))))), ⟨lv + 1, L, E⟩, [], E⟩ [] (by simp -implicitDefEqProofs [GStepT.cs, g0, g1]) claims_nil ?_
                          have g0 := hA.get (k := 0) rfl
                          have g1 := hA.get (k := 1) rfl
                          refine satO_step 1 [] ⟨an 2 (.ptr (lv + 1) i2 0 :: an 1 (.str y3.1 :: an 4 (.int .i64 x34 :: an 1 (.int .i32 ((decL y16.1 x32).1 : Int) :: an 50 (.ptr (lv + 1) i31 0 :: an 8 (.bool x36 :: .agg [.str ([]), .int .i64 0] :: an 9 [])))))), ⟨lv + 1, (L.set i2 (some (.cells [.str ([]), .int .i64 0]))), E⟩, [], E⟩ [] (by simp -implicitDefEqProofs [GStepT.cs, g0, g1]) claims_nil ?_
                          have hA : AccG (lv + 1) (L.set i2 (some (.cells [.str ([]), .int .i64 0]))) [] [(i31, .siter y16.1 (x32 + (decL y16.1 x32).2)), (i2, .cells [.str ([]), .int .i64 0])] := hA.upd (k := 1) rfl _
                          generalize (L.set i2 (some (.cells [.str ([]), .int .i64 0]))) = L at hA ⊢
                          have g0 := hA.get (k := 0) rfl
                          have g1 := hA.get (k := 1) rfl
                          refine satO_step 1 [] ⟨an 2 (.ptr (lv + 1) i2 0 :: .bool false :: .str y3.1 :: an 4 (.int .i64 x34 :: an 1 (.int .i32 ((decL y16.1 x32).1 : Int) :: an 50 (.ptr (lv + 1) i31 0 :: an 8 (.bool x36 :: .agg [.str ([]), .int .i64 0] :: an 9 []))))), ⟨lv + 1, L, E⟩, [], E⟩ [] (by simp -implicitDefEqProofs [GStepT.cs, g0, g1]) claims_nil ?_
                          refine satO_nil (by simp) ?_
                          repeat refine sat_seq ?_
                          refine sat_ret ?_
                          have g0 := hA.get (k := 0) rfl
                          have g1 := hA.get (k := 1) rfl
                          refine ends (v := .tup [.agg [.str ([]), .int .i64 0], .bool false]) (by simp [resultsV, resL, resV, tupOf, Tryd.f40, pLoad, g0, g1, GStepT.cs]) rfl rfl ?_
                          injection h with h
                          subst h
                          exact .keep _ (by simp [V.kin, V.kinL, GStepT.cs])
                        · have h := ite_f hb h
                          repeat refine sat_seq ?_
                          refine sat_skip ?_
                          repeat refine sat_seq ?_
                          refine satO_reg ?_
                          have g0 := hA.get (k := 0) rfl
                          have g1 := hA.get (k := 1) rfl
                          refine satO_step 7 [] ⟨an 2 (.ptr (lv + 1) i2 0 :: an 1 (.str y3.1 :: an 4 (.int .i64 (IntKind.i64.wrap ((IntKind.i64.wrap (10 * x34)) + (IntKind.i64.wrap (IntKind.i32.wrap (((decL y16.1 x32).1 : Int) - 48))))) :: an 1 (.int .i32 ((decL y16.1 x32).1 : Int) :: an 50 (.ptr (lv + 1) i31 0 :: an 8 (.bool x36 :: an 1 (.int .i64 x34 :: .int .i64 (IntKind.i64.wrap (10 * x34)) :: .int .i32 ((decL y16.1 x32).1 : Int) :: .int .i32 (IntKind.i32.wrap (((decL y16.1 x32).1 : Int) - 48)) :: .int .i64 (IntKind.i64.wrap (IntKind.i32.wrap (((decL y16.1 x32).1 : Int) - 48))) :: .int .i64 (IntKind.i64.wrap ((IntKind.i64.wrap (10 * x34)) + (IntKind.i64.wrap (IntKind.i32.wrap (((decL y16.1 x32).1 : Int) - 48))))) :: an 3 []))))))), ⟨lv + 1, L, E⟩, [], E⟩ [] (by simp -implicitDefEqProofs [GStepT.cs, g0, g1]) claims_nil ?_
                          refine satO_nil (by simp) ?_
                          refine ⟨n, ⟨an 2 (.ptr (lv + 1) i2 0 :: an 1 (.str y3.1 :: an 4 (.int .i64 (IntKind.i64.wrap ((IntKind.i64.wrap (10 * x34)) + (IntKind.i64.wrap (IntKind.i32.wrap (((decL y16.1 x32).1 : Int) - 48))))) :: an 52 (.ptr (lv + 1) i31 0 :: an 19 [])))), ⟨lv + 1, L, E⟩, [], E⟩, weak_tmps ?_, ⟨(x32 + (decL y16.1 x32).2), x33, (IntKind.i64.wrap ((IntKind.i64.wrap (10 * x34)) + (IntKind.i64.wrap (IntKind.i32.wrap (((decL y16.1 x32).1 : Int) - 48))))), L, by omega, hA, h, rfl⟩, by omega⟩
                          (try simp only [an, List.map_cons, List.map_nil]); repeat (first | exact VLeL.nil | refine VLeL.cons (by first | exact VLe.refl _ | exact VLe.any _ | exact VLe.nil _ _ | exact VLe.full _ _ | (refine VLe.agg' ?_; repeat (first | exact VLeL.nil | refine VLeL.cons (by first | exact VLe.refl _ | exact VLe.any _ | exact VLe.nil _ _) ?_))) ?_)
                  · have h := ite_f hg35 h
                    refine satO_step 1 [] ⟨an 2 (.ptr (lv + 1) i2 0 :: an 1 (.str y3.1 :: an 4 (.int .i64 x34 :: an 52 (.ptr (lv + 1) i31 0 :: .tup [.bool false] :: an 18 [])))), ⟨lv + 1, L, E⟩, [], E⟩ [] (by simp -implicitDefEqProofs [GStepT.cs, g0, g1, hg35, of_decide_eq_false hg35]) claims_nil ?_
                    have g0 := hA.get (k := 0) rfl
                    have g1 := hA.get (k := 1) rfl
                    refine satO_step 1 [] ⟨an 2 (.ptr (lv + 1) i2 0 :: an 1 (.str y3.1 :: an 4 (.int .i64 x34 :: an 52 (.ptr (lv + 1) i31 0 :: .tup [.bool false] :: .bool false :: an 17 [])))), ⟨lv + 1, L, E⟩, [], E⟩ [] (by simp -implicitDefEqProofs [GStepT.cs, g0, g1]) claims_nil ?_
                    refine satO_nil (by simp) ?_
                    repeat refine sat_seq ?_
                    refine sat_cond rfl (fun hb => by cases hb) (fun hb => ?_)
                    repeat refine sat_seq ?_
                    refine sat_exit ?_
                    repeat refine sat_seq ?_
                    refine satO_reg ?_
                    have g0 := hA.get (k := 0) rfl
                    have g1 := hA.get (k := 1) rfl
                    refine satO_step 3 [] ⟨an 2 (.ptr (lv + 1) i2 0 :: an 1 (.str y3.1 :: an 4 (.int .i64 x34 :: an 52 (.ptr (lv + 1) i31 0 :: .tup [.bool false] :: .bool false :: an 14 (.str y3.1 :: .int .i64 x34 :: .agg [.str y3.1, .int .i64 x34] :: []))))), ⟨lv + 1, L, E⟩, [], E⟩ [] (by simp -implicitDefEqProofs [GStepT.cs, g0, g1]) claims_nil ?_
                    have g0 := hA.get (k := 0) rfl
                    have g1 := hA.get (k := 1) rfl
                    refine satO_step 1 [] ⟨an 2 (.ptr (lv + 1) i2 0 :: an 1 (.str y3.1 :: an 4 (.int .i64 x34 :: an 52 (.ptr (lv + 1) i31 0 :: .tup [.bool false] :: .bool false :: an 14 (.str y3.1 :: .int .i64 x34 :: .agg [.str y3.1, .int .i64 x34] :: []))))), ⟨lv + 1, (L.set i2 (some (.cells [.str y3.1, .int .i64 x34]))), E⟩, [], E⟩ [] (by simp -implicitDefEqProofs [GStepT.cs, g0, g1]) claims_nil ?_
                    have hA : AccG (lv + 1) (L.set i2 (some (.cells [.str y3.1, .int .i64 x34]))) [] [(i31, .siter y16.1 x32), (i2, .cells [.str y3.1, .int .i64 x34])] := hA.upd (k := 1) rfl _
                    generalize (L.set i2 (some (.cells [.str y3.1, .int .i64 x34]))) = L at hA ⊢
                    have g0 := hA.get (k := 0) rfl
                    have g1 := hA.get (k := 1) rfl
                    refine satO_step 1 [] ⟨an 2 (.ptr (lv + 1) i2 0 :: .bool true :: .str y3.1 :: an 4 (.int .i64 x34 :: an 52 (.ptr (lv + 1) i31 0 :: .tup [.bool false] :: .bool false :: an 14 (.str y3.1 :: .int .i64 x34 :: .agg [.str y3.1, .int .i64 x34] :: [])))), ⟨lv + 1, L, E⟩, [], E⟩ [] (by simp -implicitDefEqProofs [GStepT.cs, g0, g1]) claims_nil ?_
                    refine satO_nil (by simp) ?_
                    repeat refine sat_seq ?_
                    refine sat_ret ?_
                    have g0 := hA.get (k := 0) rfl
                    have g1 := hA.get (k := 1) rfl
                    refine ends (v := .tup [.agg [.str y3.1, .int .i64 x34], .bool true]) (by simp [resultsV, resL, resV, tupOf, Tryd.f40, pLoad, g0, g1, GStepT.cs]) rfl rfl ?_
                    injection h with h
                    subst h
                    exact .keep _ (by simp [V.kin, V.kinL, GStepT.cs])
end Go.Proofs

namespace Go.Proofs
open Go Go.Ab
set_option maxRecDepth 10000
set_option maxHeartbeats 1000000
set_option linter.unusedSimpArgs false
set_option linter.unusedVariables false
theorem go_override_formed_1_ok (n : Nat) (a0 : Int) (r : Bool) (h : go_override_formed_1 n a0 = some r) : PCall Tryd.prog 30 [.int .i32 a0] (.bool r) := by
  rw [go_override_formed_1] at h
  refine pcall_of Tryd.func30 rfl Tryd.ntmps30 (fun _ _ => Tryd.call30 _ _) fun lv E => ?_
  simp only [List.length_cons, List.length_nil, Nat.reduceAdd, Nat.reduceSub, List.replicate, List.cons_append, List.nil_append]
  have hA := AccG.nil (lv + 1)
  generalize ([] : List (Option AObj)) = L at hA ⊢
  repeat refine sat_seq ?_
  refine satO_reg ?_
  refine satO_step 1 [] ⟨.int .i32 a0 :: an 1 (.bool false :: an 6 []), ⟨lv + 1, L, E⟩, [], E⟩ [] (by simp -implicitDefEqProofs []) claims_nil ?_
  refine satO_nil (by simp) ?_
  repeat refine sat_seq ?_
  refine sat_meet (fun σ => ∃ (x1 : Bool) (L : List (Option AObj)), AccG (lv + 1) L [] [] ∧ go_override_formed_1_J1 n x1 = some r ∧ σ = ⟨an 2 (.bool x1 :: an 6 []), ⟨lv + 1, L, E⟩, [], E⟩) ?_ ?_
  · refine satO_reg ?_
    rcases Bool.eq_false_or_eq_true (decide (a0 < 32)) with hg2 | hg3
    · have h := ite_t hg2 h
      have hg2n := hg2
      try simp at hg2n
      refine satO_step 7 [] ⟨.int .i32 a0 :: an 1 (.bool true :: .int .i32 a0 :: .bool (decide (a0 < 32)) :: .bool (decide (a0 < 32)) :: .tup [] :: .tup [] :: .bool true :: []), ⟨lv + 1, L, E⟩, [], E⟩ [] (by first | (simp -implicitDefEqProofs [hg2]; done) | simp -implicitDefEqProofs [hg2, hg2n]) claims_nil ?_
      refine satO_nil (by simp) ?_
      refine ⟨⟨an 2 (.bool true :: an 6 []), ⟨lv + 1, L, E⟩, [], E⟩, weak_tmps ?_, true, L, hA, h, rfl⟩
      (try simp only [an, List.map_cons, List.map_nil]); repeat (first | exact VLeL.nil | refine VLeL.cons (by first | exact VLe.refl _ | exact VLe.any _ | exact VLe.nil _ _ | exact VLe.full _ _ | (refine VLe.agg' ?_; repeat (first | exact VLeL.nil | refine VLeL.cons (by first | exact VLe.refl _ | exact VLe.any _ | exact VLe.nil _ _) ?_))) ?_)
    · have h := ite_f hg3 h
      have hg3n := hg3
      try simp at hg3n
      refine satO_step 7 [] ⟨.int .i32 a0 :: an 1 (.bool (decide (126 < a0)) :: .int .i32 a0 :: .bool (decide (a0 < 32)) :: .bool (decide (a0 < 32)) :: .int .i32 a0 :: .bool (decide (126 < a0)) :: .bool (decide (126 < a0)) :: []), ⟨lv + 1, L, E⟩, [], E⟩ [] (by first | (simp -implicitDefEqProofs [hg3]; done) | simp -implicitDefEqProofs [hg3, hg3n]) claims_nil ?_
      refine satO_nil (by simp) ?_
      refine ⟨⟨an 2 (.bool (decide (126 < a0)) :: an 6 []), ⟨lv + 1, L, E⟩, [], E⟩, weak_tmps ?_, (decide (126 < a0)), L, hA, h, rfl⟩
      (try simp only [an, List.map_cons, List.map_nil]); repeat (first | exact VLeL.nil | refine VLeL.cons (by first | exact VLe.refl _ | exact VLe.any _ | exact VLe.nil _ _ | exact VLe.full _ _ | (refine VLe.agg' ?_; repeat (first | exact VLeL.nil | refine VLeL.cons (by first | exact VLe.refl _ | exact VLe.any _ | exact VLe.nil _ _) ?_))) ?_)
  · rintro σ0 σ hw ⟨x1, L, hA, h, rfl⟩
    rw [go_override_formed_1_J1] at h
    refine sat_weak hw ?_
    repeat refine sat_seq ?_
    refine sat_ret ?_
    refine ends (v := .bool x1) (by simp [resultsV, resL, resV, tupOf, Tryd.f30, pLoad]) rfl rfl ?_
    injection h with h
    subst h
    exact (.keep _ (by simp [V.kin, V.kinL]))
end Go.Proofs

namespace Go.Proofs
open Go Go.Ab
set_option maxRecDepth 10000
set_option maxHeartbeats 1000000
set_option linter.unusedSimpArgs false
set_option linter.unusedVariables false
theorem go_strings_indexFunc__override_formed_1_ok (n : Nat) (a0 : List UInt8) (a2 : Bool) (r : Int) (h : go_strings_indexFunc__override_formed_1 n a0 a2 = some r) : PCall Tryd.prog 41 [.str a0, .fn 30 [] [], .bool a2] (.int .i64 r) := by
  rcases n with _ | n
  · simp [go_strings_indexFunc__override_formed_1] at h
  rw [go_strings_indexFunc__override_formed_1] at h
  refine pcall_of Tryd.func41 rfl Tryd.ntmps41 (fun _ _ => Tryd.call41 _ _) fun lv E => ?_
  simp only [List.length_cons, List.length_nil, Nat.reduceAdd, Nat.reduceSub, List.replicate, List.cons_append, List.nil_append]
  have hA := AccG.nil (lv + 1)
  generalize ([] : List (Option AObj)) = L at hA ⊢
  repeat refine sat_seq ?_
  refine satO_reg ?_
  refine satO_step 1 [] ⟨.str a0 :: .fn 30 [] [] :: .bool a2 :: an 3 (.int .i64 0 :: an 14 []), ⟨lv + 1, L, E⟩, [], E⟩ [] (by simp -implicitDefEqProofs []) claims_nil ?_
  refine satO_nil (by simp) ?_
  repeat refine sat_seq ?_
  refine satO_reg ?_
  refine satO_step 1 [] ⟨.str a0 :: .fn 30 [] [] :: .bool a2 :: an 3 (.int .i64 0 :: an 2 (.str a0 :: an 11 [])), ⟨lv + 1, L, E⟩, [], E⟩ [] (by simp -implicitDefEqProofs []) claims_nil ?_
  refine satO_step 1 [] ⟨.str a0 :: .fn 30 [] [] :: .bool a2 :: an 3 (.int .i64 0 :: an 2 (.str a0 :: .ptr (lv + 1) L.length 0 :: an 10 [])), ⟨lv + 1, (L ++ [some (.siter a0 0)]), E⟩, [], E⟩ [] (by simp -implicitDefEqProofs []) claims_nil ?_
  have hA : AccG (lv + 1) (L ++ [some (.siter a0 0)]) [] [(L.length, .siter a0 0)] := hA.obj _
  generalize L.length = i2 at hA ⊢
  generalize (L ++ [some (.siter a0 0)]) = L at hA ⊢
  refine satO_nil (by simp) ?_
  repeat refine sat_seq ?_
  refine sat_block ?_
  repeat refine sat_seq ?_
  refine sat_loop (fun k σ => ∃ (x3 : Nat) (L : List (Option AObj)), k ≤ n ∧ AccG (lv + 1) L [] [(i2, .siter a0 x3)] ∧ go_strings_indexFunc__override_formed_1_L1 k a0 a2 x3 = some r ∧ σ = ⟨an 1 (.fn 30 [] [] :: .bool a2 :: an 7 (.ptr (lv + 1) i2 0 :: an 10 [])), ⟨lv + 1, L, E⟩, [], E⟩) n ⟨an 1 (.fn 30 [] [] :: .bool a2 :: an 7 (.ptr (lv + 1) i2 0 :: an 10 [])), ⟨lv + 1, L, E⟩, [], E⟩ (weak_tmps ?_) ⟨0, L, Nat.le_refl _, hA, h, rfl⟩ ?_
  · (try simp only [an, List.map_cons, List.map_nil]); repeat (first | exact VLeL.nil | refine VLeL.cons (by first | exact VLe.refl _ | exact VLe.any _ | exact VLe.nil _ _ | exact VLe.full _ _ | (refine VLe.agg' ?_; repeat (first | exact VLeL.nil | refine VLeL.cons (by first | exact VLe.refl _ | exact VLe.any _ | exact VLe.nil _ _) ?_))) ?_)
  · rintro k σ ⟨x3, L, hk, hA, h, rfl⟩
    rcases k with _ | n
    · simp [go_strings_indexFunc__override_formed_1_L1] at h
    · rw [go_strings_indexFunc__override_formed_1_L1] at h
      repeat refine sat_seq ?_
      refine satO_reg ?_
      have g0 := hA.get (k := 0) rfl
      rcases Bool.eq_false_or_eq_true (decide (x3 < a0.length)) with hg4 | hg4
      · have h := ite_t hg4 h
        refine satO_step 1 [] ⟨an 1 (.fn 30 [] [] :: .bool a2 :: an 7 (.ptr (lv + 1) i2 0 :: .tup [.bool true, .int .i64 ((x3 : Nat) : Int), .int .i32 ((decL a0 x3).1 : Int)] :: an 9 [])), ⟨lv + 1, (L.set i2 (some (.siter a0 (x3 + (decL a0 x3).2)))), E⟩, [], E⟩ [] (by simp -implicitDefEqProofs [g0, hg4, of_decide_eq_true hg4]) claims_nil ?_
        have hA : AccG (lv + 1) (L.set i2 (some (.siter a0 (x3 + (decL a0 x3).2)))) [] [(i2, .siter a0 (x3 + (decL a0 x3).2))] := hA.upd (k := 0) rfl _
        generalize (L.set i2 (some (.siter a0 (x3 + (decL a0 x3).2)))) = L at hA ⊢
        have g0 := hA.get (k := 0) rfl
        refine satO_step 1 [] ⟨an 1 (.fn 30 [] [] :: .bool a2 :: an 7 (.ptr (lv + 1) i2 0 :: .tup [.bool true, .int .i64 ((x3 : Nat) : Int), .int .i32 ((decL a0 x3).1 : Int)] :: .bool true :: an 8 [])), ⟨lv + 1, L, E⟩, [], E⟩ [] (by simp -implicitDefEqProofs [g0]) claims_nil ?_
        refine satO_nil (by simp) ?_
        repeat refine sat_seq ?_
        refine sat_cond rfl (fun hb => ?_) (fun hb => by cases hb)
        repeat refine sat_seq ?_
        refine sat_skip ?_
        repeat refine sat_seq ?_
        refine sat_block ?_
        repeat refine sat_seq ?_
        refine satO_reg ?_
        have g0 := hA.get (k := 0) rfl
        refine satO_step 4 [] ⟨an 1 (.fn 30 [] [] :: .bool a2 :: an 4 (.int .i64 ((x3 : Nat) : Int) :: .int .i32 ((decL a0 x3).1 : Int) :: an 1 (.ptr (lv + 1) i2 0 :: .tup [.bool true, .int .i64 ((x3 : Nat) : Int), .int .i32 ((decL a0 x3).1 : Int)] :: .bool true :: .int .i64 ((x3 : Nat) : Int) :: .int .i32 ((decL a0 x3).1 : Int) :: an 6 []))), ⟨lv + 1, L, E⟩, [], E⟩ [] (by simp -implicitDefEqProofs [g0]) claims_nil ?_
        refine satO_nil (by simp) ?_
        repeat refine sat_seq ?_
        refine satO_reg ?_
        obtain ⟨y5, q6, h⟩ := bnd_hi h
        have g0 := hA.get (k := 0) rfl
        refine satO_step 5 [(.bool y5, none)] ⟨an 1 (.fn 30 [] [] :: .bool a2 :: an 4 (.int .i64 ((x3 : Nat) : Int) :: .int .i32 ((decL a0 x3).1 : Int) :: an 1 (.ptr (lv + 1) i2 0 :: .tup [.bool true, .int .i64 ((x3 : Nat) : Int), .int .i32 ((decL a0 x3).1 : Int)] :: .bool true :: .int .i64 ((x3 : Nat) : Int) :: .int .i32 ((decL a0 x3).1 : Int) :: .fn 30 [] [] :: .int .i32 ((decL a0 x3).1 : Int) :: .bool y5 :: .bool a2 :: .bool (y5 == a2) :: an 1 []))), ⟨lv + 1, L, E⟩, [], E⟩ [⟨30, [.int .i32 ((decL a0 x3).1 : Int)], ⟨lv + 1, L, E⟩, .bool y5, ⟨lv + 1, L, E⟩⟩] (by simp -implicitDefEqProofs [g0]) (claims_cons (go_override_formed_1_ok _ _ _ q6 _) claims_nil) ?_
        refine satO_nil (by simp) ?_
        repeat refine sat_seq ?_
        refine sat_cond rfl (fun hb => ?_) (fun hb => ?_)
        · have h := ite_t hb h
          repeat refine sat_seq ?_
          refine satO_reg ?_
          have g0 := hA.get (k := 0) rfl
          refine satO_step 2 [] ⟨an 1 (.fn 30 [] [] :: .bool a2 :: an 3 (.int .i64 ((x3 : Nat) : Int) :: .int .i64 ((x3 : Nat) : Int) :: .int .i32 ((decL a0 x3).1 : Int) :: an 1 (.ptr (lv + 1) i2 0 :: .tup [.bool true, .int .i64 ((x3 : Nat) : Int), .int .i32 ((decL a0 x3).1 : Int)] :: .bool true :: .int .i64 ((x3 : Nat) : Int) :: .int .i32 ((decL a0 x3).1 : Int) :: .fn 30 [] [] :: .int .i32 ((decL a0 x3).1 : Int) :: .bool y5 :: .bool a2 :: .bool (y5 == a2) :: .int .i64 ((x3 : Nat) : Int) :: []))), ⟨lv + 1, L, E⟩, [], E⟩ [] (by simp -implicitDefEqProofs [g0]) claims_nil ?_
          refine satO_nil (by simp) ?_
          repeat refine sat_seq ?_
          refine sat_ret ?_
          have g0 := hA.get (k := 0) rfl
          refine ends (v := .int .i64 ((x3 : Nat) : Int)) (by simp [resultsV, resL, resV, tupOf, Tryd.f41, pLoad, g0]) rfl rfl ?_
          injection h with h
          subst h
          exact (.keep _ (by simp [V.kin, V.kinL]))
        · have h := ite_f hb h
          repeat refine sat_seq ?_
          refine sat_skip ?_
          refine ⟨n, ⟨an 1 (.fn 30 [] [] :: .bool a2 :: an 7 (.ptr (lv + 1) i2 0 :: an 10 [])), ⟨lv + 1, L, E⟩, [], E⟩, weak_tmps ?_, ⟨(x3 + (decL a0 x3).2), L, by omega, hA, h, rfl⟩, by omega⟩
          (try simp only [an, List.map_cons, List.map_nil]); repeat (first | exact VLeL.nil | refine VLeL.cons (by first | exact VLe.refl _ | exact VLe.any _ | exact VLe.nil _ _ | exact VLe.full _ _ | (refine VLe.agg' ?_; repeat (first | exact VLeL.nil | refine VLeL.cons (by first | exact VLe.refl _ | exact VLe.any _ | exact VLe.nil _ _) ?_))) ?_)
      · have h := ite_f hg4 h
        refine satO_step 1 [] ⟨an 1 (.fn 30 [] [] :: .bool a2 :: an 7 (.ptr (lv + 1) i2 0 :: .tup [.bool false] :: an 9 [])), ⟨lv + 1, L, E⟩, [], E⟩ [] (by simp -implicitDefEqProofs [g0, hg4, of_decide_eq_false hg4]) claims_nil ?_
        have g0 := hA.get (k := 0) rfl
        refine satO_step 1 [] ⟨an 1 (.fn 30 [] [] :: .bool a2 :: an 7 (.ptr (lv + 1) i2 0 :: .tup [.bool false] :: .bool false :: an 8 [])), ⟨lv + 1, L, E⟩, [], E⟩ [] (by simp -implicitDefEqProofs [g0]) claims_nil ?_
        refine satO_nil (by simp) ?_
        repeat refine sat_seq ?_
        refine sat_cond rfl (fun hb => by cases hb) (fun hb => ?_)
        repeat refine sat_seq ?_
        refine sat_exit ?_
        repeat refine sat_seq ?_
        refine satO_reg ?_
        have g0 := hA.get (k := 0) rfl
        refine satO_step 1 [] ⟨an 1 (.fn 30 [] [] :: .bool a2 :: an 3 (.int .i64 (-1) :: an 3 (.ptr (lv + 1) i2 0 :: .tup [.bool false] :: .bool false :: an 8 []))), ⟨lv + 1, L, E⟩, [], E⟩ [] (by simp -implicitDefEqProofs [g0]) claims_nil ?_
        refine satO_nil (by simp) ?_
        repeat refine sat_seq ?_
        refine sat_ret ?_
        have g0 := hA.get (k := 0) rfl
        refine ends (v := .int .i64 (-1)) (by simp [resultsV, resL, resV, tupOf, Tryd.f41, pLoad, g0]) rfl rfl ?_
        injection h with h
        subst h
        exact (.keep _ (by simp [V.kin, V.kinL]))
end Go.Proofs

namespace Go.Proofs
open Go Go.Ab
set_option maxRecDepth 10000
set_option maxHeartbeats 1000000
set_option linter.unusedSimpArgs false
set_option linter.unusedVariables false
theorem go_strings_IndexFunc__override_formed_1_ok (n : Nat) (a0 : List UInt8) (r : Int) (h : go_strings_IndexFunc__override_formed_1 n a0 = some r) : PCall Tryd.prog 31 [.str a0, .fn 30 [] []] (.int .i64 r) := by
  rw [go_strings_IndexFunc__override_formed_1] at h
  refine pcall_of Tryd.func31 rfl Tryd.ntmps31 (fun _ _ => Tryd.call31 _ _) fun lv E => ?_
  simp only [List.length_cons, List.length_nil, Nat.reduceAdd, Nat.reduceSub, List.replicate, List.cons_append, List.nil_append]
  have hA := AccG.nil (lv + 1)
  generalize ([] : List (Option AObj)) = L at hA ⊢
  repeat refine sat_seq ?_
  refine satO_reg ?_
  refine satO_step 1 [] ⟨.str a0 :: .fn 30 [] [] :: an 2 (.int .i64 0 :: an 3 []), ⟨lv + 1, L, E⟩, [], E⟩ [] (by simp -implicitDefEqProofs []) claims_nil ?_
  refine satO_nil (by simp) ?_
  repeat refine sat_seq ?_
  refine satO_reg ?_
  obtain ⟨y1, q2, h⟩ := bnd_hi h
  refine satO_step 4 [(.int .i64 y1, none)] ⟨.str a0 :: .fn 30 [] [] :: an 2 (.int .i64 y1 :: .str a0 :: .fn 30 [] [] :: .int .i64 y1 :: []), ⟨lv + 1, L, E⟩, [], E⟩ [⟨41, [.str a0, .fn 30 [] [], .bool true], ⟨lv + 1, L, E⟩, .int .i64 y1, ⟨lv + 1, L, E⟩⟩] (by simp -implicitDefEqProofs []) (claims_cons (go_strings_indexFunc__override_formed_1_ok _ _ _ _ q2 _) claims_nil) ?_
  refine satO_nil (by simp) ?_
  repeat refine sat_seq ?_
  refine sat_ret ?_
  refine ends (v := .int .i64 y1) (by simp [resultsV, resL, resV, tupOf, Tryd.f31, pLoad]) rfl rfl ?_
  injection h with h
  subst h
  exact (.keep _ (by simp [V.kin, V.kinL]))
end Go.Proofs
