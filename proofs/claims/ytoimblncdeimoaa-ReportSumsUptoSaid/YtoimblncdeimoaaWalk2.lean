/-
  The Go functions compute what their Lean functions do, by a program of this repo.
-/
import Derived.Test.YtoimblncdeimoaaFns
import Derived.Test.YtoimblncdeimoaaFacts
import Derived.Test.YtoimblncdeimoaaAbSimp
import Derived.Lib.Bytealg
import Derived.Laws.Externs
import Derived.KernelRfl
import Derived.Test.YtoimblncdeimoaaWalk1
import Derived.Test.YtoimblncdeimoaaWalk0
import Derived.Test.YtoimblncdeimoaaHand
namespace Go.Proofs
open Go Go.Ab
set_option maxRecDepth 10000
set_option maxHeartbeats 1000000
set_option linter.unusedSimpArgs false
set_option linter.unusedVariables false
theorem go_ref45_add_at_ok (n : Nat) (a0 : List GTally) (a1 : GTally) (r : (List GTally)) (h : go_ref45_add_at n a0 a1 = some r) : ∀ (lv : Nat) (L : List (Option AObj)) (E : Nat → Nat → Option AObj) (asl : List AccE) (osl : List (Nat × AObj)) (u0 : V), AccG lv L (⟨30, 3, u0, a0.map GTally.el, true⟩ :: asl) (osl) → HRel Try.prog 20 [u0, .agg a1.cs] ⟨lv, L, E⟩ (fun o H' => ∃ (L' : List (Option AObj)) (w0 : V), H' = ⟨lv, L', E⟩ ∧ AccG lv L' (⟨30, 3, w0, r.map GTally.el, true⟩ :: asl) (osl) ∧ o = .ret (w0)) := by
  rcases n with _ | n
  · simp [go_ref45_add_at] at h
  rw [go_ref45_add_at] at h
  intro lv L E asl osl u0 hA
  refine hrel_flat Try.func20 rfl Try.ntmps20 (fun _ _ => Try.call20 _ _) ?_
  simp only [List.length_cons, List.length_nil, Nat.reduceAdd, Nat.reduceSub, List.replicate, List.cons_append, List.nil_append]
  repeat refine sat_seq ?_
  refine satO_reg ?_
  refine satO_step 1 [] ⟨u0 :: .agg a1.cs :: an 1 (.ptr lv L.length 0 :: an 76 []), ⟨lv, (L ++ [some (.cells a1.cs)]), E⟩, [], E⟩ [] (by simp -implicitDefEqProofs [GTally.cs]) claims_nil ?_
  have hA : AccG lv (L ++ [some (.cells a1.cs)]) (⟨30, 3, u0, a0.map GTally.el, true⟩ :: asl) ((L.length, .cells a1.cs) :: osl) := hA.obj _
  generalize L.length = i2 at hA ⊢
  generalize (L ++ [some (.cells a1.cs)]) = L at hA ⊢
  have g0 := hA.get (k := 0) rfl
  refine satO_step 1 [] ⟨u0 :: .agg a1.cs :: an 1 (.ptr lv i2 0 :: .nils :: an 75 []), ⟨lv, L, E⟩, [], E⟩ [] (by simp -implicitDefEqProofs [GTally.cs, g0]) claims_nil ?_
  refine satO_nil (by simp) ?_
  repeat refine sat_seq ?_
  refine satO_reg ?_
  have g0 := hA.get (k := 0) rfl
  refine satO_step 1 [] ⟨u0 :: .agg a1.cs :: an 1 (.ptr lv i2 0 :: .nils :: .int .i64 0 :: an 74 []), ⟨lv, L, E⟩, [], E⟩ [] (by simp -implicitDefEqProofs [GTally.cs, g0]) claims_nil ?_
  refine satO_nil (by simp) ?_
  repeat refine sat_seq ?_
  refine sat_block ?_
  repeat refine sat_seq ?_
  refine sat_loop (fun k σ => ∃ (x3 : Int) (L : List (Option AObj)), k ≤ n ∧ AccG lv L (⟨30, 3, u0, a0.map GTally.el, true⟩ :: asl) ((i2, .cells a1.cs) :: osl) ∧ go_ref45_add_at_L1 k a0 a1 x3 = some r ∧ σ = ⟨u0 :: an 2 (.ptr lv i2 0 :: an 1 (.int .i64 x3 :: an 74 [])), ⟨lv, L, E⟩, [], E⟩) n ⟨u0 :: an 2 (.ptr lv i2 0 :: an 1 (.int .i64 0 :: an 74 [])), ⟨lv, L, E⟩, [], E⟩ (weak_tmps ?_) ⟨0, L, Nat.le_refl _, hA, h, rfl⟩ ?_
  · (try simp only [an, List.map_cons, List.map_nil]); repeat (first | exact VLeL.nil | refine VLeL.cons (by first | exact VLe.refl _ | exact VLe.any _ | exact VLe.nil _ _ | exact VLe.full _ _ | (refine VLe.agg' ?_; repeat (first | exact VLeL.nil | refine VLeL.cons (by first | exact VLe.refl _ | exact VLe.any _ | exact VLe.nil _ _) ?_))) ?_)
  · rintro k σ ⟨x3, L, hk, hA, h, rfl⟩
    rcases k with _ | n
    · simp [go_ref45_add_at_L1] at h
    · rw [go_ref45_add_at_L1] at h
      repeat refine sat_seq ?_
      refine sat_meet (fun σ => ∃ (k : Nat), k ≤ n ∧ ∃ (x4 : Bool) (L : List (Option AObj)), AccG lv L (⟨30, 3, u0, a0.map GTally.el, true⟩ :: asl) ((i2, .cells a1.cs) :: osl) ∧ go_ref45_add_at_J1 k a0 a1 x3 x4 = some r ∧ σ = ⟨u0 :: an 2 (.ptr lv i2 0 :: an 1 (.int .i64 x3 :: an 13 (.bool x4 :: an 60 []))), ⟨lv, L, E⟩, [], E⟩) ?_ ?_
      · have g5 := hA.len (P := Try.prog) (j := 0) rfl Try.underlying22 E
        simp only [List.length_map] at g5
        rcases Bool.eq_false_or_eq_true (decide (x3 < (a0.length : Int))) with hg6 | hg15
        · have h := ite_t hg6 h
          have hg6n := hg6
          try simp at hg6n
          obtain ⟨x7, q8, h⟩ := bnd_hi h
          obtain ⟨q8, q9⟩ := ix_some q8
          obtain ⟨p10, q11, q12, q13, q14⟩ := hA.put (P := Try.prog) (j := 0) rfl Try.underlying22 (by simp) (by simp) q8 (x := GTally.el x7) (by rw [List.getElem?_map, q9]; rfl) E
          have g0 := hA.get (k := 0) rfl
          refine satO_drw (by kernel_rfl) (by kernel_rfl) [] ⟨u0 :: an 2 (.ptr lv i2 0 :: an 1 (.int .i64 x3 :: .int .i64 x3 :: u0 :: .int .i64 (a0.length : Int) :: .bool (decide (x3 < (a0.length : Int))) :: .bool (decide (x3 < (a0.length : Int))) :: u0 :: .int .i64 x3 :: p10 0 :: p10 0 :: .str x7.name :: .ptr lv i2 0 :: .str a1.name :: .bool (Op.bytesLess x7.name a1.name) :: .bool (Op.bytesLess x7.name a1.name) :: an 60 [])), ⟨lv, L, E⟩, [], E⟩ [] (by first | (simp -implicitDefEqProofs [GTally.cs, g0, g5, hg6, q11, q12, q13, GTally.el_cs]; done) | simp -implicitDefEqProofs [GTally.cs, g0, g5, hg6, q11, q12, q13, GTally.el_cs, hg6n]) claims_nil ?_
          refine ⟨⟨u0 :: an 2 (.ptr lv i2 0 :: an 1 (.int .i64 x3 :: an 13 (.bool (Op.bytesLess x7.name a1.name) :: an 60 []))), ⟨lv, L, E⟩, [], E⟩, weak_tmps ?_, n, by omega, (Op.bytesLess x7.name a1.name), L, hA, h, rfl⟩
          (try simp only [an, List.map_cons, List.map_nil]); repeat (first | exact VLeL.nil | refine VLeL.cons (by first | exact VLe.refl _ | exact VLe.any _ | exact VLe.nil _ _ | exact VLe.full _ _ | (refine VLe.agg' ?_; repeat (first | exact VLeL.nil | refine VLeL.cons (by first | exact VLe.refl _ | exact VLe.any _ | exact VLe.nil _ _) ?_))) ?_)
        · have h := ite_f hg15 h
          have hg15n := hg15
          try simp at hg15n
          have g0 := hA.get (k := 0) rfl
          refine satO_drw (by kernel_rfl) (by kernel_rfl) [] ⟨u0 :: an 2 (.ptr lv i2 0 :: an 1 (.int .i64 x3 :: .int .i64 x3 :: u0 :: .int .i64 (a0.length : Int) :: .bool (decide (x3 < (a0.length : Int))) :: .bool (decide (x3 < (a0.length : Int))) :: .tup [] :: .tup [] :: .tup [] :: .tup [] :: .tup [] :: .tup [] :: .tup [] :: .tup [] :: .bool false :: an 60 [])), ⟨lv, L, E⟩, [], E⟩ [] (by first | (simp -implicitDefEqProofs [GTally.cs, g0, g5, hg15]; done) | simp -implicitDefEqProofs [GTally.cs, g0, g5, hg15, hg15n]) claims_nil ?_
          refine ⟨⟨u0 :: an 2 (.ptr lv i2 0 :: an 1 (.int .i64 x3 :: an 13 (.bool false :: an 60 []))), ⟨lv, L, E⟩, [], E⟩, weak_tmps ?_, n, by omega, false, L, hA, h, rfl⟩
          (try simp only [an, List.map_cons, List.map_nil]); repeat (first | exact VLeL.nil | refine VLeL.cons (by first | exact VLe.refl _ | exact VLe.any _ | exact VLe.nil _ _ | exact VLe.full _ _ | (refine VLe.agg' ?_; repeat (first | exact VLeL.nil | refine VLeL.cons (by first | exact VLe.refl _ | exact VLe.any _ | exact VLe.nil _ _) ?_))) ?_)
      · rintro σ0 σ hw ⟨k, hk, x4, L, hA, h, rfl⟩
        rcases k with _ | n
        · simp [go_ref45_add_at_J1] at h
        · rw [go_ref45_add_at_J1] at h
          refine sat_weak hw ?_
          repeat refine sat_seq ?_
          refine sat_cond rfl (fun hb => ?_) (fun hb => ?_)
          · have h := ite_t hb h
            repeat refine sat_seq ?_
            refine sat_skip ?_
            repeat refine sat_seq ?_
            refine sat_block ?_
            repeat refine sat_seq ?_
            refine satO_reg ?_
            have g0 := hA.get (k := 0) rfl
            refine satO_step 3 [] ⟨u0 :: an 2 (.ptr lv i2 0 :: an 1 (.int .i64 (IntKind.i64.wrap (x3 + 1)) :: an 13 (.bool x4 :: .int .i64 x3 :: .int .i64 (IntKind.i64.wrap (x3 + 1)) :: an 58 []))), ⟨lv, L, E⟩, [], E⟩ [] (by simp -implicitDefEqProofs [GTally.cs, g0]) claims_nil ?_
            refine satO_nil (by simp) ?_
            refine ⟨n, ⟨u0 :: an 2 (.ptr lv i2 0 :: an 1 (.int .i64 (IntKind.i64.wrap (x3 + 1)) :: an 74 [])), ⟨lv, L, E⟩, [], E⟩, weak_tmps ?_, ⟨(IntKind.i64.wrap (x3 + 1)), L, by omega, hA, h, rfl⟩, by omega⟩
            (try simp only [an, List.map_cons, List.map_nil]); repeat (first | exact VLeL.nil | refine VLeL.cons (by first | exact VLe.refl _ | exact VLe.any _ | exact VLe.nil _ _ | exact VLe.full _ _ | (refine VLe.agg' ?_; repeat (first | exact VLeL.nil | refine VLeL.cons (by first | exact VLe.refl _ | exact VLe.any _ | exact VLe.nil _ _) ?_))) ?_)
          · have h := ite_f hb h
            repeat refine sat_seq ?_
            refine sat_exit ?_
            repeat refine sat_seq ?_
            refine sat_meet (fun σ => ∃ (k : Nat), k ≤ n ∧ ∃ (x16 : Bool) (L : List (Option AObj)), AccG lv L (⟨30, 3, u0, a0.map GTally.el, true⟩ :: asl) ((i2, .cells a1.cs) :: osl) ∧ go_ref45_add_at_J2 k a0 a1 x3 x16 = some r ∧ σ = ⟨u0 :: an 2 (.ptr lv i2 0 :: an 1 (.int .i64 x3 :: an 29 (.bool x16 :: an 44 []))), ⟨lv, L, E⟩, [], E⟩) ?_ ?_
            · have g17 := hA.len (P := Try.prog) (j := 0) rfl Try.underlying22 E
              simp only [List.length_map] at g17
              rcases Bool.eq_false_or_eq_true (decide (x3 < (a0.length : Int))) with hg18 | hg27
              · have h := ite_t hg18 h
                have hg18n := hg18
                try simp at hg18n
                obtain ⟨x19, q20, h⟩ := bnd_hi h
                obtain ⟨q20, q21⟩ := ix_some q20
                obtain ⟨p22, q23, q24, q25, q26⟩ := hA.put (P := Try.prog) (j := 0) rfl Try.underlying22 (by simp) (by simp) q20 (x := GTally.el x19) (by rw [List.getElem?_map, q21]; rfl) E
                have g0 := hA.get (k := 0) rfl
                refine satO_drw (by kernel_rfl) (by kernel_rfl) [] ⟨u0 :: an 2 (.ptr lv i2 0 :: an 1 (.int .i64 x3 :: an 13 (.bool x4 :: an 2 (.int .i64 x3 :: u0 :: .int .i64 (a0.length : Int) :: .bool (decide (x3 < (a0.length : Int))) :: .bool (decide (x3 < (a0.length : Int))) :: u0 :: .int .i64 x3 :: p22 0 :: p22 0 :: .str x19.name :: .ptr lv i2 0 :: .str a1.name :: .bool (x19.name == a1.name) :: .bool (x19.name == a1.name) :: an 44 [])))), ⟨lv, L, E⟩, [], E⟩ [] (by first | (simp -implicitDefEqProofs [GTally.cs, g0, g17, hg18, q23, q24, q25, GTally.el_cs]; done) | simp -implicitDefEqProofs [GTally.cs, g0, g17, hg18, q23, q24, q25, GTally.el_cs, hg18n]) claims_nil ?_
                refine ⟨⟨u0 :: an 2 (.ptr lv i2 0 :: an 1 (.int .i64 x3 :: an 29 (.bool (x19.name == a1.name) :: an 44 []))), ⟨lv, L, E⟩, [], E⟩, weak_tmps ?_, n, by omega, (x19.name == a1.name), L, hA, h, rfl⟩
                (try simp only [an, List.map_cons, List.map_nil]); repeat (first | exact VLeL.nil | refine VLeL.cons (by first | exact VLe.refl _ | exact VLe.any _ | exact VLe.nil _ _ | exact VLe.full _ _ | (refine VLe.agg' ?_; repeat (first | exact VLeL.nil | refine VLeL.cons (by first | exact VLe.refl _ | exact VLe.any _ | exact VLe.nil _ _) ?_))) ?_)
              · have h := ite_f hg27 h
                have hg27n := hg27
                try simp at hg27n
                have g0 := hA.get (k := 0) rfl
                refine satO_drw (by kernel_rfl) (by kernel_rfl) [] ⟨u0 :: an 2 (.ptr lv i2 0 :: an 1 (.int .i64 x3 :: an 13 (.bool x4 :: an 2 (.int .i64 x3 :: u0 :: .int .i64 (a0.length : Int) :: .bool (decide (x3 < (a0.length : Int))) :: .bool (decide (x3 < (a0.length : Int))) :: .tup [] :: .tup [] :: .tup [] :: .tup [] :: .tup [] :: .tup [] :: .tup [] :: .tup [] :: .bool false :: an 44 [])))), ⟨lv, L, E⟩, [], E⟩ [] (by first | (simp -implicitDefEqProofs [GTally.cs, g0, g17, hg27]; done) | simp -implicitDefEqProofs [GTally.cs, g0, g17, hg27, hg27n]) claims_nil ?_
                refine ⟨⟨u0 :: an 2 (.ptr lv i2 0 :: an 1 (.int .i64 x3 :: an 29 (.bool false :: an 44 []))), ⟨lv, L, E⟩, [], E⟩, weak_tmps ?_, n, by omega, false, L, hA, h, rfl⟩
                (try simp only [an, List.map_cons, List.map_nil]); repeat (first | exact VLeL.nil | refine VLeL.cons (by first | exact VLe.refl _ | exact VLe.any _ | exact VLe.nil _ _ | exact VLe.full _ _ | (refine VLe.agg' ?_; repeat (first | exact VLeL.nil | refine VLeL.cons (by first | exact VLe.refl _ | exact VLe.any _ | exact VLe.nil _ _) ?_))) ?_)
            · rintro σ0 σ hw ⟨k, hk, x16, L, hA, h, rfl⟩
              rcases k with _ | n
              · simp [go_ref45_add_at_J2] at h
              · rw [go_ref45_add_at_J2] at h
                refine sat_weak hw ?_
                repeat refine sat_seq ?_
                refine sat_cond rfl (fun hb => ?_) (fun hb => ?_)
                · have h := ite_t hb h
                  repeat refine sat_seq ?_
                  obtain ⟨x28, q29, h⟩ := bnd_hi h
                  obtain ⟨q29, q30⟩ := ix_some q29
                  obtain ⟨p31, q32, q33, q34, q35⟩ := hA.put (P := Try.prog) (j := 0) rfl Try.underlying22 (by simp) (by simp) q29 (x := GTally.el x28) (by rw [List.getElem?_map, q30]; rfl) E
                  have g0 := hA.get (k := 0) rfl
                  refine satO_drt 13 (by kernel_rfl) (by kernel_rfl) [] ⟨u0 :: an 2 (.ptr lv i2 0 :: an 1 (.int .i64 x3 :: an 29 (.bool x16 :: u0 :: .int .i64 x3 :: u0 :: .int .i64 x3 :: p31 0 :: p31 1 :: .int .i64 x28.count :: .ptr lv i2 1 :: .int .i64 a1.count :: .int .i64 (IntKind.i64.wrap (x28.count + a1.count)) :: .int .i64 (mnI (IntKind.i64.wrap (x28.count + a1.count)) 1000000001) :: p31 0 :: p31 1 :: an 31 []))), ⟨lv, L, E⟩, [], E⟩ [] (by simp -implicitDefEqProofs [GTally.cs, g0, q32, q33, q34, GTally.el_cs]) claims_nil ?_
                  have g0 := hA.get (k := 0) rfl
                  obtain ⟨L, q36, hA⟩ := q35 3 1 (.int .i64 (mnI (IntKind.i64.wrap (x28.count + a1.count)) 1000000001)) (by simp) (by simp) (by simp [GTally.el_cs, GTally.cs]) (by simp [GTally.el_cs, GTally.cs]) (by simp [GTally.el_cs, GTally.cs])
                  refine satO_step 1 [] ⟨u0 :: an 2 (.ptr lv i2 0 :: an 1 (.int .i64 x3 :: an 29 (.bool x16 :: u0 :: .int .i64 x3 :: u0 :: .int .i64 x3 :: p31 0 :: p31 1 :: .int .i64 x28.count :: .ptr lv i2 1 :: .int .i64 a1.count :: .int .i64 (IntKind.i64.wrap (x28.count + a1.count)) :: .int .i64 (mnI (IntKind.i64.wrap (x28.count + a1.count)) 1000000001) :: p31 0 :: p31 1 :: an 31 []))), ⟨lv, L, E⟩, [], E⟩ [] (by simp -implicitDefEqProofs [-hStore, q36, g0]) claims_nil ?_
                  have hA : AccG lv L (⟨30, 3, u0, (a0.set (x3).toNat (GTally.mk x28.name (mnI (IntKind.i64.wrap (x28.count + a1.count)) 1000000001) x28.volume)).map GTally.el, true⟩ :: asl) ((i2, .cells a1.cs) :: osl) := by simpa [List.map_set, GTally.el_cs, GTally.cs] using hA
                  refine satO_nil (by simp) ?_
                  repeat refine sat_seq ?_
                  obtain ⟨x37, q38, h⟩ := bnd_hi h
                  obtain ⟨q38, q39⟩ := ix_some q38
                  obtain ⟨p40, q41, q42, q43, q44⟩ := hA.put (P := Try.prog) (j := 0) rfl Try.underlying22 (by simp) (by simp) q38 (x := GTally.el x37) (by rw [List.getElem?_map, q39]; rfl) E
                  have g0 := hA.get (k := 0) rfl
                  refine satO_drt 13 (by kernel_rfl) (by kernel_rfl) [] ⟨u0 :: an 2 (.ptr lv i2 0 :: an 1 (.int .i64 x3 :: an 29 (.bool x16 :: u0 :: .int .i64 x3 :: u0 :: .int .i64 x3 :: p31 0 :: p31 1 :: .int .i64 x28.count :: .ptr lv i2 1 :: .int .i64 a1.count :: .int .i64 (IntKind.i64.wrap (x28.count + a1.count)) :: .int .i64 (mnI (IntKind.i64.wrap (x28.count + a1.count)) 1000000001) :: p31 0 :: p31 1 :: u0 :: .int .i64 x3 :: u0 :: .int .i64 x3 :: p40 0 :: p40 2 :: .int .i64 x37.volume :: .ptr lv i2 2 :: .int .i64 a1.volume :: .int .i64 (IntKind.i64.wrap (x37.volume + a1.volume)) :: .int .i64 (mnI (IntKind.i64.wrap (x37.volume + a1.volume)) 1000000000000000001) :: p40 0 :: p40 2 :: an 18 []))), ⟨lv, L, E⟩, [], E⟩ [] (by simp -implicitDefEqProofs [GTally.cs, g0, q41, q42, q43, GTally.el_cs]) claims_nil ?_
                  have g0 := hA.get (k := 0) rfl
                  obtain ⟨L, q45, hA⟩ := q44 2 2 (.int .i64 (mnI (IntKind.i64.wrap (x37.volume + a1.volume)) 1000000000000000001)) (by simp) (by simp) (by simp [GTally.el_cs, GTally.cs]) (by simp [GTally.el_cs, GTally.cs]) (by simp [GTally.el_cs, GTally.cs])
                  refine satO_step 1 [] ⟨u0 :: an 2 (.ptr lv i2 0 :: an 1 (.int .i64 x3 :: an 29 (.bool x16 :: u0 :: .int .i64 x3 :: u0 :: .int .i64 x3 :: p31 0 :: p31 1 :: .int .i64 x28.count :: .ptr lv i2 1 :: .int .i64 a1.count :: .int .i64 (IntKind.i64.wrap (x28.count + a1.count)) :: .int .i64 (mnI (IntKind.i64.wrap (x28.count + a1.count)) 1000000001) :: p31 0 :: p31 1 :: u0 :: .int .i64 x3 :: u0 :: .int .i64 x3 :: p40 0 :: p40 2 :: .int .i64 x37.volume :: .ptr lv i2 2 :: .int .i64 a1.volume :: .int .i64 (IntKind.i64.wrap (x37.volume + a1.volume)) :: .int .i64 (mnI (IntKind.i64.wrap (x37.volume + a1.volume)) 1000000000000000001) :: p40 0 :: p40 2 :: an 18 []))), ⟨lv, L, E⟩, [], E⟩ [] (by simp -implicitDefEqProofs [-hStore, q45, g0]) claims_nil ?_
                  have hA : AccG lv L (⟨30, 3, u0, ((a0.set (x3).toNat (GTally.mk x28.name (mnI (IntKind.i64.wrap (x28.count + a1.count)) 1000000001) x28.volume)).set (x3).toNat (GTally.mk x37.name x37.count (mnI (IntKind.i64.wrap (x37.volume + a1.volume)) 1000000000000000001))).map GTally.el, true⟩ :: asl) ((i2, .cells a1.cs) :: osl) := by simpa [List.map_set, GTally.el_cs, GTally.cs] using hA
                  refine satO_nil (by simp) ?_
                  repeat refine sat_seq ?_
                  refine satO_reg ?_
                  have g0 := hA.get (k := 0) rfl
                  refine satO_step 2 [] ⟨u0 :: an 2 (.ptr lv i2 0 :: u0 :: .int .i64 x3 :: an 29 (.bool x16 :: u0 :: .int .i64 x3 :: u0 :: .int .i64 x3 :: p31 0 :: p31 1 :: .int .i64 x28.count :: .ptr lv i2 1 :: .int .i64 a1.count :: .int .i64 (IntKind.i64.wrap (x28.count + a1.count)) :: .int .i64 (mnI (IntKind.i64.wrap (x28.count + a1.count)) 1000000001) :: p31 0 :: p31 1 :: u0 :: .int .i64 x3 :: u0 :: .int .i64 x3 :: p40 0 :: p40 2 :: .int .i64 x37.volume :: .ptr lv i2 2 :: .int .i64 a1.volume :: .int .i64 (IntKind.i64.wrap (x37.volume + a1.volume)) :: .int .i64 (mnI (IntKind.i64.wrap (x37.volume + a1.volume)) 1000000000000000001) :: p40 0 :: p40 2 :: u0 :: an 17 [])), ⟨lv, L, E⟩, [], E⟩ [] (by simp -implicitDefEqProofs [GTally.cs, g0]) claims_nil ?_
                  refine satO_nil (by simp) ?_
                  repeat refine sat_seq ?_
                  refine sat_ret ?_
                  have g0 := hA.get (k := 0) rfl
                  have hA : AccG lv L (⟨30, 3, u0, ((a0.set (x3).toNat (GTally.mk x28.name (mnI (IntKind.i64.wrap (x28.count + a1.count)) 1000000001) x28.volume)).set (x3).toNat (GTally.mk x37.name x37.count (mnI (IntKind.i64.wrap (x37.volume + a1.volume)) 1000000000000000001))).map GTally.el, true⟩ :: asl) (osl) := hA.selT (pre := [⟨30, 3, u0, ((a0.set (x3).toNat (GTally.mk x28.name (mnI (IntKind.i64.wrap (x28.count + a1.count)) 1000000001) x28.volume)).set (x3).toNat (GTally.mk x37.name x37.count (mnI (IntKind.i64.wrap (x37.volume + a1.volume)) 1000000000000000001))).map GTally.el, true⟩]) (tl := asl) (preo := [(i2, .cells a1.cs)]) (tlo := osl) (pre' := [⟨30, 3, u0, ((a0.set (x3).toNat (GTally.mk x28.name (mnI (IntKind.i64.wrap (x28.count + a1.count)) 1000000001) x28.volume)).set (x3).toNat (GTally.mk x37.name x37.count (mnI (IntKind.i64.wrap (x37.volume + a1.volume)) 1000000000000000001))).map GTally.el, true⟩]) (preo' := []) [0] (by simp) rfl [] (by simp) rfl
                  injection h with h
                  subst h
                  try dsimp only [AExit.then, AExit.inBlock]
                  refine endsF (u0) (u0) (by simp [resultsV, resL, resV, tupOf, Try.f20, pLoad, g0, GTally.cs]) rfl ?_ ⟨L, u0, rfl, hA, rfl⟩
                  exact VLe.refl _
                · have h := ite_f hb h
                  repeat refine sat_seq ?_
                  refine sat_skip ?_
                  repeat refine sat_seq ?_
                  refine satO_reg ?_
                  have g0 := hA.get (k := 0) rfl
                  refine satO_step 3 [] ⟨u0 :: an 2 (.ptr lv i2 0 :: an 1 (.int .i64 x3 :: an 29 (.bool x16 :: an 27 (u0 :: .agg [.str ([]), .int .i64 0, .int .i64 0] :: .sl 3 [.agg [.str ([]), .int .i64 0, .int .i64 0]] true :: an 14 [])))), ⟨lv, L, E⟩, [], E⟩ [] (by simp -implicitDefEqProofs [GTally.cs, g0]) claims_nil ?_
                  obtain ⟨l46, q47, h⟩ := bnd_hi h
                  obtain ⟨q47, q48⟩ := ext_some q47
                  obtain ⟨v49, L, q50, hA⟩ := hA.push (j := 0) rfl [.agg [.str ([]), .int .i64 0, .int .i64 0]] (by simpa using q47) E
                  refine satO_step 1 [] ⟨u0 :: an 2 (.ptr lv i2 0 :: an 1 (.int .i64 x3 :: an 29 (.bool x16 :: an 27 (u0 :: .agg [.str ([]), .int .i64 0, .int .i64 0] :: .sl 3 [.agg [.str ([]), .int .i64 0, .int .i64 0]] true :: v49 :: an 13 [])))), ⟨lv, L, E⟩, [], E⟩ [] (by simp -implicitDefEqProofs [q50]) claims_nil ?_
                  have hA : AccG lv L (⟨30, 3, v49, l46.map GTally.el, true⟩ :: asl) ((i2, .cells a1.cs) :: osl) := by rw [q48]; first | simpa [GTally.el_cs] using hA | simpa [GTally.el_eq] using hA
                  have g0 := hA.get (k := 0) rfl
                  obtain ⟨w0a, w0b, w0c⟩ := hA.whole (j := 0) rfl
                  refine satO_step 1 [] ⟨v49 :: an 2 (.ptr lv i2 0 :: an 1 (.int .i64 x3 :: an 29 (.bool x16 :: an 27 (u0 :: .agg [.str ([]), .int .i64 0, .int .i64 0] :: .sl 3 [.agg [.str ([]), .int .i64 0, .int .i64 0]] true :: v49 :: an 13 [])))), ⟨lv, L, E⟩, [], E⟩ [] (by simp -implicitDefEqProofs [GTally.cs, g0, w0a, w0b, w0c]) claims_nil ?_
                  refine satO_nil (by simp) ?_
                  repeat refine sat_seq ?_
                  obtain ⟨l51, q52, h⟩ := bnd_hi h
                  have q53 := shiftO_map (f := GTally.el) q52
                  obtain ⟨v54, v55, L59, m0, q56, q57, q58, hA60⟩ := hA.shift (P := Try.prog) (j := 0) rfl Try.underlying22 (by simp) (by simp) (by simp) q53 E
                  have g0 := hA.get (k := 0) rfl
                  obtain ⟨w0a, w0b, w0c⟩ := hA.whole (j := 0) rfl
                  refine satO_drt 7 (by kernel_rfl) (by kernel_rfl) [] ⟨v49 :: an 2 (.ptr lv i2 0 :: an 1 (.int .i64 x3 :: an 29 (.bool x16 :: an 27 (u0 :: .agg [.str ([]), .int .i64 0, .int .i64 0] :: .sl 3 [.agg [.str ([]), .int .i64 0, .int .i64 0]] true :: v49 :: v49 :: .int .i64 x3 :: .int .i64 (IntKind.i64.wrap (x3 + 1)) :: v54 :: v49 :: .int .i64 x3 :: v55 :: an 6 [])))), ⟨lv, L, E⟩, [], E⟩ [] (by simp -implicitDefEqProofs [GTally.cs, g0, w0a, w0b, w0c, -pSlice, q56, q57]) claims_nil ?_
                  refine satO_step 1 [] ⟨v49 :: an 2 (.ptr lv i2 0 :: an 1 (.int .i64 x3 :: an 29 (.bool x16 :: an 27 (u0 :: .agg [.str ([]), .int .i64 0, .int .i64 0] :: .sl 3 [.agg [.str ([]), .int .i64 0, .int .i64 0]] true :: v49 :: v49 :: .int .i64 x3 :: .int .i64 (IntKind.i64.wrap (x3 + 1)) :: v54 :: v49 :: .int .i64 x3 :: v55 :: (.int .i64 m0) :: an 5 [])))), ⟨lv, L59, E⟩, [], E⟩ [] (by simp -implicitDefEqProofs [q58]) claims_nil ?_
                  have hA : AccG lv L59 (⟨30, 3, v49, l51.map GTally.el, true⟩ :: asl) ((i2, .cells a1.cs) :: osl) := by simpa using hA60
                  generalize hL0 : L59 = L at hA ⊢
                  clear hL0
                  refine satO_nil (by simp) ?_
                  repeat refine sat_seq ?_
                  refine satO_reg ?_
                  obtain ⟨x61, q62, h⟩ := bnd_hi h
                  obtain ⟨q62, q63⟩ := ix_some q62
                  obtain ⟨p64, q65, q66, q67, q68⟩ := hA.put (P := Try.prog) (j := 0) rfl Try.underlying22 (by simp) (by simp) q62 (x := GTally.el x61) (by rw [List.getElem?_map, q63]; rfl) E
                  have g0 := hA.get (k := 0) rfl
                  obtain ⟨w0a, w0b, w0c⟩ := hA.whole (j := 0) rfl
                  refine satO_step 4 [] ⟨v49 :: an 2 (.ptr lv i2 0 :: an 1 (.int .i64 x3 :: an 29 (.bool x16 :: an 27 (u0 :: .agg [.str ([]), .int .i64 0, .int .i64 0] :: .sl 3 [.agg [.str ([]), .int .i64 0, .int .i64 0]] true :: v49 :: v49 :: .int .i64 x3 :: .int .i64 (IntKind.i64.wrap (x3 + 1)) :: v54 :: v49 :: .int .i64 x3 :: v55 :: (.int .i64 m0) :: v49 :: .int .i64 x3 :: .agg a1.cs :: p64 0 :: an 1 [])))), ⟨lv, L, E⟩, [], E⟩ [] (by simp -implicitDefEqProofs [GTally.cs, g0, w0a, w0b, w0c, q65, q66, q67, GTally.el_cs]) claims_nil ?_
                  have g0 := hA.get (k := 0) rfl
                  obtain ⟨w0a, w0b, w0c⟩ := hA.whole (j := 0) rfl
                  obtain ⟨L, q69, hA⟩ := q68 30 0 (.agg a1.cs) (by simp) (by simp) (by simp [GTally.el_cs, GTally.cs]) (by simp [GTally.el_cs, GTally.cs]) (by simp [GTally.el_cs, GTally.cs])
                  refine satO_step 1 [] ⟨v49 :: an 2 (.ptr lv i2 0 :: an 1 (.int .i64 x3 :: an 29 (.bool x16 :: an 27 (u0 :: .agg [.str ([]), .int .i64 0, .int .i64 0] :: .sl 3 [.agg [.str ([]), .int .i64 0, .int .i64 0]] true :: v49 :: v49 :: .int .i64 x3 :: .int .i64 (IntKind.i64.wrap (x3 + 1)) :: v54 :: v49 :: .int .i64 x3 :: v55 :: (.int .i64 m0) :: v49 :: .int .i64 x3 :: .agg a1.cs :: p64 0 :: an 1 [])))), ⟨lv, L, E⟩, [], E⟩ [] (by simp -implicitDefEqProofs [-hStore, q69, g0, w0a, w0b, w0c]) claims_nil ?_
                  have hA : AccG lv L (⟨30, 3, v49, (l51.set (x3).toNat a1).map GTally.el, true⟩ :: asl) ((i2, .cells a1.cs) :: osl) := by simpa [List.map_set, GTally.el_cs, GTally.cs] using hA
                  refine satO_nil (by simp) ?_
                  repeat refine sat_seq ?_
                  refine satO_reg ?_
                  have g0 := hA.get (k := 0) rfl
                  obtain ⟨w0a, w0b, w0c⟩ := hA.whole (j := 0) rfl
                  refine satO_step 2 [] ⟨v49 :: an 2 (.ptr lv i2 0 :: v49 :: .int .i64 x3 :: an 29 (.bool x16 :: an 27 (u0 :: .agg [.str ([]), .int .i64 0, .int .i64 0] :: .sl 3 [.agg [.str ([]), .int .i64 0, .int .i64 0]] true :: v49 :: v49 :: .int .i64 x3 :: .int .i64 (IntKind.i64.wrap (x3 + 1)) :: v54 :: v49 :: .int .i64 x3 :: v55 :: (.int .i64 m0) :: v49 :: .int .i64 x3 :: .agg a1.cs :: p64 0 :: v49 :: []))), ⟨lv, L, E⟩, [], E⟩ [] (by simp -implicitDefEqProofs [GTally.cs, g0, w0a, w0b, w0c]) claims_nil ?_
                  refine satO_nil (by simp) ?_
                  repeat refine sat_seq ?_
                  refine sat_ret ?_
                  have g0 := hA.get (k := 0) rfl
                  obtain ⟨w0a, w0b, w0c⟩ := hA.whole (j := 0) rfl
                  have hA : AccG lv L (⟨30, 3, v49, (l51.set (x3).toNat a1).map GTally.el, true⟩ :: asl) (osl) := hA.selT (pre := [⟨30, 3, v49, (l51.set (x3).toNat a1).map GTally.el, true⟩]) (tl := asl) (preo := [(i2, .cells a1.cs)]) (tlo := osl) (pre' := [⟨30, 3, v49, (l51.set (x3).toNat a1).map GTally.el, true⟩]) (preo' := []) [0] (by simp) rfl [] (by simp) rfl
                  injection h with h
                  subst h
                  try dsimp only [AExit.then, AExit.inBlock]
                  refine endsF (v49) (v49) (by simp [resultsV, resL, resV, tupOf, Try.f20, pLoad, g0, w0a, w0b, w0c, GTally.cs]) rfl ?_ ⟨L, v49, rfl, hA, rfl⟩
                  exact VLe.refl _
end Go.Proofs

namespace Go.Proofs
open Go Go.Ab
set_option maxRecDepth 10000
set_option maxHeartbeats 1000000
set_option linter.unusedSimpArgs false
set_option linter.unusedVariables false
theorem go_ref45_within_ok (n : Nat) (a0 : List GTally) (r : Int) (h : go_ref45_within n a0 = some r) : PCall Try.prog 21 [.sl 3 (a0.map GTally.el) false] (.int .i64 r) := by
  rcases n with _ | n
  · simp [go_ref45_within] at h
  rw [go_ref45_within] at h
  refine pcall_of Try.func21 rfl Try.ntmps21 (fun _ _ => Try.call21 _ _) fun lv E => ?_
  simp only [List.length_cons, List.length_nil, Nat.reduceAdd, Nat.reduceSub, List.replicate, List.cons_append, List.nil_append]
  have hA := AccG.nil (lv + 1)
  generalize ([] : List (Option AObj)) = L at hA ⊢
  repeat refine sat_seq ?_
  refine satO_reg ?_
  refine satO_step 1 [] ⟨.sl 3 (a0.map GTally.el) false :: an 1 (.int .i64 0 :: an 24 []), ⟨lv + 1, L, E⟩, [], E⟩ [] (by simp -implicitDefEqProofs []) claims_nil ?_
  refine satO_nil (by simp) ?_
  repeat refine sat_seq ?_
  refine satO_reg ?_
  refine satO_step 3 [] ⟨.sl 3 (a0.map GTally.el) false :: an 1 (.int .i64 0 :: an 1 (.sl 3 (a0.map GTally.el) false :: .int .i64 (a0.length : Int) :: .bool (decide (200 < (a0.length : Int))) :: an 20 [])), ⟨lv + 1, L, E⟩, [], E⟩ [] (by simp -implicitDefEqProofs []) claims_nil ?_
  refine satO_nil (by simp) ?_
  repeat refine sat_seq ?_
  refine sat_cond rfl (fun hb => ?_) (fun hb => ?_)
  · have h := ite_t hb h
    repeat refine sat_seq ?_
    refine satO_reg ?_
    refine satO_step 1 [] ⟨.sl 3 (a0.map GTally.el) false :: an 1 (.int .i64 4 :: an 1 (.sl 3 (a0.map GTally.el) false :: .int .i64 (a0.length : Int) :: .bool (decide (200 < (a0.length : Int))) :: an 20 [])), ⟨lv + 1, L, E⟩, [], E⟩ [] (by simp -implicitDefEqProofs []) claims_nil ?_
    refine satO_nil (by simp) ?_
    repeat refine sat_seq ?_
    refine sat_ret ?_
    refine ends (v := .int .i64 4) (by simp [resultsV, resL, resV, tupOf, Try.f21, pLoad]) rfl rfl ?_
    injection h with h
    subst h
    exact (.keep _ (by simp [V.kin, V.kinL]))
  · have h := ite_f hb h
    repeat refine sat_seq ?_
    refine sat_skip ?_
    repeat refine sat_seq ?_
    refine satO_reg ?_
    refine satO_step 1 [] ⟨.sl 3 (a0.map GTally.el) false :: an 1 (.int .i64 0 :: .int .i64 0 :: .sl 3 (a0.map GTally.el) false :: .int .i64 (a0.length : Int) :: .bool (decide (200 < (a0.length : Int))) :: an 20 []), ⟨lv + 1, L, E⟩, [], E⟩ [] (by simp -implicitDefEqProofs []) claims_nil ?_
    refine satO_nil (by simp) ?_
    repeat refine sat_seq ?_
    refine sat_block ?_
    repeat refine sat_seq ?_
    refine sat_loop (fun k σ => ∃ (x1 : Int) (L : List (Option AObj)), k ≤ n ∧ AccG (lv + 1) L [] [] ∧ go_ref45_within_L1 k a0 x1 = some r ∧ σ = ⟨.sl 3 (a0.map GTally.el) false :: an 2 (.int .i64 x1 :: an 23 []), ⟨lv + 1, L, E⟩, [], E⟩) n ⟨.sl 3 (a0.map GTally.el) false :: an 2 (.int .i64 0 :: an 23 []), ⟨lv + 1, L, E⟩, [], E⟩ (weak_tmps ?_) ⟨0, L, Nat.le_refl _, hA, h, rfl⟩ ?_
    · (try simp only [an, List.map_cons, List.map_nil]); repeat (first | exact VLeL.nil | refine VLeL.cons (by first | exact VLe.refl _ | exact VLe.any _ | exact VLe.nil _ _ | exact VLe.full _ _ | (refine VLe.agg' ?_; repeat (first | exact VLeL.nil | refine VLeL.cons (by first | exact VLe.refl _ | exact VLe.any _ | exact VLe.nil _ _) ?_))) ?_)
    · rintro k σ ⟨x1, L, hk, hA, h, rfl⟩
      rcases k with _ | n
      · simp [go_ref45_within_L1] at h
      · rw [go_ref45_within_L1] at h
        repeat refine sat_seq ?_
        refine satO_reg ?_
        refine satO_step 4 [] ⟨.sl 3 (a0.map GTally.el) false :: an 2 (.int .i64 x1 :: an 3 (.int .i64 x1 :: .sl 3 (a0.map GTally.el) false :: .int .i64 (a0.length : Int) :: .bool (decide (x1 < (a0.length : Int))) :: an 16 [])), ⟨lv + 1, L, E⟩, [], E⟩ [] (by simp -implicitDefEqProofs []) claims_nil ?_
        refine satO_nil (by simp) ?_
        repeat refine sat_seq ?_
        refine sat_cond rfl (fun hb => ?_) (fun hb => ?_)
        · have h := ite_t hb h
          repeat refine sat_seq ?_
          refine sat_skip ?_
          repeat refine sat_seq ?_
          refine sat_block ?_
          repeat refine sat_seq ?_
          refine sat_meet (fun σ => ∃ (k : Nat), k ≤ n ∧ ∃ (x2 : Bool) (L : List (Option AObj)), AccG (lv + 1) L [] [] ∧ go_ref45_within_J1 k a0 x1 x2 = some r ∧ σ = ⟨.sl 3 (a0.map GTally.el) false :: an 2 (.int .i64 x1 :: an 22 (.bool x2 :: [])), ⟨lv + 1, L, E⟩, [], E⟩) ?_ ?_
          · refine satO_reg ?_
            obtain ⟨x3, q4, h⟩ := bnd_hi h
            obtain ⟨q4, q5⟩ := ix_some q4
            rcases Bool.eq_false_or_eq_true (decide (1000000000 < x3.count)) with hg6 | hg7
            · have h := ite_t hg6 h
              have hg6n := hg6
              try simp at hg6n
              refine satO_step 14 [] ⟨.sl 3 (a0.map GTally.el) false :: an 2 (.int .i64 x1 :: an 3 (.int .i64 x1 :: .sl 3 (a0.map GTally.el) false :: .int .i64 (a0.length : Int) :: .bool (decide (x1 < (a0.length : Int))) :: an 2 (.sl 3 (a0.map GTally.el) false :: .int .i64 x1 :: .ref x3.cs 0 :: .ref x3.cs 1 :: .int .i64 x3.count :: .bool (decide (1000000000 < x3.count)) :: .bool (decide (1000000000 < x3.count)) :: .tup [] :: .tup [] :: .tup [] :: .tup [] :: .tup [] :: .tup [] :: .bool true :: []))), ⟨lv + 1, L, E⟩, [], E⟩ [] (by first | (simp -implicitDefEqProofs [GTally.cs, q4, q5, GTally.el_cs, hg6]; done) | simp -implicitDefEqProofs [GTally.cs, q4, q5, GTally.el_cs, hg6, hg6n]) claims_nil ?_
              refine satO_nil (by simp) ?_
              refine ⟨⟨.sl 3 (a0.map GTally.el) false :: an 2 (.int .i64 x1 :: an 22 (.bool true :: [])), ⟨lv + 1, L, E⟩, [], E⟩, weak_tmps ?_, n, by omega, true, L, hA, h, rfl⟩
              (try simp only [an, List.map_cons, List.map_nil]); repeat (first | exact VLeL.nil | refine VLeL.cons (by first | exact VLe.refl _ | exact VLe.any _ | exact VLe.nil _ _ | exact VLe.full _ _ | (refine VLe.agg' ?_; repeat (first | exact VLeL.nil | refine VLeL.cons (by first | exact VLe.refl _ | exact VLe.any _ | exact VLe.nil _ _) ?_))) ?_)
            · have h := ite_f hg7 h
              have hg7n := hg7
              try simp at hg7n
              refine satO_step 14 [] ⟨.sl 3 (a0.map GTally.el) false :: an 2 (.int .i64 x1 :: an 3 (.int .i64 x1 :: .sl 3 (a0.map GTally.el) false :: .int .i64 (a0.length : Int) :: .bool (decide (x1 < (a0.length : Int))) :: an 2 (.sl 3 (a0.map GTally.el) false :: .int .i64 x1 :: .ref x3.cs 0 :: .ref x3.cs 1 :: .int .i64 x3.count :: .bool (decide (1000000000 < x3.count)) :: .bool (decide (1000000000 < x3.count)) :: .sl 3 (a0.map GTally.el) false :: .int .i64 x1 :: .ref x3.cs 0 :: .ref x3.cs 2 :: .int .i64 x3.volume :: .bool (decide (1000000000000000000 < x3.volume)) :: .bool (decide (1000000000000000000 < x3.volume)) :: []))), ⟨lv + 1, L, E⟩, [], E⟩ [] (by first | (simp -implicitDefEqProofs [GTally.cs, q4, q5, GTally.el_cs, hg7, q4, q5, GTally.el_cs]; done) | simp -implicitDefEqProofs [GTally.cs, q4, q5, GTally.el_cs, hg7, q4, q5, GTally.el_cs, hg7n]) claims_nil ?_
              refine satO_nil (by simp) ?_
              refine ⟨⟨.sl 3 (a0.map GTally.el) false :: an 2 (.int .i64 x1 :: an 22 (.bool (decide (1000000000000000000 < x3.volume)) :: [])), ⟨lv + 1, L, E⟩, [], E⟩, weak_tmps ?_, n, by omega, (decide (1000000000000000000 < x3.volume)), L, hA, h, rfl⟩
              (try simp only [an, List.map_cons, List.map_nil]); repeat (first | exact VLeL.nil | refine VLeL.cons (by first | exact VLe.refl _ | exact VLe.any _ | exact VLe.nil _ _ | exact VLe.full _ _ | (refine VLe.agg' ?_; repeat (first | exact VLeL.nil | refine VLeL.cons (by first | exact VLe.refl _ | exact VLe.any _ | exact VLe.nil _ _) ?_))) ?_)
          · rintro σ0 σ hw ⟨k, hk, x2, L, hA, h, rfl⟩
            rcases k with _ | n
            · simp [go_ref45_within_J1] at h
            · rw [go_ref45_within_J1] at h
              refine sat_weak hw ?_
              repeat refine sat_seq ?_
              refine sat_cond rfl (fun hb => ?_) (fun hb => ?_)
              · have h := ite_t hb h
                repeat refine sat_seq ?_
                refine satO_reg ?_
                refine satO_step 1 [] ⟨.sl 3 (a0.map GTally.el) false :: an 1 (.int .i64 16 :: .int .i64 x1 :: an 22 (.bool x2 :: [])), ⟨lv + 1, L, E⟩, [], E⟩ [] (by simp -implicitDefEqProofs [GTally.cs]) claims_nil ?_
                refine satO_nil (by simp) ?_
                repeat refine sat_seq ?_
                refine sat_ret ?_
                refine ends (v := .int .i64 16) (by simp [resultsV, resL, resV, tupOf, Try.f21, pLoad, GTally.cs]) rfl rfl ?_
                injection h with h
                subst h
                exact (.keep _ (by simp [V.kin, V.kinL, GTally.cs]))
              · have h := ite_f hb h
                repeat refine sat_seq ?_
                refine sat_skip ?_
                repeat refine sat_seq ?_
                refine satO_reg ?_
                refine satO_step 3 [] ⟨.sl 3 (a0.map GTally.el) false :: an 2 (.int .i64 (IntKind.i64.wrap (x1 + 1)) :: an 7 (.int .i64 x1 :: .int .i64 (IntKind.i64.wrap (x1 + 1)) :: an 13 (.bool x2 :: []))), ⟨lv + 1, L, E⟩, [], E⟩ [] (by simp -implicitDefEqProofs [GTally.cs]) claims_nil ?_
                refine satO_nil (by simp) ?_
                refine ⟨n, ⟨.sl 3 (a0.map GTally.el) false :: an 2 (.int .i64 (IntKind.i64.wrap (x1 + 1)) :: an 23 []), ⟨lv + 1, L, E⟩, [], E⟩, weak_tmps ?_, ⟨(IntKind.i64.wrap (x1 + 1)), L, by omega, hA, h, rfl⟩, by omega⟩
                (try simp only [an, List.map_cons, List.map_nil]); repeat (first | exact VLeL.nil | refine VLeL.cons (by first | exact VLe.refl _ | exact VLe.any _ | exact VLe.nil _ _ | exact VLe.full _ _ | (refine VLe.agg' ?_; repeat (first | exact VLeL.nil | refine VLeL.cons (by first | exact VLe.refl _ | exact VLe.any _ | exact VLe.nil _ _) ?_))) ?_)
        · have h := ite_f hb h
          repeat refine sat_seq ?_
          refine sat_exit ?_
          repeat refine sat_seq ?_
          refine satO_reg ?_
          refine satO_step 1 [] ⟨.sl 3 (a0.map GTally.el) false :: an 1 (.int .i64 0 :: .int .i64 x1 :: an 3 (.int .i64 x1 :: .sl 3 (a0.map GTally.el) false :: .int .i64 (a0.length : Int) :: .bool (decide (x1 < (a0.length : Int))) :: an 16 [])), ⟨lv + 1, L, E⟩, [], E⟩ [] (by simp -implicitDefEqProofs [GTally.cs]) claims_nil ?_
          refine satO_nil (by simp) ?_
          repeat refine sat_seq ?_
          refine sat_ret ?_
          refine ends (v := .int .i64 0) (by simp [resultsV, resL, resV, tupOf, Try.f21, pLoad, GTally.cs]) rfl rfl ?_
          injection h with h
          subst h
          exact (.keep _ (by simp [V.kin, V.kinL, GTally.cs]))
end Go.Proofs

namespace Go.Proofs
open Go Go.Ab
set_option maxRecDepth 10000
set_option maxHeartbeats 1000000
set_option linter.unusedSimpArgs false
set_option linter.unusedVariables false
theorem go_ref45_Merge_ok (n : Nat) (a0 : List GTally) (a1 : List GTally) (r : (List GTally) × Int) (h : go_ref45_Merge n a0 a1 = some r) : PCall Try.prog 7 [.sl 3 (a0.map GTally.el) false, .sl 3 (a1.map GTally.el) false] (.tup [.sl 3 (r.1.map GTally.el) false, .int .i64 r.2]) := by
  rcases n with _ | n
  · simp [go_ref45_Merge] at h
  rw [go_ref45_Merge] at h
  refine pcall_of Try.func7 rfl Try.ntmps7 (fun _ _ => Try.call7 _ _) fun lv E => ?_
  simp only [List.length_cons, List.length_nil, Nat.reduceAdd, Nat.reduceSub, List.replicate, List.cons_append, List.nil_append]
  have hA := AccG.nil (lv + 1)
  generalize ([] : List (Option AObj)) = L at hA ⊢
  repeat refine sat_seq ?_
  refine satO_reg ?_
  refine satO_step 2 [] ⟨.sl 3 (a0.map GTally.el) false :: .sl 3 (a1.map GTally.el) false :: an 2 (.nils :: .int .i64 0 :: an 33 []), ⟨lv + 1, L, E⟩, [], E⟩ [] (by simp -implicitDefEqProofs []) claims_nil ?_
  refine satO_nil (by simp) ?_
  repeat refine sat_seq ?_
  refine satO_reg ?_
  obtain ⟨y1, q2, h⟩ := bnd_hi h
  refine satO_step 3 [(.int .i64 y1, none)] ⟨.sl 3 (a0.map GTally.el) false :: .sl 3 (a1.map GTally.el) false :: an 2 (.nils :: .int .i64 0 :: an 2 (.sl 3 (a0.map GTally.el) false :: .int .i64 y1 :: .bool (!(y1 == 0)) :: an 28 [])), ⟨lv + 1, L, E⟩, [], E⟩ [⟨11, [.sl 3 (a0.map GTally.el) false], ⟨lv + 1, L, E⟩, .int .i64 y1, ⟨lv + 1, L, E⟩⟩] (by simp -implicitDefEqProofs []) (claims_cons (go_ref45_Check_ok _ _ _ q2 _) claims_nil) ?_
  refine satO_nil (by simp) ?_
  repeat refine sat_seq ?_
  refine sat_cond rfl (fun hb => ?_) (fun hb => ?_)
  · have h := ite_t hb h
    repeat refine sat_seq ?_
    refine satO_reg ?_
    obtain ⟨y3, q4, h⟩ := bnd_hi h
    refine satO_step 4 [(.int .i64 y3, none)] ⟨.sl 3 (a0.map GTally.el) false :: .sl 3 (a1.map GTally.el) false :: an 2 (.nils :: .int .i64 y3 :: an 2 (.sl 3 (a0.map GTally.el) false :: .int .i64 y1 :: .bool (!(y1 == 0)) :: .sl 3 (a0.map GTally.el) false :: .int .i64 y3 :: an 26 [])), ⟨lv + 1, L, E⟩, [], E⟩ [⟨11, [.sl 3 (a0.map GTally.el) false], ⟨lv + 1, L, E⟩, .int .i64 y3, ⟨lv + 1, L, E⟩⟩] (by simp -implicitDefEqProofs []) (claims_cons (go_ref45_Check_ok _ _ _ q4 _) claims_nil) ?_
    refine satO_nil (by simp) ?_
    repeat refine sat_seq ?_
    refine sat_ret ?_
    refine ends (v := .tup [.nils, .int .i64 y3]) (by simp [resultsV, resL, resV, tupOf, Try.f7, pLoad]) rfl rfl ?_
    injection h with h
    subst h
    exact VS.tup' (.cons (.nil _ _) (.cons (.keep _ (by simp [V.kin, V.kinL])) .nil))
  · have h := ite_f hb h
    repeat refine sat_seq ?_
    refine sat_skip ?_
    repeat refine sat_seq ?_
    refine satO_reg ?_
    obtain ⟨y5, q6, h⟩ := bnd_hi h
    refine satO_step 3 [(.int .i64 y5, none)] ⟨.sl 3 (a0.map GTally.el) false :: .sl 3 (a1.map GTally.el) false :: an 2 (.nils :: .int .i64 0 :: an 2 (.sl 3 (a0.map GTally.el) false :: .int .i64 y1 :: .bool (!(y1 == 0)) :: an 2 (.sl 3 (a1.map GTally.el) false :: .int .i64 y5 :: .bool (!(y5 == 0)) :: an 23 []))), ⟨lv + 1, L, E⟩, [], E⟩ [⟨11, [.sl 3 (a1.map GTally.el) false], ⟨lv + 1, L, E⟩, .int .i64 y5, ⟨lv + 1, L, E⟩⟩] (by simp -implicitDefEqProofs []) (claims_cons (go_ref45_Check_ok _ _ _ q6 _) claims_nil) ?_
    refine satO_nil (by simp) ?_
    repeat refine sat_seq ?_
    refine sat_cond rfl (fun hb => ?_) (fun hb => ?_)
    · have h := ite_t hb h
      repeat refine sat_seq ?_
      refine satO_reg ?_
      obtain ⟨y7, q8, h⟩ := bnd_hi h
      refine satO_step 4 [(.int .i64 y7, none)] ⟨.sl 3 (a0.map GTally.el) false :: .sl 3 (a1.map GTally.el) false :: an 2 (.nils :: .int .i64 y7 :: an 2 (.sl 3 (a0.map GTally.el) false :: .int .i64 y1 :: .bool (!(y1 == 0)) :: an 2 (.sl 3 (a1.map GTally.el) false :: .int .i64 y5 :: .bool (!(y5 == 0)) :: .sl 3 (a1.map GTally.el) false :: .int .i64 y7 :: an 21 []))), ⟨lv + 1, L, E⟩, [], E⟩ [⟨11, [.sl 3 (a1.map GTally.el) false], ⟨lv + 1, L, E⟩, .int .i64 y7, ⟨lv + 1, L, E⟩⟩] (by simp -implicitDefEqProofs []) (claims_cons (go_ref45_Check_ok _ _ _ q8 _) claims_nil) ?_
      refine satO_nil (by simp) ?_
      repeat refine sat_seq ?_
      refine sat_ret ?_
      refine ends (v := .tup [.nils, .int .i64 y7]) (by simp [resultsV, resL, resV, tupOf, Try.f7, pLoad]) rfl rfl ?_
      injection h with h
      subst h
      exact VS.tup' (.cons (.nil _ _) (.cons (.keep _ (by simp [V.kin, V.kinL])) .nil))
    · have h := ite_f hb h
      repeat refine sat_seq ?_
      refine sat_skip ?_
      repeat refine sat_seq ?_
      refine satO_reg ?_
      refine satO_step 2 [] ⟨.sl 3 (a0.map GTally.el) false :: .sl 3 (a1.map GTally.el) false :: an 2 (.nils :: .int .i64 0 :: an 2 (.sl 3 (a0.map GTally.el) false :: .int .i64 y1 :: .bool (!(y1 == 0)) :: an 2 (.sl 3 (a1.map GTally.el) false :: .int .i64 y5 :: .bool (!(y5 == 0)) :: an 2 (.sl 3 [] true :: .sl 3 (a0.map GTally.el) false :: an 19 [])))), ⟨lv + 1, L, E⟩, [], E⟩ [] (by simp -implicitDefEqProofs []) claims_nil ?_
      have hA := hA.consS 30 3 [] true (fun _ => rfl)
      obtain ⟨l10, q11, h⟩ := bnd_hi h
      obtain ⟨q11, q12⟩ := ext_some q11
      obtain ⟨v13, L, q14, hA⟩ := hA.push (j := 0) rfl (a0.map GTally.el) (by simpa using q11) E
      refine satO_step 1 [] ⟨.sl 3 (a0.map GTally.el) false :: .sl 3 (a1.map GTally.el) false :: an 2 (.nils :: .int .i64 0 :: an 2 (.sl 3 (a0.map GTally.el) false :: .int .i64 y1 :: .bool (!(y1 == 0)) :: an 2 (.sl 3 (a1.map GTally.el) false :: .int .i64 y5 :: .bool (!(y5 == 0)) :: an 2 (.sl 3 [] true :: .sl 3 (a0.map GTally.el) false :: v13 :: an 18 [])))), ⟨lv + 1, L, E⟩, [], E⟩ [] (by simp -implicitDefEqProofs [q14]) claims_nil ?_
      have hA : AccG (lv + 1) L [⟨30, 3, v13, l10.map GTally.el, true⟩] [] := by rw [q12]; first | simpa [GTally.el_cs] using hA | simpa [GTally.el_eq] using hA
      obtain ⟨w0a, w0b, w0c⟩ := hA.whole (j := 0) rfl
      refine satO_step 1 [] ⟨.sl 3 (a0.map GTally.el) false :: .sl 3 (a1.map GTally.el) false :: an 2 (.nils :: .int .i64 0 :: v13 :: an 1 (.sl 3 (a0.map GTally.el) false :: .int .i64 y1 :: .bool (!(y1 == 0)) :: an 2 (.sl 3 (a1.map GTally.el) false :: .int .i64 y5 :: .bool (!(y5 == 0)) :: an 2 (.sl 3 [] true :: .sl 3 (a0.map GTally.el) false :: v13 :: an 18 [])))), ⟨lv + 1, L, E⟩, [], E⟩ [] (by simp -implicitDefEqProofs [w0a, w0b, w0c]) claims_nil ?_
      refine satO_nil (by simp) ?_
      repeat refine sat_seq ?_
      refine satO_reg ?_
      obtain ⟨w0a, w0b, w0c⟩ := hA.whole (j := 0) rfl
      refine satO_step 1 [] ⟨.sl 3 (a0.map GTally.el) false :: .sl 3 (a1.map GTally.el) false :: an 2 (.nils :: .int .i64 0 :: v13 :: .int .i64 0 :: .sl 3 (a0.map GTally.el) false :: .int .i64 y1 :: .bool (!(y1 == 0)) :: an 2 (.sl 3 (a1.map GTally.el) false :: .int .i64 y5 :: .bool (!(y5 == 0)) :: an 2 (.sl 3 [] true :: .sl 3 (a0.map GTally.el) false :: v13 :: an 18 []))), ⟨lv + 1, L, E⟩, [], E⟩ [] (by simp -implicitDefEqProofs [w0a, w0b, w0c]) claims_nil ?_
      refine satO_nil (by simp) ?_
      repeat refine sat_seq ?_
      refine sat_block ?_
      repeat refine sat_seq ?_
      refine sat_loop (fun k σ => ∃ (x17 : Int) (v15 : V) (l16 : List GTally) (L : List (Option AObj)), k ≤ n ∧ AccG (lv + 1) L [⟨30, 3, v15, l16.map GTally.el, true⟩] [] ∧ go_ref45_Merge_L1 k a1 l16 x17 = some r ∧ σ = ⟨an 1 (.sl 3 (a1.map GTally.el) false :: an 4 (v15 :: .int .i64 x17 :: an 31 [])), ⟨lv + 1, L, E⟩, [], E⟩) n ⟨an 1 (.sl 3 (a1.map GTally.el) false :: an 4 (v13 :: .int .i64 0 :: an 31 [])), ⟨lv + 1, L, E⟩, [], E⟩ (weak_tmps ?_) ⟨0, v13, l10, L, Nat.le_refl _, hA, h, rfl⟩ ?_
      · (try simp only [an, List.map_cons, List.map_nil]); repeat (first | exact VLeL.nil | refine VLeL.cons (by first | exact VLe.refl _ | exact VLe.any _ | exact VLe.nil _ _ | exact VLe.full _ _ | (refine VLe.agg' ?_; repeat (first | exact VLeL.nil | refine VLeL.cons (by first | exact VLe.refl _ | exact VLe.any _ | exact VLe.nil _ _) ?_))) ?_)
      · rintro k σ ⟨x17, v15, l16, L, hk, hA, h, rfl⟩
        rcases k with _ | n
        · simp [go_ref45_Merge_L1] at h
        · rw [go_ref45_Merge_L1] at h
          repeat refine sat_seq ?_
          refine satO_reg ?_
          obtain ⟨w0a, w0b, w0c⟩ := hA.whole (j := 0) rfl
          refine satO_step 4 [] ⟨an 1 (.sl 3 (a1.map GTally.el) false :: an 4 (v15 :: .int .i64 x17 :: an 13 (.int .i64 x17 :: .sl 3 (a1.map GTally.el) false :: .int .i64 (a1.length : Int) :: .bool (decide (x17 < (a1.length : Int))) :: an 14 []))), ⟨lv + 1, L, E⟩, [], E⟩ [] (by simp -implicitDefEqProofs [w0a, w0b, w0c]) claims_nil ?_
          refine satO_nil (by simp) ?_
          repeat refine sat_seq ?_
          refine sat_cond rfl (fun hb => ?_) (fun hb => ?_)
          · have h := ite_t hb h
            repeat refine sat_seq ?_
            refine sat_skip ?_
            repeat refine sat_seq ?_
            refine sat_block ?_
            repeat refine sat_seq ?_
            refine satO_reg ?_
            obtain ⟨x18, q19, h⟩ := bnd_hi h
            obtain ⟨q19, q20⟩ := ix_some q19
            obtain ⟨w0a, w0b, w0c⟩ := hA.whole (j := 0) rfl
            refine satO_step 5 [] ⟨an 1 (.sl 3 (a1.map GTally.el) false :: an 4 (v15 :: .int .i64 x17 :: an 13 (.int .i64 x17 :: .sl 3 (a1.map GTally.el) false :: .int .i64 (a1.length : Int) :: .bool (decide (x17 < (a1.length : Int))) :: an 2 (v15 :: .sl 3 (a1.map GTally.el) false :: .int .i64 x17 :: .ref x18.cs 0 :: .agg x18.cs :: an 7 [])))), ⟨lv + 1, L, E⟩, [], E⟩ [] (by simp -implicitDefEqProofs [GTally.cs, w0a, w0b, w0c, q19, q20, GTally.el_cs]) claims_nil ?_
            obtain ⟨y21, q22, h⟩ := bnd_hi h
            refine satO_call (f := 20) (args := [v15, .agg x18.cs]) rfl (by simp [wantedV]) rfl (by simp -implicitDefEqProofs [GTally.cs]) (go_ref45_add_at_ok _ _ _ _ q22 (lv + 1) L E _ _ _ hA) (fun r0 H0 hp => ?_) (fun v0 H0 hp => ?_)
            · obtain ⟨L, v23, rfl, hA, ho⟩ := hp
              replace ho := Out.ret.inj ho.symm
              subst ho
              change SatO _ _ _ ⟨an 1 (.sl 3 (a1.map GTally.el) false :: an 4 (v15 :: .int .i64 x17 :: an 13 (.int .i64 x17 :: .sl 3 (a1.map GTally.el) false :: .int .i64 (a1.length : Int) :: .bool (decide (x17 < (a1.length : Int))) :: an 2 (v15 :: .sl 3 (a1.map GTally.el) false :: .int .i64 x17 :: .ref x18.cs 0 :: .agg x18.cs :: v23 :: an 6 [])))), ⟨lv + 1, L, E⟩, [], E⟩ _
              obtain ⟨w0a, w0b, w0c⟩ := hA.whole (j := 0) rfl
              refine satO_step 1 [] ⟨an 1 (.sl 3 (a1.map GTally.el) false :: an 4 (v23 :: .int .i64 x17 :: an 13 (.int .i64 x17 :: .sl 3 (a1.map GTally.el) false :: .int .i64 (a1.length : Int) :: .bool (decide (x17 < (a1.length : Int))) :: an 2 (v15 :: .sl 3 (a1.map GTally.el) false :: .int .i64 x17 :: .ref x18.cs 0 :: .agg x18.cs :: v23 :: an 6 [])))), ⟨lv + 1, L, E⟩, [], E⟩ [] (by simp -implicitDefEqProofs [GTally.cs, w0a, w0b, w0c]) claims_nil ?_
              refine satO_nil (by simp) ?_
              repeat refine sat_seq ?_
              refine satO_reg ?_
              obtain ⟨w0a, w0b, w0c⟩ := hA.whole (j := 0) rfl
              refine satO_step 3 [] ⟨an 1 (.sl 3 (a1.map GTally.el) false :: an 4 (v23 :: .int .i64 (IntKind.i64.wrap (x17 + 1)) :: an 13 (.int .i64 x17 :: .sl 3 (a1.map GTally.el) false :: .int .i64 (a1.length : Int) :: .bool (decide (x17 < (a1.length : Int))) :: .int .i64 x17 :: .int .i64 (IntKind.i64.wrap (x17 + 1)) :: v15 :: .sl 3 (a1.map GTally.el) false :: .int .i64 x17 :: .ref x18.cs 0 :: .agg x18.cs :: v23 :: an 6 []))), ⟨lv + 1, L, E⟩, [], E⟩ [] (by simp -implicitDefEqProofs [GTally.cs, w0a, w0b, w0c]) claims_nil ?_
              refine satO_nil (by simp) ?_
              refine ⟨n, ⟨an 1 (.sl 3 (a1.map GTally.el) false :: an 4 (v23 :: .int .i64 (IntKind.i64.wrap (x17 + 1)) :: an 31 [])), ⟨lv + 1, L, E⟩, [], E⟩, weak_tmps ?_, ⟨(IntKind.i64.wrap (x17 + 1)), v23, y21, L, by omega, hA, h, rfl⟩, by omega⟩
              (try simp only [an, List.map_cons, List.map_nil]); repeat (first | exact VLeL.nil | refine VLeL.cons (by first | exact VLe.refl _ | exact VLe.any _ | exact VLe.nil _ _ | exact VLe.full _ _ | (refine VLe.agg' ?_; repeat (first | exact VLeL.nil | refine VLeL.cons (by first | exact VLe.refl _ | exact VLe.any _ | exact VLe.nil _ _) ?_))) ?_)
            · obtain ⟨L, _, _, _, ho⟩ := hp
              cases ho
          · have h := ite_f hb h
            repeat refine sat_seq ?_
            refine sat_exit ?_
            repeat refine sat_seq ?_
            obtain ⟨L, hA, hw0⟩ := hA.freeze (j := 0) rfl (t := an 1 (.sl 3 (a1.map GTally.el) false :: an 4 (v15 :: .int .i64 x17 :: an 13 (.int .i64 x17 :: .sl 3 (a1.map GTally.el) false :: .int .i64 (a1.length : Int) :: .bool (decide (x17 < (a1.length : Int))) :: an 14 [])))) (t' := an 1 (.sl 3 (a1.map GTally.el) false :: an 4 (.sl 3 (l16.map GTally.el) false :: .int .i64 x17 :: an 13 (.int .i64 x17 :: .sl 3 (a1.map GTally.el) false :: .int .i64 (a1.length : Int) :: .bool (decide (x17 < (a1.length : Int))) :: an 14 [])))) (os' := []) (by (try simp only [an]); repeat (first | exact FVL.nil | refine FVL.cons (by first | exact FV.keep _ | exact FV.it | exact FV.any _ | (refine FV.agg' ?_; repeat (first | exact FVL.nil | refine FVL.cons (by first | exact FV.keep _ | exact FV.it | exact FV.any _) ?_))) ?_)) (.refl _) E E
            have hA : AccG (lv + 1) L [] [] := hA
            refine sat_weak hw0 ?_
            clear hw0
            repeat refine sat_seq ?_
            refine satO_reg ?_
            obtain ⟨y24, q25, h⟩ := bnd_hi h
            refine satO_step 3 [(.int .i64 y24, none)] ⟨an 1 (.sl 3 (a1.map GTally.el) false :: an 4 (.sl 3 (l16.map GTally.el) false :: .int .i64 x17 :: an 13 (.int .i64 x17 :: .sl 3 (a1.map GTally.el) false :: .int .i64 (a1.length : Int) :: .bool (decide (x17 < (a1.length : Int))) :: an 8 (.sl 3 (l16.map GTally.el) false :: .int .i64 y24 :: .bool (!(y24 == 0)) :: an 3 [])))), ⟨lv + 1, L, E⟩, [], E⟩ [⟨21, [.sl 3 (l16.map GTally.el) false], ⟨lv + 1, L, E⟩, .int .i64 y24, ⟨lv + 1, L, E⟩⟩] (by simp -implicitDefEqProofs [GTally.cs]) (claims_cons (go_ref45_within_ok _ _ _ q25 _) claims_nil) ?_
            refine satO_nil (by simp) ?_
            repeat refine sat_seq ?_
            refine sat_cond rfl (fun hb => ?_) (fun hb => ?_)
            · have h := ite_t hb h
              repeat refine sat_seq ?_
              refine satO_reg ?_
              obtain ⟨y26, q27, h⟩ := bnd_hi h
              refine satO_step 4 [(.int .i64 y26, none)] ⟨an 1 (.sl 3 (a1.map GTally.el) false :: an 2 (.nils :: .int .i64 y26 :: .sl 3 (l16.map GTally.el) false :: .int .i64 x17 :: an 13 (.int .i64 x17 :: .sl 3 (a1.map GTally.el) false :: .int .i64 (a1.length : Int) :: .bool (decide (x17 < (a1.length : Int))) :: an 8 (.sl 3 (l16.map GTally.el) false :: .int .i64 y24 :: .bool (!(y24 == 0)) :: .sl 3 (l16.map GTally.el) false :: .int .i64 y26 :: an 1 [])))), ⟨lv + 1, L, E⟩, [], E⟩ [⟨21, [.sl 3 (l16.map GTally.el) false], ⟨lv + 1, L, E⟩, .int .i64 y26, ⟨lv + 1, L, E⟩⟩] (by simp -implicitDefEqProofs [GTally.cs]) (claims_cons (go_ref45_within_ok _ _ _ q27 _) claims_nil) ?_
              refine satO_nil (by simp) ?_
              repeat refine sat_seq ?_
              refine sat_ret ?_
              refine ends (v := .tup [.nils, .int .i64 y26]) (by simp [resultsV, resL, resV, tupOf, Try.f7, pLoad, GTally.cs]) rfl rfl ?_
              injection h with h
              subst h
              exact VS.tup' (.cons (.nil _ _) (.cons (.keep _ (by simp [V.kin, V.kinL, GTally.cs])) .nil))
            · have h := ite_f hb h
              repeat refine sat_seq ?_
              refine sat_skip ?_
              repeat refine sat_seq ?_
              refine satO_reg ?_
              refine satO_step 3 [] ⟨an 1 (.sl 3 (a1.map GTally.el) false :: an 2 (.sl 3 (l16.map GTally.el) false :: .int .i64 0 :: .sl 3 (l16.map GTally.el) false :: .int .i64 x17 :: an 13 (.int .i64 x17 :: .sl 3 (a1.map GTally.el) false :: .int .i64 (a1.length : Int) :: .bool (decide (x17 < (a1.length : Int))) :: an 8 (.sl 3 (l16.map GTally.el) false :: .int .i64 y24 :: .bool (!(y24 == 0)) :: an 2 (.sl 3 (l16.map GTally.el) false :: []))))), ⟨lv + 1, L, E⟩, [], E⟩ [] (by simp -implicitDefEqProofs [GTally.cs]) claims_nil ?_
              refine satO_nil (by simp) ?_
              repeat refine sat_seq ?_
              refine sat_ret ?_
              refine ends (v := .tup [.sl 3 (l16.map GTally.el) false, .int .i64 0]) (by simp [resultsV, resL, resV, tupOf, Try.f7, pLoad, GTally.cs]) rfl rfl ?_
              injection h with h
              subst h
              exact .keep _ (by simp [V.kin, V.kinL, GTally.cs])
end Go.Proofs

namespace Go.Proofs
open Go Go.Ab
set_option maxRecDepth 10000
set_option maxHeartbeats 1000000
set_option linter.unusedSimpArgs false
set_option linter.unusedVariables false
theorem go_report_sum_int_ok (n : Nat) (a0 : Int) (a1 : Int) (a2 : Int) (r : Int) (h : go_report_sum_int n a0 a1 a2 = some r) : PCall Try.prog 22 [.int .i64 a0, .int .i64 a1, .int .i64 a2] (.int .i64 r) := by
  rw [go_report_sum_int] at h
  refine pcall_of Try.func22 rfl Try.ntmps22 (fun _ _ => Try.call22 _ _) fun lv E => ?_
  simp only [List.length_cons, List.length_nil, Nat.reduceAdd, Nat.reduceSub, List.replicate, List.cons_append, List.nil_append]
  have hA := AccG.nil (lv + 1)
  generalize ([] : List (Option AObj)) = L at hA ⊢
  repeat refine sat_seq ?_
  refine satO_reg ?_
  refine satO_step 1 [] ⟨.int .i64 a0 :: .int .i64 a1 :: .int .i64 a2 :: an 3 (.int .i64 0 :: an 6 []), ⟨lv + 1, L, E⟩, [], E⟩ [] (by simp -implicitDefEqProofs []) claims_nil ?_
  refine satO_nil (by simp) ?_
  repeat refine sat_seq ?_
  refine satO_reg ?_
  refine satO_step 7 [] ⟨.int .i64 a0 :: .int .i64 a1 :: .int .i64 a2 :: an 3 (.int .i64 (mnI (IntKind.i64.wrap (a0 + a1)) (IntKind.i64.wrap (a2 + 1))) :: .int .i64 a0 :: .int .i64 a1 :: .int .i64 (IntKind.i64.wrap (a0 + a1)) :: .int .i64 a2 :: .int .i64 (IntKind.i64.wrap (a2 + 1)) :: .int .i64 (mnI (IntKind.i64.wrap (a0 + a1)) (IntKind.i64.wrap (a2 + 1))) :: []), ⟨lv + 1, L, E⟩, [], E⟩ [] (by simp -implicitDefEqProofs []) claims_nil ?_
  refine satO_nil (by simp) ?_
  repeat refine sat_seq ?_
  refine sat_ret ?_
  refine ends (v := .int .i64 (mnI (IntKind.i64.wrap (a0 + a1)) (IntKind.i64.wrap (a2 + 1)))) (by simp [resultsV, resL, resV, tupOf, Try.f22, pLoad]) rfl rfl ?_
  injection h with h
  subst h
  exact (.keep _ (by simp [V.kin, V.kinL]))
end Go.Proofs

namespace Go.Proofs
open Go Go.Ab
set_option maxRecDepth 10000
set_option maxHeartbeats 1000000
set_option linter.unusedSimpArgs false
set_option linter.unusedVariables false
theorem go_report_sum_int64_ok (n : Nat) (a0 : Int) (a1 : Int) (a2 : Int) (r : Int) (h : go_report_sum_int64 n a0 a1 a2 = some r) : PCall Try.prog 23 [.int .i64 a0, .int .i64 a1, .int .i64 a2] (.int .i64 r) := by
  rw [go_report_sum_int64] at h
  refine pcall_of Try.func23 rfl Try.ntmps23 (fun _ _ => Try.call23 _ _) fun lv E => ?_
  simp only [List.length_cons, List.length_nil, Nat.reduceAdd, Nat.reduceSub, List.replicate, List.cons_append, List.nil_append]
  have hA := AccG.nil (lv + 1)
  generalize ([] : List (Option AObj)) = L at hA ⊢
  repeat refine sat_seq ?_
  refine satO_reg ?_
  refine satO_step 1 [] ⟨.int .i64 a0 :: .int .i64 a1 :: .int .i64 a2 :: an 3 (.int .i64 0 :: an 6 []), ⟨lv + 1, L, E⟩, [], E⟩ [] (by simp -implicitDefEqProofs []) claims_nil ?_
  refine satO_nil (by simp) ?_
  repeat refine sat_seq ?_
  refine satO_reg ?_
  refine satO_step 7 [] ⟨.int .i64 a0 :: .int .i64 a1 :: .int .i64 a2 :: an 3 (.int .i64 (mnI (IntKind.i64.wrap (a0 + a1)) (IntKind.i64.wrap (a2 + 1))) :: .int .i64 a0 :: .int .i64 a1 :: .int .i64 (IntKind.i64.wrap (a0 + a1)) :: .int .i64 a2 :: .int .i64 (IntKind.i64.wrap (a2 + 1)) :: .int .i64 (mnI (IntKind.i64.wrap (a0 + a1)) (IntKind.i64.wrap (a2 + 1))) :: []), ⟨lv + 1, L, E⟩, [], E⟩ [] (by simp -implicitDefEqProofs []) claims_nil ?_
  refine satO_nil (by simp) ?_
  repeat refine sat_seq ?_
  refine sat_ret ?_
  refine ends (v := .int .i64 (mnI (IntKind.i64.wrap (a0 + a1)) (IntKind.i64.wrap (a2 + 1)))) (by simp [resultsV, resL, resV, tupOf, Try.f23, pLoad]) rfl rfl ?_
  injection h with h
  subst h
  exact (.keep _ (by simp [V.kin, V.kinL]))
end Go.Proofs

namespace Go.Proofs
open Go Go.Ab
set_option maxRecDepth 10000
set_option maxHeartbeats 1000000
set_option linter.unusedSimpArgs false
set_option linter.unusedVariables false
theorem go_report_Total_ok (n : Nat) (a0 : List GTally) (r : GTally × Int) (h : go_report_Total n a0 = some r) : PCall Try.prog 8 [.sl 3 (a0.map GTally.el) false] (.tup [.agg r.1.cs, .int .i64 r.2]) := by
  rcases n with _ | n
  · simp [go_report_Total] at h
  rw [go_report_Total] at h
  refine pcall_of Try.func8 rfl Try.ntmps8 (fun _ _ => Try.call8 _ _) fun lv E => ?_
  simp only [List.length_cons, List.length_nil, Nat.reduceAdd, Nat.reduceSub, List.replicate, List.cons_append, List.nil_append]
  have hA := AccG.nil (lv + 1)
  generalize ([] : List (Option AObj)) = L at hA ⊢
  repeat refine sat_seq ?_
  refine satO_reg ?_
  refine satO_step 1 [] ⟨.sl 3 (a0.map GTally.el) false :: an 1 (.ptr (lv + 1) L.length 0 :: an 40 []), ⟨lv + 1, (L ++ [some (.cells [.str ([]), .int .i64 0, .int .i64 0])]), E⟩, [], E⟩ [] (by simp -implicitDefEqProofs [GTally.cs]) claims_nil ?_
  have hA : AccG (lv + 1) (L ++ [some (.cells [.str ([]), .int .i64 0, .int .i64 0])]) [] [(L.length, .cells [.str ([]), .int .i64 0, .int .i64 0])] := hA.obj _
  generalize L.length = i2 at hA ⊢
  generalize (L ++ [some (.cells [.str ([]), .int .i64 0, .int .i64 0])]) = L at hA ⊢
  have g0 := hA.get (k := 0) rfl
  refine satO_step 1 [] ⟨.sl 3 (a0.map GTally.el) false :: an 1 (.ptr (lv + 1) i2 0 :: .int .i64 0 :: an 39 []), ⟨lv + 1, L, E⟩, [], E⟩ [] (by simp -implicitDefEqProofs [GTally.cs, g0]) claims_nil ?_
  refine satO_nil (by simp) ?_
  repeat refine sat_seq ?_
  refine satO_reg ?_
  obtain ⟨y3, q4, h⟩ := bnd_hi h
  have g0 := hA.get (k := 0) rfl
  refine satO_step 3 [(.int .i64 y3, none)] ⟨.sl 3 (a0.map GTally.el) false :: an 1 (.ptr (lv + 1) i2 0 :: .int .i64 0 :: .int .i64 y3 :: an 3 (.sl 3 (a0.map GTally.el) false :: .int .i64 y3 :: an 33 [])), ⟨lv + 1, L, E⟩, [], E⟩ [⟨10, [.sl 3 (a0.map GTally.el) false], ⟨lv + 1, L, E⟩, .int .i64 y3, ⟨lv + 1, L, E⟩⟩] (by simp -implicitDefEqProofs [GTally.cs, g0]) (claims_cons (go_report_Check_ok _ _ _ q4 _) claims_nil) ?_
  refine satO_nil (by simp) ?_
  repeat refine sat_seq ?_
  refine satO_reg ?_
  have g0 := hA.get (k := 0) rfl
  refine satO_step 2 [] ⟨.sl 3 (a0.map GTally.el) false :: an 1 (.ptr (lv + 1) i2 0 :: .int .i64 0 :: .int .i64 y3 :: an 3 (.sl 3 (a0.map GTally.el) false :: .int .i64 y3 :: .int .i64 y3 :: .bool (!(y3 == 0)) :: an 31 [])), ⟨lv + 1, L, E⟩, [], E⟩ [] (by simp -implicitDefEqProofs [GTally.cs, g0]) claims_nil ?_
  refine satO_nil (by simp) ?_
  repeat refine sat_seq ?_
  refine sat_cond rfl (fun hb => ?_) (fun hb => ?_)
  · have h := ite_t hb h
    repeat refine sat_seq ?_
    refine satO_reg ?_
    have g0 := hA.get (k := 0) rfl
    refine satO_step 2 [] ⟨.sl 3 (a0.map GTally.el) false :: an 1 (.ptr (lv + 1) i2 0 :: .int .i64 0 :: .int .i64 y3 :: an 3 (.sl 3 (a0.map GTally.el) false :: .int .i64 y3 :: .int .i64 y3 :: .bool (!(y3 == 0)) :: .agg [.str ([]), .int .i64 0, .int .i64 0] :: .int .i64 y3 :: an 29 [])), ⟨lv + 1, L, E⟩, [], E⟩ [] (by simp -implicitDefEqProofs [GTally.cs, g0]) claims_nil ?_
    have g0 := hA.get (k := 0) rfl
    refine satO_step 1 [] ⟨.sl 3 (a0.map GTally.el) false :: an 1 (.ptr (lv + 1) i2 0 :: .int .i64 0 :: .int .i64 y3 :: an 3 (.sl 3 (a0.map GTally.el) false :: .int .i64 y3 :: .int .i64 y3 :: .bool (!(y3 == 0)) :: .agg [.str ([]), .int .i64 0, .int .i64 0] :: .int .i64 y3 :: an 29 [])), ⟨lv + 1, (L.set i2 (some (.cells [.str ([]), .int .i64 0, .int .i64 0]))), E⟩, [], E⟩ [] (by simp -implicitDefEqProofs [GTally.cs, g0]) claims_nil ?_
    have hA : AccG (lv + 1) (L.set i2 (some (.cells [.str ([]), .int .i64 0, .int .i64 0]))) [] [(i2, .cells [.str ([]), .int .i64 0, .int .i64 0])] := hA.upd (k := 0) rfl _
    generalize (L.set i2 (some (.cells [.str ([]), .int .i64 0, .int .i64 0]))) = L at hA ⊢
    have g0 := hA.get (k := 0) rfl
    refine satO_step 1 [] ⟨.sl 3 (a0.map GTally.el) false :: an 1 (.ptr (lv + 1) i2 0 :: .int .i64 y3 :: .int .i64 y3 :: an 3 (.sl 3 (a0.map GTally.el) false :: .int .i64 y3 :: .int .i64 y3 :: .bool (!(y3 == 0)) :: .agg [.str ([]), .int .i64 0, .int .i64 0] :: .int .i64 y3 :: an 29 [])), ⟨lv + 1, L, E⟩, [], E⟩ [] (by simp -implicitDefEqProofs [GTally.cs, g0]) claims_nil ?_
    refine satO_nil (by simp) ?_
    repeat refine sat_seq ?_
    refine sat_ret ?_
    have g0 := hA.get (k := 0) rfl
    refine ends (v := .tup [.agg [.str ([]), .int .i64 0, .int .i64 0], .int .i64 y3]) (by simp [resultsV, resL, resV, tupOf, Try.f8, pLoad, g0, GTally.cs]) rfl rfl ?_
    injection h with h
    subst h
    exact .keep _ (by simp [V.kin, V.kinL, GTally.cs])
  · have h := ite_f hb h
    repeat refine sat_seq ?_
    refine sat_skip ?_
    repeat refine sat_seq ?_
    refine satO_reg ?_
    refine satO_step 1 [] ⟨.sl 3 (a0.map GTally.el) false :: an 1 (.ptr (lv + 1) i2 0 :: .int .i64 0 :: .int .i64 y3 :: .ptr (lv + 1) L.length 0 :: an 2 (.sl 3 (a0.map GTally.el) false :: .int .i64 y3 :: .int .i64 y3 :: .bool (!(y3 == 0)) :: an 31 [])), ⟨lv + 1, (L ++ [some (.cells [.str ([]), .int .i64 0, .int .i64 0])]), E⟩, [], E⟩ [] (by simp -implicitDefEqProofs [GTally.cs]) claims_nil ?_
    have hA : AccG (lv + 1) (L ++ [some (.cells [.str ([]), .int .i64 0, .int .i64 0])]) [] [(L.length, .cells [.str ([]), .int .i64 0, .int .i64 0]), (i2, .cells [.str ([]), .int .i64 0, .int .i64 0])] := hA.obj _
    generalize L.length = i6 at hA ⊢
    generalize (L ++ [some (.cells [.str ([]), .int .i64 0, .int .i64 0])]) = L at hA ⊢
    refine satO_nil (by simp) ?_
    repeat refine sat_seq ?_
    refine satO_reg ?_
    have g0 := hA.get (k := 0) rfl
    have g1 := hA.get (k := 1) rfl
    refine satO_step 3 [] ⟨.sl 3 (a0.map GTally.el) false :: an 1 (.ptr (lv + 1) i2 0 :: .int .i64 0 :: .int .i64 y3 :: .ptr (lv + 1) i6 0 :: an 2 (.sl 3 (a0.map GTally.el) false :: .int .i64 y3 :: .int .i64 y3 :: .bool (!(y3 == 0)) :: an 2 (.sl 3 (a0.map GTally.el) false :: .int .i64 (a0.length : Int) :: .int .i64 0 :: an 26 []))), ⟨lv + 1, L, E⟩, [], E⟩ [] (by simp -implicitDefEqProofs [GTally.cs, g0, g1]) claims_nil ?_
    refine satO_nil (by simp) ?_
    repeat refine sat_seq ?_
    refine sat_block ?_
    repeat refine sat_seq ?_
    refine sat_loop (fun k σ => ∃ (x7 : Int) (x8 : Int) (x9 : Int) (L : List (Option AObj)), k ≤ n ∧ AccG (lv + 1) L [] [(i6, .cells [.str ([]), .int .i64 x7, .int .i64 x8]), (i2, .cells [.str ([]), .int .i64 0, .int .i64 0])] ∧ go_report_Total_L1 k a0 x7 x8 x9 = some r ∧ σ = ⟨an 2 (.ptr (lv + 1) i2 0 :: an 2 (.ptr (lv + 1) i6 0 :: an 8 (.sl 3 (a0.map GTally.el) false :: .int .i64 (a0.length : Int) :: .int .i64 x9 :: an 26 []))), ⟨lv + 1, L, E⟩, [], E⟩) n ⟨an 2 (.ptr (lv + 1) i2 0 :: an 2 (.ptr (lv + 1) i6 0 :: an 8 (.sl 3 (a0.map GTally.el) false :: .int .i64 (a0.length : Int) :: .int .i64 0 :: an 26 []))), ⟨lv + 1, L, E⟩, [], E⟩ (weak_tmps ?_) ⟨0, 0, 0, L, Nat.le_refl _, hA, h, rfl⟩ ?_
    · (try simp only [an, List.map_cons, List.map_nil]); repeat (first | exact VLeL.nil | refine VLeL.cons (by first | exact VLe.refl _ | exact VLe.any _ | exact VLe.nil _ _ | exact VLe.full _ _ | (refine VLe.agg' ?_; repeat (first | exact VLeL.nil | refine VLeL.cons (by first | exact VLe.refl _ | exact VLe.any _ | exact VLe.nil _ _) ?_))) ?_)
    · rintro k σ ⟨x7, x8, x9, L, hk, hA, h, rfl⟩
      rcases k with _ | n
      · simp [go_report_Total_L1] at h
      · rw [go_report_Total_L1] at h
        repeat refine sat_seq ?_
        refine satO_reg ?_
        have g0 := hA.get (k := 0) rfl
        have g1 := hA.get (k := 1) rfl
        refine satO_step 1 [] ⟨an 2 (.ptr (lv + 1) i2 0 :: an 2 (.ptr (lv + 1) i6 0 :: an 8 (.sl 3 (a0.map GTally.el) false :: .int .i64 (a0.length : Int) :: .int .i64 x9 :: .bool (decide (x9 < (a0.length : Int))) :: an 25 []))), ⟨lv + 1, L, E⟩, [], E⟩ [] (by simp -implicitDefEqProofs [GTally.cs, g0, g1]) claims_nil ?_
        refine satO_nil (by simp) ?_
        repeat refine sat_seq ?_
        refine sat_cond rfl (fun hb => ?_) (fun hb => ?_)
        · have h := ite_t hb h
          repeat refine sat_seq ?_
          refine sat_skip ?_
          repeat refine sat_seq ?_
          refine sat_block ?_
          repeat refine sat_seq ?_
          refine satO_reg ?_
          obtain ⟨x10, q11, h⟩ := bnd_hi h
          obtain ⟨q11, q12⟩ := ix_some q11
          have g0 := hA.get (k := 0) rfl
          have g1 := hA.get (k := 1) rfl
          refine satO_step 2 [] ⟨an 2 (.ptr (lv + 1) i2 0 :: an 2 (.ptr (lv + 1) i6 0 :: an 8 (.sl 3 (a0.map GTally.el) false :: .int .i64 (a0.length : Int) :: .int .i64 x9 :: .bool (decide (x9 < (a0.length : Int))) :: .ref x10.cs 0 :: .agg x10.cs :: an 23 []))), ⟨lv + 1, L, E⟩, [], E⟩ [] (by simp -implicitDefEqProofs [GTally.cs, g0, g1, q11, q12, GTally.el_cs]) claims_nil ?_
          refine satO_step 1 [] ⟨an 2 (.ptr (lv + 1) i2 0 :: an 2 (.ptr (lv + 1) i6 0 :: an 1 (.ptr (lv + 1) L.length 0 :: an 6 (.sl 3 (a0.map GTally.el) false :: .int .i64 (a0.length : Int) :: .int .i64 x9 :: .bool (decide (x9 < (a0.length : Int))) :: .ref x10.cs 0 :: .agg x10.cs :: an 23 [])))), ⟨lv + 1, (L ++ [some (.cells [.str ([]), .int .i64 0, .int .i64 0])]), E⟩, [], E⟩ [] (by simp -implicitDefEqProofs [GTally.cs]) claims_nil ?_
          have hA : AccG (lv + 1) (L ++ [some (.cells [.str ([]), .int .i64 0, .int .i64 0])]) [] [(L.length, .cells [.str ([]), .int .i64 0, .int .i64 0]), (i6, .cells [.str ([]), .int .i64 x7, .int .i64 x8]), (i2, .cells [.str ([]), .int .i64 0, .int .i64 0])] := hA.obj _
          generalize L.length = i14 at hA ⊢
          generalize (L ++ [some (.cells [.str ([]), .int .i64 0, .int .i64 0])]) = L at hA ⊢
          have g0 := hA.get (k := 0) rfl
          have g1 := hA.get (k := 1) rfl
          have g2 := hA.get (k := 2) rfl
          refine satO_step 1 [] ⟨an 2 (.ptr (lv + 1) i2 0 :: an 2 (.ptr (lv + 1) i6 0 :: an 1 (.ptr (lv + 1) i14 0 :: an 6 (.sl 3 (a0.map GTally.el) false :: .int .i64 (a0.length : Int) :: .int .i64 x9 :: .bool (decide (x9 < (a0.length : Int))) :: .ref x10.cs 0 :: .agg x10.cs :: an 23 [])))), ⟨lv + 1, (L.set i14 (some (.cells x10.cs))), E⟩, [], E⟩ [] (by simp -implicitDefEqProofs [GTally.cs, g0, g1, g2]) claims_nil ?_
          have hA : AccG (lv + 1) (L.set i14 (some (.cells x10.cs))) [] [(i14, .cells x10.cs), (i6, .cells [.str ([]), .int .i64 x7, .int .i64 x8]), (i2, .cells [.str ([]), .int .i64 0, .int .i64 0])] := hA.upd (k := 0) rfl _
          generalize (L.set i14 (some (.cells x10.cs))) = L at hA ⊢
          refine satO_nil (by simp) ?_
          repeat refine sat_seq ?_
          refine satO_reg ?_
          obtain ⟨y15, q16, h⟩ := bnd_hi h
          have g0 := hA.get (k := 0) rfl
          have g1 := hA.get (k := 1) rfl
          have g2 := hA.get (k := 2) rfl
          refine satO_step 6 [(.int .i64 y15, none)] ⟨an 2 (.ptr (lv + 1) i2 0 :: an 2 (.ptr (lv + 1) i6 0 :: an 1 (.ptr (lv + 1) i14 0 :: an 6 (.sl 3 (a0.map GTally.el) false :: .int .i64 (a0.length : Int) :: .int .i64 x9 :: .bool (decide (x9 < (a0.length : Int))) :: .ref x10.cs 0 :: .agg x10.cs :: .ptr (lv + 1) i6 1 :: .int .i64 x7 :: .ptr (lv + 1) i14 1 :: .int .i64 x10.count :: .int .i64 y15 :: .ptr (lv + 1) i6 1 :: an 17 [])))), ⟨lv + 1, L, E⟩, [], E⟩ [⟨22, [.int .i64 x7, .int .i64 x10.count, .int .i64 1000000000], ⟨lv + 1, L, E⟩, .int .i64 y15, ⟨lv + 1, L, E⟩⟩] (by simp -implicitDefEqProofs [GTally.cs, g0, g1, g2]) (claims_cons (go_report_sum_int_ok _ _ _ _ _ q16 _) claims_nil) ?_
          have g0 := hA.get (k := 0) rfl
          have g1 := hA.get (k := 1) rfl
          have g2 := hA.get (k := 2) rfl
          refine satO_step 1 [] ⟨an 2 (.ptr (lv + 1) i2 0 :: an 2 (.ptr (lv + 1) i6 0 :: an 1 (.ptr (lv + 1) i14 0 :: an 6 (.sl 3 (a0.map GTally.el) false :: .int .i64 (a0.length : Int) :: .int .i64 x9 :: .bool (decide (x9 < (a0.length : Int))) :: .ref x10.cs 0 :: .agg x10.cs :: .ptr (lv + 1) i6 1 :: .int .i64 x7 :: .ptr (lv + 1) i14 1 :: .int .i64 x10.count :: .int .i64 y15 :: .ptr (lv + 1) i6 1 :: an 17 [])))), ⟨lv + 1, (L.set i6 (some (.cells [.str ([]), .int .i64 y15, .int .i64 x8]))), E⟩, [], E⟩ [] (by simp -implicitDefEqProofs [GTally.cs, g0, g1, g2]) claims_nil ?_
          have hA : AccG (lv + 1) (L.set i6 (some (.cells [.str ([]), .int .i64 y15, .int .i64 x8]))) [] [(i14, .cells x10.cs), (i6, .cells [.str ([]), .int .i64 y15, .int .i64 x8]), (i2, .cells [.str ([]), .int .i64 0, .int .i64 0])] := hA.upd (k := 1) rfl _
          generalize (L.set i6 (some (.cells [.str ([]), .int .i64 y15, .int .i64 x8]))) = L at hA ⊢
          refine satO_nil (by simp) ?_
          repeat refine sat_seq ?_
          refine satO_reg ?_
          obtain ⟨y17, q18, h⟩ := bnd_hi h
          have g0 := hA.get (k := 0) rfl
          have g1 := hA.get (k := 1) rfl
          have g2 := hA.get (k := 2) rfl
          refine satO_step 6 [(.int .i64 y17, none)] ⟨an 2 (.ptr (lv + 1) i2 0 :: an 2 (.ptr (lv + 1) i6 0 :: an 1 (.ptr (lv + 1) i14 0 :: an 6 (.sl 3 (a0.map GTally.el) false :: .int .i64 (a0.length : Int) :: .int .i64 x9 :: .bool (decide (x9 < (a0.length : Int))) :: .ref x10.cs 0 :: .agg x10.cs :: .ptr (lv + 1) i6 1 :: .int .i64 x7 :: .ptr (lv + 1) i14 1 :: .int .i64 x10.count :: .int .i64 y15 :: .ptr (lv + 1) i6 1 :: .ptr (lv + 1) i6 2 :: .int .i64 x8 :: .ptr (lv + 1) i14 2 :: .int .i64 x10.volume :: .int .i64 y17 :: .ptr (lv + 1) i6 2 :: an 11 [])))), ⟨lv + 1, L, E⟩, [], E⟩ [⟨23, [.int .i64 x8, .int .i64 x10.volume, .int .i64 1000000000000000000], ⟨lv + 1, L, E⟩, .int .i64 y17, ⟨lv + 1, L, E⟩⟩] (by simp -implicitDefEqProofs [GTally.cs, g0, g1, g2]) (claims_cons (go_report_sum_int64_ok _ _ _ _ _ q18 _) claims_nil) ?_
          have g0 := hA.get (k := 0) rfl
          have g1 := hA.get (k := 1) rfl
          have g2 := hA.get (k := 2) rfl
          refine satO_step 1 [] ⟨an 2 (.ptr (lv + 1) i2 0 :: an 2 (.ptr (lv + 1) i6 0 :: an 1 (.ptr (lv + 1) i14 0 :: an 6 (.sl 3 (a0.map GTally.el) false :: .int .i64 (a0.length : Int) :: .int .i64 x9 :: .bool (decide (x9 < (a0.length : Int))) :: .ref x10.cs 0 :: .agg x10.cs :: .ptr (lv + 1) i6 1 :: .int .i64 x7 :: .ptr (lv + 1) i14 1 :: .int .i64 x10.count :: .int .i64 y15 :: .ptr (lv + 1) i6 1 :: .ptr (lv + 1) i6 2 :: .int .i64 x8 :: .ptr (lv + 1) i14 2 :: .int .i64 x10.volume :: .int .i64 y17 :: .ptr (lv + 1) i6 2 :: an 11 [])))), ⟨lv + 1, (L.set i6 (some (.cells [.str ([]), .int .i64 y15, .int .i64 y17]))), E⟩, [], E⟩ [] (by simp -implicitDefEqProofs [GTally.cs, g0, g1, g2]) claims_nil ?_
          have hA : AccG (lv + 1) (L.set i6 (some (.cells [.str ([]), .int .i64 y15, .int .i64 y17]))) [] [(i14, .cells x10.cs), (i6, .cells [.str ([]), .int .i64 y15, .int .i64 y17]), (i2, .cells [.str ([]), .int .i64 0, .int .i64 0])] := hA.upd (k := 1) rfl _
          generalize (L.set i6 (some (.cells [.str ([]), .int .i64 y15, .int .i64 y17]))) = L at hA ⊢
          refine satO_nil (by simp) ?_
          repeat refine sat_seq ?_
          refine satO_reg ?_
          have g0 := hA.get (k := 0) rfl
          have g1 := hA.get (k := 1) rfl
          have g2 := hA.get (k := 2) rfl
          refine satO_step 2 [] ⟨an 2 (.ptr (lv + 1) i2 0 :: an 2 (.ptr (lv + 1) i6 0 :: an 1 (.ptr (lv + 1) i14 0 :: an 6 (.sl 3 (a0.map GTally.el) false :: .int .i64 (a0.length : Int) :: .int .i64 (IntKind.i64.wrap (x9 + 1)) :: .bool (decide (x9 < (a0.length : Int))) :: .ref x10.cs 0 :: .agg x10.cs :: .ptr (lv + 1) i6 1 :: .int .i64 x7 :: .ptr (lv + 1) i14 1 :: .int .i64 x10.count :: .int .i64 y15 :: .ptr (lv + 1) i6 1 :: .ptr (lv + 1) i6 2 :: .int .i64 x8 :: .ptr (lv + 1) i14 2 :: .int .i64 x10.volume :: .int .i64 y17 :: .ptr (lv + 1) i6 2 :: .int .i64 (IntKind.i64.wrap (x9 + 1)) :: an 10 [])))), ⟨lv + 1, L, E⟩, [], E⟩ [] (by simp -implicitDefEqProofs [GTally.cs, g0, g1, g2]) claims_nil ?_
          refine satO_nil (by simp) ?_
          have hA : AccG (lv + 1) L [] [(i6, .cells [.str ([]), .int .i64 y15, .int .i64 y17]), (i2, .cells [.str ([]), .int .i64 0, .int .i64 0])] := hA.sel [] (by simp) rfl (.cons _ (.cons_cons _ (.cons_cons _ .slnil)))
          refine ⟨n, ⟨an 2 (.ptr (lv + 1) i2 0 :: an 2 (.ptr (lv + 1) i6 0 :: an 8 (.sl 3 (a0.map GTally.el) false :: .int .i64 (a0.length : Int) :: .int .i64 (IntKind.i64.wrap (x9 + 1)) :: an 26 []))), ⟨lv + 1, L, E⟩, [], E⟩, weak_tmps ?_, ⟨y15, y17, (IntKind.i64.wrap (x9 + 1)), L, by omega, hA, h, rfl⟩, by omega⟩
          (try simp only [an, List.map_cons, List.map_nil]); repeat (first | exact VLeL.nil | refine VLeL.cons (by first | exact VLe.refl _ | exact VLe.any _ | exact VLe.nil _ _ | exact VLe.full _ _ | (refine VLe.agg' ?_; repeat (first | exact VLeL.nil | refine VLeL.cons (by first | exact VLe.refl _ | exact VLe.any _ | exact VLe.nil _ _) ?_))) ?_)
        · have h := ite_f hb h
          repeat refine sat_seq ?_
          refine sat_exit ?_
          repeat refine sat_seq ?_
          refine sat_meet (fun σ => ∃ (k : Nat), k ≤ n ∧ ∃ (x19 : Bool) (L : List (Option AObj)), AccG (lv + 1) L [] [(i6, .cells [.str ([]), .int .i64 x7, .int .i64 x8]), (i2, .cells [.str ([]), .int .i64 0, .int .i64 0])] ∧ go_report_Total_J1 k x7 x8 x19 = some r ∧ σ = ⟨an 2 (.ptr (lv + 1) i2 0 :: an 2 (.ptr (lv + 1) i6 0 :: an 34 (.bool x19 :: an 2 []))), ⟨lv + 1, L, E⟩, [], E⟩) ?_ ?_
          · refine satO_reg ?_
            rcases Bool.eq_false_or_eq_true (decide (1000000000 < x7)) with hg20 | hg21
            · have h := ite_t hg20 h
              have hg20n := hg20
              try simp at hg20n
              have g0 := hA.get (k := 0) rfl
              have g1 := hA.get (k := 1) rfl
              refine satO_step 8 [] ⟨an 2 (.ptr (lv + 1) i2 0 :: an 2 (.ptr (lv + 1) i6 0 :: an 8 (.sl 3 (a0.map GTally.el) false :: .int .i64 (a0.length : Int) :: .int .i64 x9 :: .bool (decide (x9 < (a0.length : Int))) :: an 15 (.ptr (lv + 1) i6 1 :: .int .i64 x7 :: .bool (decide (1000000000 < x7)) :: .bool (decide (1000000000 < x7)) :: .tup [] :: .tup [] :: .tup [] :: .bool true :: an 2 [])))), ⟨lv + 1, L, E⟩, [], E⟩ [] (by first | (simp -implicitDefEqProofs [GTally.cs, g0, g1, hg20]; done) | simp -implicitDefEqProofs [GTally.cs, g0, g1, hg20, hg20n]) claims_nil ?_
              refine satO_nil (by simp) ?_
              refine ⟨⟨an 2 (.ptr (lv + 1) i2 0 :: an 2 (.ptr (lv + 1) i6 0 :: an 34 (.bool true :: an 2 []))), ⟨lv + 1, L, E⟩, [], E⟩, weak_tmps ?_, n, by omega, true, L, hA, h, rfl⟩
              (try simp only [an, List.map_cons, List.map_nil]); repeat (first | exact VLeL.nil | refine VLeL.cons (by first | exact VLe.refl _ | exact VLe.any _ | exact VLe.nil _ _ | exact VLe.full _ _ | (refine VLe.agg' ?_; repeat (first | exact VLeL.nil | refine VLeL.cons (by first | exact VLe.refl _ | exact VLe.any _ | exact VLe.nil _ _) ?_))) ?_)
            · have h := ite_f hg21 h
              have hg21n := hg21
              try simp at hg21n
              have g0 := hA.get (k := 0) rfl
              have g1 := hA.get (k := 1) rfl
              refine satO_step 8 [] ⟨an 2 (.ptr (lv + 1) i2 0 :: an 2 (.ptr (lv + 1) i6 0 :: an 8 (.sl 3 (a0.map GTally.el) false :: .int .i64 (a0.length : Int) :: .int .i64 x9 :: .bool (decide (x9 < (a0.length : Int))) :: an 15 (.ptr (lv + 1) i6 1 :: .int .i64 x7 :: .bool (decide (1000000000 < x7)) :: .bool (decide (1000000000 < x7)) :: .ptr (lv + 1) i6 2 :: .int .i64 x8 :: .bool (decide (1000000000000000000 < x8)) :: .bool (decide (1000000000000000000 < x8)) :: an 2 [])))), ⟨lv + 1, L, E⟩, [], E⟩ [] (by first | (simp -implicitDefEqProofs [GTally.cs, g0, g1, hg21]; done) | simp -implicitDefEqProofs [GTally.cs, g0, g1, hg21, hg21n]) claims_nil ?_
              refine satO_nil (by simp) ?_
              refine ⟨⟨an 2 (.ptr (lv + 1) i2 0 :: an 2 (.ptr (lv + 1) i6 0 :: an 34 (.bool (decide (1000000000000000000 < x8)) :: an 2 []))), ⟨lv + 1, L, E⟩, [], E⟩, weak_tmps ?_, n, by omega, (decide (1000000000000000000 < x8)), L, hA, h, rfl⟩
              (try simp only [an, List.map_cons, List.map_nil]); repeat (first | exact VLeL.nil | refine VLeL.cons (by first | exact VLe.refl _ | exact VLe.any _ | exact VLe.nil _ _ | exact VLe.full _ _ | (refine VLe.agg' ?_; repeat (first | exact VLeL.nil | refine VLeL.cons (by first | exact VLe.refl _ | exact VLe.any _ | exact VLe.nil _ _) ?_))) ?_)
          · rintro σ0 σ hw ⟨k, hk, x19, L, hA, h, rfl⟩
            rcases k with _ | n
            · simp [go_report_Total_J1] at h
            · rw [go_report_Total_J1] at h
              refine sat_weak hw ?_
              repeat refine sat_seq ?_
              refine sat_cond rfl (fun hb => ?_) (fun hb => ?_)
              · have h := ite_t hb h
                repeat refine sat_seq ?_
                refine satO_reg ?_
                have g0 := hA.get (k := 0) rfl
                have g1 := hA.get (k := 1) rfl
                refine satO_step 1 [] ⟨an 2 (.ptr (lv + 1) i2 0 :: an 2 (.ptr (lv + 1) i6 0 :: an 34 (.bool x19 :: .agg [.str ([]), .int .i64 0, .int .i64 0] :: an 1 []))), ⟨lv + 1, L, E⟩, [], E⟩ [] (by simp -implicitDefEqProofs [GTally.cs, g0, g1]) claims_nil ?_
                have g0 := hA.get (k := 0) rfl
                have g1 := hA.get (k := 1) rfl
                refine satO_step 1 [] ⟨an 2 (.ptr (lv + 1) i2 0 :: an 2 (.ptr (lv + 1) i6 0 :: an 34 (.bool x19 :: .agg [.str ([]), .int .i64 0, .int .i64 0] :: an 1 []))), ⟨lv + 1, (L.set i2 (some (.cells [.str ([]), .int .i64 0, .int .i64 0]))), E⟩, [], E⟩ [] (by simp -implicitDefEqProofs [GTally.cs, g0, g1]) claims_nil ?_
                have hA : AccG (lv + 1) (L.set i2 (some (.cells [.str ([]), .int .i64 0, .int .i64 0]))) [] [(i6, .cells [.str ([]), .int .i64 x7, .int .i64 x8]), (i2, .cells [.str ([]), .int .i64 0, .int .i64 0])] := hA.upd (k := 1) rfl _
                generalize (L.set i2 (some (.cells [.str ([]), .int .i64 0, .int .i64 0]))) = L at hA ⊢
                have g0 := hA.get (k := 0) rfl
                have g1 := hA.get (k := 1) rfl
                refine satO_step 1 [] ⟨an 2 (.ptr (lv + 1) i2 0 :: .int .i64 16 :: an 1 (.ptr (lv + 1) i6 0 :: an 34 (.bool x19 :: .agg [.str ([]), .int .i64 0, .int .i64 0] :: an 1 []))), ⟨lv + 1, L, E⟩, [], E⟩ [] (by simp -implicitDefEqProofs [GTally.cs, g0, g1]) claims_nil ?_
                refine satO_nil (by simp) ?_
                repeat refine sat_seq ?_
                refine sat_ret ?_
                have g0 := hA.get (k := 0) rfl
                have g1 := hA.get (k := 1) rfl
                refine ends (v := .tup [.agg [.str ([]), .int .i64 0, .int .i64 0], .int .i64 16]) (by simp [resultsV, resL, resV, tupOf, Try.f8, pLoad, g0, g1, GTally.cs]) rfl rfl ?_
                injection h with h
                subst h
                exact .keep _ (by simp [V.kin, V.kinL, GTally.cs])
              · have h := ite_f hb h
                repeat refine sat_seq ?_
                refine sat_skip ?_
                repeat refine sat_seq ?_
                refine satO_reg ?_
                have g0 := hA.get (k := 0) rfl
                have g1 := hA.get (k := 1) rfl
                refine satO_step 1 [] ⟨an 2 (.ptr (lv + 1) i2 0 :: an 2 (.ptr (lv + 1) i6 0 :: an 34 (.bool x19 :: an 1 (.agg [.str ([]), .int .i64 x7, .int .i64 x8] :: [])))), ⟨lv + 1, L, E⟩, [], E⟩ [] (by simp -implicitDefEqProofs [GTally.cs, g0, g1]) claims_nil ?_
                have g0 := hA.get (k := 0) rfl
                have g1 := hA.get (k := 1) rfl
                refine satO_step 1 [] ⟨an 2 (.ptr (lv + 1) i2 0 :: an 2 (.ptr (lv + 1) i6 0 :: an 34 (.bool x19 :: an 1 (.agg [.str ([]), .int .i64 x7, .int .i64 x8] :: [])))), ⟨lv + 1, (L.set i2 (some (.cells [.str ([]), .int .i64 x7, .int .i64 x8]))), E⟩, [], E⟩ [] (by simp -implicitDefEqProofs [GTally.cs, g0, g1]) claims_nil ?_
                have hA : AccG (lv + 1) (L.set i2 (some (.cells [.str ([]), .int .i64 x7, .int .i64 x8]))) [] [(i6, .cells [.str ([]), .int .i64 x7, .int .i64 x8]), (i2, .cells [.str ([]), .int .i64 x7, .int .i64 x8])] := hA.upd (k := 1) rfl _
                generalize (L.set i2 (some (.cells [.str ([]), .int .i64 x7, .int .i64 x8]))) = L at hA ⊢
                have g0 := hA.get (k := 0) rfl
                have g1 := hA.get (k := 1) rfl
                refine satO_step 1 [] ⟨an 2 (.ptr (lv + 1) i2 0 :: .int .i64 0 :: an 1 (.ptr (lv + 1) i6 0 :: an 34 (.bool x19 :: an 1 (.agg [.str ([]), .int .i64 x7, .int .i64 x8] :: [])))), ⟨lv + 1, L, E⟩, [], E⟩ [] (by simp -implicitDefEqProofs [GTally.cs, g0, g1]) claims_nil ?_
                refine satO_nil (by simp) ?_
                repeat refine sat_seq ?_
                refine sat_ret ?_
                have g0 := hA.get (k := 0) rfl
                have g1 := hA.get (k := 1) rfl
                refine ends (v := .tup [.agg [.str ([]), .int .i64 x7, .int .i64 x8], .int .i64 0]) (by simp [resultsV, resL, resV, tupOf, Try.f8, pLoad, g0, g1, GTally.cs]) rfl rfl ?_
                injection h with h
                subst h
                exact .keep _ (by simp [V.kin, V.kinL, GTally.cs])
end Go.Proofs

namespace Go.Proofs
open Go Go.Ab
set_option maxRecDepth 10000
set_option maxHeartbeats 1000000
set_option linter.unusedSimpArgs false
set_option linter.unusedVariables false
theorem go_ref45_Total_ok (n : Nat) (a0 : List GTally) (r : GTally × Int) (h : go_ref45_Total n a0 = some r) : PCall Try.prog 9 [.sl 3 (a0.map GTally.el) false] (.tup [.agg r.1.cs, .int .i64 r.2]) := by
  rcases n with _ | n
  · simp [go_ref45_Total] at h
  rw [go_ref45_Total] at h
  refine pcall_of Try.func9 rfl Try.ntmps9 (fun _ _ => Try.call9 _ _) fun lv E => ?_
  simp only [List.length_cons, List.length_nil, Nat.reduceAdd, Nat.reduceSub, List.replicate, List.cons_append, List.nil_append]
  have hA := AccG.nil (lv + 1)
  generalize ([] : List (Option AObj)) = L at hA ⊢
  repeat refine sat_seq ?_
  refine satO_reg ?_
  refine satO_step 1 [] ⟨.sl 3 (a0.map GTally.el) false :: an 1 (.ptr (lv + 1) L.length 0 :: an 41 []), ⟨lv + 1, (L ++ [some (.cells [.str ([]), .int .i64 0, .int .i64 0])]), E⟩, [], E⟩ [] (by simp -implicitDefEqProofs [GTally.cs]) claims_nil ?_
  have hA : AccG (lv + 1) (L ++ [some (.cells [.str ([]), .int .i64 0, .int .i64 0])]) [] [(L.length, .cells [.str ([]), .int .i64 0, .int .i64 0])] := hA.obj _
  generalize L.length = i2 at hA ⊢
  generalize (L ++ [some (.cells [.str ([]), .int .i64 0, .int .i64 0])]) = L at hA ⊢
  have g0 := hA.get (k := 0) rfl
  refine satO_step 1 [] ⟨.sl 3 (a0.map GTally.el) false :: an 1 (.ptr (lv + 1) i2 0 :: .int .i64 0 :: an 40 []), ⟨lv + 1, L, E⟩, [], E⟩ [] (by simp -implicitDefEqProofs [GTally.cs, g0]) claims_nil ?_
  refine satO_nil (by simp) ?_
  repeat refine sat_seq ?_
  refine satO_reg ?_
  obtain ⟨y3, q4, h⟩ := bnd_hi h
  have g0 := hA.get (k := 0) rfl
  refine satO_step 3 [(.int .i64 y3, none)] ⟨.sl 3 (a0.map GTally.el) false :: an 1 (.ptr (lv + 1) i2 0 :: .int .i64 0 :: an 2 (.sl 3 (a0.map GTally.el) false :: .int .i64 y3 :: .bool (!(y3 == 0)) :: an 35 [])), ⟨lv + 1, L, E⟩, [], E⟩ [⟨11, [.sl 3 (a0.map GTally.el) false], ⟨lv + 1, L, E⟩, .int .i64 y3, ⟨lv + 1, L, E⟩⟩] (by simp -implicitDefEqProofs [GTally.cs, g0]) (claims_cons (go_ref45_Check_ok _ _ _ q4 _) claims_nil) ?_
  refine satO_nil (by simp) ?_
  repeat refine sat_seq ?_
  refine sat_cond rfl (fun hb => ?_) (fun hb => ?_)
  · have h := ite_t hb h
    repeat refine sat_seq ?_
    refine satO_reg ?_
    obtain ⟨y5, q6, h⟩ := bnd_hi h
    have g0 := hA.get (k := 0) rfl
    refine satO_step 3 [(.int .i64 y5, none)] ⟨.sl 3 (a0.map GTally.el) false :: an 1 (.ptr (lv + 1) i2 0 :: .int .i64 0 :: an 2 (.sl 3 (a0.map GTally.el) false :: .int .i64 y3 :: .bool (!(y3 == 0)) :: .agg [.str ([]), .int .i64 0, .int .i64 0] :: .sl 3 (a0.map GTally.el) false :: .int .i64 y5 :: an 32 [])), ⟨lv + 1, L, E⟩, [], E⟩ [⟨11, [.sl 3 (a0.map GTally.el) false], ⟨lv + 1, L, E⟩, .int .i64 y5, ⟨lv + 1, L, E⟩⟩] (by simp -implicitDefEqProofs [GTally.cs, g0]) (claims_cons (go_ref45_Check_ok _ _ _ q6 _) claims_nil) ?_
    have g0 := hA.get (k := 0) rfl
    refine satO_step 1 [] ⟨.sl 3 (a0.map GTally.el) false :: an 1 (.ptr (lv + 1) i2 0 :: .int .i64 0 :: an 2 (.sl 3 (a0.map GTally.el) false :: .int .i64 y3 :: .bool (!(y3 == 0)) :: .agg [.str ([]), .int .i64 0, .int .i64 0] :: .sl 3 (a0.map GTally.el) false :: .int .i64 y5 :: an 32 [])), ⟨lv + 1, (L.set i2 (some (.cells [.str ([]), .int .i64 0, .int .i64 0]))), E⟩, [], E⟩ [] (by simp -implicitDefEqProofs [GTally.cs, g0]) claims_nil ?_
    have hA : AccG (lv + 1) (L.set i2 (some (.cells [.str ([]), .int .i64 0, .int .i64 0]))) [] [(i2, .cells [.str ([]), .int .i64 0, .int .i64 0])] := hA.upd (k := 0) rfl _
    generalize (L.set i2 (some (.cells [.str ([]), .int .i64 0, .int .i64 0]))) = L at hA ⊢
    have g0 := hA.get (k := 0) rfl
    refine satO_step 1 [] ⟨.sl 3 (a0.map GTally.el) false :: an 1 (.ptr (lv + 1) i2 0 :: .int .i64 y5 :: an 2 (.sl 3 (a0.map GTally.el) false :: .int .i64 y3 :: .bool (!(y3 == 0)) :: .agg [.str ([]), .int .i64 0, .int .i64 0] :: .sl 3 (a0.map GTally.el) false :: .int .i64 y5 :: an 32 [])), ⟨lv + 1, L, E⟩, [], E⟩ [] (by simp -implicitDefEqProofs [GTally.cs, g0]) claims_nil ?_
    refine satO_nil (by simp) ?_
    repeat refine sat_seq ?_
    refine sat_ret ?_
    have g0 := hA.get (k := 0) rfl
    refine ends (v := .tup [.agg [.str ([]), .int .i64 0, .int .i64 0], .int .i64 y5]) (by simp [resultsV, resL, resV, tupOf, Try.f9, pLoad, g0, GTally.cs]) rfl rfl ?_
    injection h with h
    subst h
    exact .keep _ (by simp [V.kin, V.kinL, GTally.cs])
  · have h := ite_f hb h
    repeat refine sat_seq ?_
    refine sat_skip ?_
    repeat refine sat_seq ?_
    refine satO_reg ?_
    refine satO_step 1 [] ⟨.sl 3 (a0.map GTally.el) false :: an 1 (.ptr (lv + 1) i2 0 :: .int .i64 0 :: .ptr (lv + 1) L.length 0 :: an 1 (.sl 3 (a0.map GTally.el) false :: .int .i64 y3 :: .bool (!(y3 == 0)) :: an 35 [])), ⟨lv + 1, (L ++ [some (.cells [.str ([]), .int .i64 0, .int .i64 0])]), E⟩, [], E⟩ [] (by simp -implicitDefEqProofs [GTally.cs]) claims_nil ?_
    have hA : AccG (lv + 1) (L ++ [some (.cells [.str ([]), .int .i64 0, .int .i64 0])]) [] [(L.length, .cells [.str ([]), .int .i64 0, .int .i64 0]), (i2, .cells [.str ([]), .int .i64 0, .int .i64 0])] := hA.obj _
    generalize L.length = i8 at hA ⊢
    generalize (L ++ [some (.cells [.str ([]), .int .i64 0, .int .i64 0])]) = L at hA ⊢
    refine satO_nil (by simp) ?_
    repeat refine sat_seq ?_
    refine satO_reg ?_
    have g0 := hA.get (k := 0) rfl
    have g1 := hA.get (k := 1) rfl
    refine satO_step 1 [] ⟨.sl 3 (a0.map GTally.el) false :: an 1 (.ptr (lv + 1) i2 0 :: .int .i64 0 :: .ptr (lv + 1) i8 0 :: .int .i64 0 :: .sl 3 (a0.map GTally.el) false :: .int .i64 y3 :: .bool (!(y3 == 0)) :: an 35 []), ⟨lv + 1, L, E⟩, [], E⟩ [] (by simp -implicitDefEqProofs [GTally.cs, g0, g1]) claims_nil ?_
    refine satO_nil (by simp) ?_
    repeat refine sat_seq ?_
    refine sat_block ?_
    repeat refine sat_seq ?_
    refine sat_loop (fun k σ => ∃ (x9 : Int) (x10 : Int) (x11 : Int) (L : List (Option AObj)), k ≤ n ∧ AccG (lv + 1) L [] [(i8, .cells [.str ([]), .int .i64 x9, .int .i64 x10]), (i2, .cells [.str ([]), .int .i64 0, .int .i64 0])] ∧ go_ref45_Total_L1 k a0 x9 x10 x11 = some r ∧ σ = ⟨.sl 3 (a0.map GTally.el) false :: an 1 (.ptr (lv + 1) i2 0 :: an 1 (.ptr (lv + 1) i8 0 :: .int .i64 x11 :: an 38 [])), ⟨lv + 1, L, E⟩, [], E⟩) n ⟨.sl 3 (a0.map GTally.el) false :: an 1 (.ptr (lv + 1) i2 0 :: an 1 (.ptr (lv + 1) i8 0 :: .int .i64 0 :: an 38 [])), ⟨lv + 1, L, E⟩, [], E⟩ (weak_tmps ?_) ⟨0, 0, 0, L, Nat.le_refl _, hA, h, rfl⟩ ?_
    · (try simp only [an, List.map_cons, List.map_nil]); repeat (first | exact VLeL.nil | refine VLeL.cons (by first | exact VLe.refl _ | exact VLe.any _ | exact VLe.nil _ _ | exact VLe.full _ _ | (refine VLe.agg' ?_; repeat (first | exact VLeL.nil | refine VLeL.cons (by first | exact VLe.refl _ | exact VLe.any _ | exact VLe.nil _ _) ?_))) ?_)
    · rintro k σ ⟨x9, x10, x11, L, hk, hA, h, rfl⟩
      rcases k with _ | n
      · simp [go_ref45_Total_L1] at h
      · rw [go_ref45_Total_L1] at h
        repeat refine sat_seq ?_
        refine satO_reg ?_
        have g0 := hA.get (k := 0) rfl
        have g1 := hA.get (k := 1) rfl
        refine satO_step 4 [] ⟨.sl 3 (a0.map GTally.el) false :: an 1 (.ptr (lv + 1) i2 0 :: an 1 (.ptr (lv + 1) i8 0 :: .int .i64 x11 :: an 6 (.int .i64 x11 :: .sl 3 (a0.map GTally.el) false :: .int .i64 (a0.length : Int) :: .bool (decide (x11 < (a0.length : Int))) :: an 28 []))), ⟨lv + 1, L, E⟩, [], E⟩ [] (by simp -implicitDefEqProofs [GTally.cs, g0, g1]) claims_nil ?_
        refine satO_nil (by simp) ?_
        repeat refine sat_seq ?_
        refine sat_cond rfl (fun hb => ?_) (fun hb => ?_)
        · have h := ite_t hb h
          repeat refine sat_seq ?_
          refine sat_skip ?_
          repeat refine sat_seq ?_
          refine sat_block ?_
          repeat refine sat_seq ?_
          obtain ⟨x12, q13, h⟩ := bnd_hi h
          obtain ⟨q13, q14⟩ := ix_some q13
          have g0 := hA.get (k := 0) rfl
          have g1 := hA.get (k := 1) rfl
          refine satO_drt 10 (by kernel_rfl) (by kernel_rfl) [] ⟨.sl 3 (a0.map GTally.el) false :: an 1 (.ptr (lv + 1) i2 0 :: an 1 (.ptr (lv + 1) i8 0 :: .int .i64 x11 :: an 6 (.int .i64 x11 :: .sl 3 (a0.map GTally.el) false :: .int .i64 (a0.length : Int) :: .bool (decide (x11 < (a0.length : Int))) :: an 2 (.ptr (lv + 1) i8 1 :: .int .i64 x9 :: .sl 3 (a0.map GTally.el) false :: .int .i64 x11 :: .ref x12.cs 0 :: .ref x12.cs 1 :: .int .i64 x12.count :: .int .i64 (IntKind.i64.wrap (x9 + x12.count)) :: .int .i64 (mnI (IntKind.i64.wrap (x9 + x12.count)) 1000000001) :: .ptr (lv + 1) i8 1 :: an 16 [])))), ⟨lv + 1, L, E⟩, [], E⟩ [] (by simp -implicitDefEqProofs [GTally.cs, g0, g1, q13, q14, GTally.el_cs]) claims_nil ?_
          have g0 := hA.get (k := 0) rfl
          have g1 := hA.get (k := 1) rfl
          refine satO_step 1 [] ⟨.sl 3 (a0.map GTally.el) false :: an 1 (.ptr (lv + 1) i2 0 :: an 1 (.ptr (lv + 1) i8 0 :: .int .i64 x11 :: an 6 (.int .i64 x11 :: .sl 3 (a0.map GTally.el) false :: .int .i64 (a0.length : Int) :: .bool (decide (x11 < (a0.length : Int))) :: an 2 (.ptr (lv + 1) i8 1 :: .int .i64 x9 :: .sl 3 (a0.map GTally.el) false :: .int .i64 x11 :: .ref x12.cs 0 :: .ref x12.cs 1 :: .int .i64 x12.count :: .int .i64 (IntKind.i64.wrap (x9 + x12.count)) :: .int .i64 (mnI (IntKind.i64.wrap (x9 + x12.count)) 1000000001) :: .ptr (lv + 1) i8 1 :: an 16 [])))), ⟨lv + 1, (L.set i8 (some (.cells [.str ([]), .int .i64 (mnI (IntKind.i64.wrap (x9 + x12.count)) 1000000001), .int .i64 x10]))), E⟩, [], E⟩ [] (by simp -implicitDefEqProofs [GTally.cs, g0, g1]) claims_nil ?_
          have hA : AccG (lv + 1) (L.set i8 (some (.cells [.str ([]), .int .i64 (mnI (IntKind.i64.wrap (x9 + x12.count)) 1000000001), .int .i64 x10]))) [] [(i8, .cells [.str ([]), .int .i64 (mnI (IntKind.i64.wrap (x9 + x12.count)) 1000000001), .int .i64 x10]), (i2, .cells [.str ([]), .int .i64 0, .int .i64 0])] := hA.upd (k := 0) rfl _
          generalize (L.set i8 (some (.cells [.str ([]), .int .i64 (mnI (IntKind.i64.wrap (x9 + x12.count)) 1000000001), .int .i64 x10]))) = L at hA ⊢
          refine satO_nil (by simp) ?_
          repeat refine sat_seq ?_
          have g0 := hA.get (k := 0) rfl
          have g1 := hA.get (k := 1) rfl
          refine satO_drt 10 (by kernel_rfl) (by kernel_rfl) [] ⟨.sl 3 (a0.map GTally.el) false :: an 1 (.ptr (lv + 1) i2 0 :: an 1 (.ptr (lv + 1) i8 0 :: .int .i64 x11 :: an 6 (.int .i64 x11 :: .sl 3 (a0.map GTally.el) false :: .int .i64 (a0.length : Int) :: .bool (decide (x11 < (a0.length : Int))) :: an 2 (.ptr (lv + 1) i8 1 :: .int .i64 x9 :: .sl 3 (a0.map GTally.el) false :: .int .i64 x11 :: .ref x12.cs 0 :: .ref x12.cs 1 :: .int .i64 x12.count :: .int .i64 (IntKind.i64.wrap (x9 + x12.count)) :: .int .i64 (mnI (IntKind.i64.wrap (x9 + x12.count)) 1000000001) :: .ptr (lv + 1) i8 1 :: .ptr (lv + 1) i8 2 :: .int .i64 x10 :: .sl 3 (a0.map GTally.el) false :: .int .i64 x11 :: .ref x12.cs 0 :: .ref x12.cs 2 :: .int .i64 x12.volume :: .int .i64 (IntKind.i64.wrap (x10 + x12.volume)) :: .int .i64 (mnI (IntKind.i64.wrap (x10 + x12.volume)) 1000000000000000001) :: .ptr (lv + 1) i8 2 :: an 6 [])))), ⟨lv + 1, L, E⟩, [], E⟩ [] (by simp -implicitDefEqProofs [GTally.cs, g0, g1, q13, q14, GTally.el_cs]) claims_nil ?_
          have g0 := hA.get (k := 0) rfl
          have g1 := hA.get (k := 1) rfl
          refine satO_step 1 [] ⟨.sl 3 (a0.map GTally.el) false :: an 1 (.ptr (lv + 1) i2 0 :: an 1 (.ptr (lv + 1) i8 0 :: .int .i64 x11 :: an 6 (.int .i64 x11 :: .sl 3 (a0.map GTally.el) false :: .int .i64 (a0.length : Int) :: .bool (decide (x11 < (a0.length : Int))) :: an 2 (.ptr (lv + 1) i8 1 :: .int .i64 x9 :: .sl 3 (a0.map GTally.el) false :: .int .i64 x11 :: .ref x12.cs 0 :: .ref x12.cs 1 :: .int .i64 x12.count :: .int .i64 (IntKind.i64.wrap (x9 + x12.count)) :: .int .i64 (mnI (IntKind.i64.wrap (x9 + x12.count)) 1000000001) :: .ptr (lv + 1) i8 1 :: .ptr (lv + 1) i8 2 :: .int .i64 x10 :: .sl 3 (a0.map GTally.el) false :: .int .i64 x11 :: .ref x12.cs 0 :: .ref x12.cs 2 :: .int .i64 x12.volume :: .int .i64 (IntKind.i64.wrap (x10 + x12.volume)) :: .int .i64 (mnI (IntKind.i64.wrap (x10 + x12.volume)) 1000000000000000001) :: .ptr (lv + 1) i8 2 :: an 6 [])))), ⟨lv + 1, (L.set i8 (some (.cells [.str ([]), .int .i64 (mnI (IntKind.i64.wrap (x9 + x12.count)) 1000000001), .int .i64 (mnI (IntKind.i64.wrap (x10 + x12.volume)) 1000000000000000001)]))), E⟩, [], E⟩ [] (by simp -implicitDefEqProofs [GTally.cs, g0, g1]) claims_nil ?_
          have hA : AccG (lv + 1) (L.set i8 (some (.cells [.str ([]), .int .i64 (mnI (IntKind.i64.wrap (x9 + x12.count)) 1000000001), .int .i64 (mnI (IntKind.i64.wrap (x10 + x12.volume)) 1000000000000000001)]))) [] [(i8, .cells [.str ([]), .int .i64 (mnI (IntKind.i64.wrap (x9 + x12.count)) 1000000001), .int .i64 (mnI (IntKind.i64.wrap (x10 + x12.volume)) 1000000000000000001)]), (i2, .cells [.str ([]), .int .i64 0, .int .i64 0])] := hA.upd (k := 0) rfl _
          generalize (L.set i8 (some (.cells [.str ([]), .int .i64 (mnI (IntKind.i64.wrap (x9 + x12.count)) 1000000001), .int .i64 (mnI (IntKind.i64.wrap (x10 + x12.volume)) 1000000000000000001)]))) = L at hA ⊢
          refine satO_nil (by simp) ?_
          repeat refine sat_seq ?_
          refine satO_reg ?_
          have g0 := hA.get (k := 0) rfl
          have g1 := hA.get (k := 1) rfl
          refine satO_step 3 [] ⟨.sl 3 (a0.map GTally.el) false :: an 1 (.ptr (lv + 1) i2 0 :: an 1 (.ptr (lv + 1) i8 0 :: .int .i64 (IntKind.i64.wrap (x11 + 1)) :: an 6 (.int .i64 x11 :: .sl 3 (a0.map GTally.el) false :: .int .i64 (a0.length : Int) :: .bool (decide (x11 < (a0.length : Int))) :: .int .i64 x11 :: .int .i64 (IntKind.i64.wrap (x11 + 1)) :: .ptr (lv + 1) i8 1 :: .int .i64 x9 :: .sl 3 (a0.map GTally.el) false :: .int .i64 x11 :: .ref x12.cs 0 :: .ref x12.cs 1 :: .int .i64 x12.count :: .int .i64 (IntKind.i64.wrap (x9 + x12.count)) :: .int .i64 (mnI (IntKind.i64.wrap (x9 + x12.count)) 1000000001) :: .ptr (lv + 1) i8 1 :: .ptr (lv + 1) i8 2 :: .int .i64 x10 :: .sl 3 (a0.map GTally.el) false :: .int .i64 x11 :: .ref x12.cs 0 :: .ref x12.cs 2 :: .int .i64 x12.volume :: .int .i64 (IntKind.i64.wrap (x10 + x12.volume)) :: .int .i64 (mnI (IntKind.i64.wrap (x10 + x12.volume)) 1000000000000000001) :: .ptr (lv + 1) i8 2 :: an 6 []))), ⟨lv + 1, L, E⟩, [], E⟩ [] (by simp -implicitDefEqProofs [GTally.cs, g0, g1]) claims_nil ?_
          refine satO_nil (by simp) ?_
          refine ⟨n, ⟨.sl 3 (a0.map GTally.el) false :: an 1 (.ptr (lv + 1) i2 0 :: an 1 (.ptr (lv + 1) i8 0 :: .int .i64 (IntKind.i64.wrap (x11 + 1)) :: an 38 [])), ⟨lv + 1, L, E⟩, [], E⟩, weak_tmps ?_, ⟨(mnI (IntKind.i64.wrap (x9 + x12.count)) 1000000001), (mnI (IntKind.i64.wrap (x10 + x12.volume)) 1000000000000000001), (IntKind.i64.wrap (x11 + 1)), L, by omega, hA, h, rfl⟩, by omega⟩
          (try simp only [an, List.map_cons, List.map_nil]); repeat (first | exact VLeL.nil | refine VLeL.cons (by first | exact VLe.refl _ | exact VLe.any _ | exact VLe.nil _ _ | exact VLe.full _ _ | (refine VLe.agg' ?_; repeat (first | exact VLeL.nil | refine VLeL.cons (by first | exact VLe.refl _ | exact VLe.any _ | exact VLe.nil _ _) ?_))) ?_)
        · have h := ite_f hb h
          repeat refine sat_seq ?_
          refine sat_exit ?_
          repeat refine sat_seq ?_
          refine satO_reg ?_
          obtain ⟨y15, q16, h⟩ := bnd_hi h
          have g0 := hA.get (k := 0) rfl
          have g1 := hA.get (k := 1) rfl
          refine satO_step 4 [(.int .i64 y15, none)] ⟨.sl 3 (a0.map GTally.el) false :: an 1 (.ptr (lv + 1) i2 0 :: an 1 (.ptr (lv + 1) i8 0 :: .int .i64 x11 :: an 6 (.int .i64 x11 :: .sl 3 (a0.map GTally.el) false :: .int .i64 (a0.length : Int) :: .bool (decide (x11 < (a0.length : Int))) :: an 22 (.agg [.str ([]), .int .i64 x9, .int .i64 x10] :: .sl 3 [.agg [.str ([]), .int .i64 x9, .int .i64 x10]] true :: .int .i64 y15 :: .bool (!(y15 == 0)) :: an 2 [])))), ⟨lv + 1, L, E⟩, [], E⟩ [⟨21, [.sl 3 [.agg [.str ([]), .int .i64 x9, .int .i64 x10]] true], ⟨lv + 1, L, E⟩, .int .i64 y15, ⟨lv + 1, L, E⟩⟩] (by simp -implicitDefEqProofs [GTally.cs, g0, g1]) (claims_cons (hcall_le (go_ref45_within_ok _ _ _ q16 _) (by (try simp only [List.map_cons, List.map_nil, GTally.el_cs]); (try simp only [an, List.map_cons, List.map_nil]); repeat (first | exact VLeL.nil | refine VLeL.cons (by first | exact VLe.refl _ | exact VLe.any _ | exact VLe.nil _ _ | exact VLe.full _ _ | (refine VLe.agg' ?_; repeat (first | exact VLeL.nil | refine VLeL.cons (by first | exact VLe.refl _ | exact VLe.any _ | exact VLe.nil _ _) ?_))) ?_))) claims_nil) ?_
          refine satO_nil (by simp) ?_
          repeat refine sat_seq ?_
          refine sat_cond rfl (fun hb => ?_) (fun hb => ?_)
          · have h := ite_t hb h
            repeat refine sat_seq ?_
            refine satO_reg ?_
            have g0 := hA.get (k := 0) rfl
            have g1 := hA.get (k := 1) rfl
            refine satO_step 1 [] ⟨.sl 3 (a0.map GTally.el) false :: an 1 (.ptr (lv + 1) i2 0 :: an 1 (.ptr (lv + 1) i8 0 :: .int .i64 x11 :: an 6 (.int .i64 x11 :: .sl 3 (a0.map GTally.el) false :: .int .i64 (a0.length : Int) :: .bool (decide (x11 < (a0.length : Int))) :: an 22 (.agg [.str ([]), .int .i64 x9, .int .i64 x10] :: .sl 3 [.agg [.str ([]), .int .i64 x9, .int .i64 x10]] true :: .int .i64 y15 :: .bool (!(y15 == 0)) :: .agg [.str ([]), .int .i64 0, .int .i64 0] :: an 1 [])))), ⟨lv + 1, L, E⟩, [], E⟩ [] (by simp -implicitDefEqProofs [GTally.cs, g0, g1]) claims_nil ?_
            have g0 := hA.get (k := 0) rfl
            have g1 := hA.get (k := 1) rfl
            refine satO_step 1 [] ⟨.sl 3 (a0.map GTally.el) false :: an 1 (.ptr (lv + 1) i2 0 :: an 1 (.ptr (lv + 1) i8 0 :: .int .i64 x11 :: an 6 (.int .i64 x11 :: .sl 3 (a0.map GTally.el) false :: .int .i64 (a0.length : Int) :: .bool (decide (x11 < (a0.length : Int))) :: an 22 (.agg [.str ([]), .int .i64 x9, .int .i64 x10] :: .sl 3 [.agg [.str ([]), .int .i64 x9, .int .i64 x10]] true :: .int .i64 y15 :: .bool (!(y15 == 0)) :: .agg [.str ([]), .int .i64 0, .int .i64 0] :: an 1 [])))), ⟨lv + 1, (L.set i2 (some (.cells [.str ([]), .int .i64 0, .int .i64 0]))), E⟩, [], E⟩ [] (by simp -implicitDefEqProofs [GTally.cs, g0, g1]) claims_nil ?_
            have hA : AccG (lv + 1) (L.set i2 (some (.cells [.str ([]), .int .i64 0, .int .i64 0]))) [] [(i8, .cells [.str ([]), .int .i64 x9, .int .i64 x10]), (i2, .cells [.str ([]), .int .i64 0, .int .i64 0])] := hA.upd (k := 1) rfl _
            generalize (L.set i2 (some (.cells [.str ([]), .int .i64 0, .int .i64 0]))) = L at hA ⊢
            have g0 := hA.get (k := 0) rfl
            have g1 := hA.get (k := 1) rfl
            refine satO_step 1 [] ⟨.sl 3 (a0.map GTally.el) false :: an 1 (.ptr (lv + 1) i2 0 :: .int .i64 16 :: .ptr (lv + 1) i8 0 :: .int .i64 x11 :: an 6 (.int .i64 x11 :: .sl 3 (a0.map GTally.el) false :: .int .i64 (a0.length : Int) :: .bool (decide (x11 < (a0.length : Int))) :: an 22 (.agg [.str ([]), .int .i64 x9, .int .i64 x10] :: .sl 3 [.agg [.str ([]), .int .i64 x9, .int .i64 x10]] true :: .int .i64 y15 :: .bool (!(y15 == 0)) :: .agg [.str ([]), .int .i64 0, .int .i64 0] :: an 1 []))), ⟨lv + 1, L, E⟩, [], E⟩ [] (by simp -implicitDefEqProofs [GTally.cs, g0, g1]) claims_nil ?_
            refine satO_nil (by simp) ?_
            repeat refine sat_seq ?_
            refine sat_ret ?_
            have g0 := hA.get (k := 0) rfl
            have g1 := hA.get (k := 1) rfl
            refine ends (v := .tup [.agg [.str ([]), .int .i64 0, .int .i64 0], .int .i64 16]) (by simp [resultsV, resL, resV, tupOf, Try.f9, pLoad, g0, g1, GTally.cs]) rfl rfl ?_
            injection h with h
            subst h
            exact .keep _ (by simp [V.kin, V.kinL, GTally.cs])
          · have h := ite_f hb h
            repeat refine sat_seq ?_
            refine sat_skip ?_
            repeat refine sat_seq ?_
            refine satO_reg ?_
            have g0 := hA.get (k := 0) rfl
            have g1 := hA.get (k := 1) rfl
            refine satO_step 1 [] ⟨.sl 3 (a0.map GTally.el) false :: an 1 (.ptr (lv + 1) i2 0 :: an 1 (.ptr (lv + 1) i8 0 :: .int .i64 x11 :: an 6 (.int .i64 x11 :: .sl 3 (a0.map GTally.el) false :: .int .i64 (a0.length : Int) :: .bool (decide (x11 < (a0.length : Int))) :: an 22 (.agg [.str ([]), .int .i64 x9, .int .i64 x10] :: .sl 3 [.agg [.str ([]), .int .i64 x9, .int .i64 x10]] true :: .int .i64 y15 :: .bool (!(y15 == 0)) :: an 1 (.agg [.str ([]), .int .i64 x9, .int .i64 x10] :: []))))), ⟨lv + 1, L, E⟩, [], E⟩ [] (by simp -implicitDefEqProofs [GTally.cs, g0, g1]) claims_nil ?_
            have g0 := hA.get (k := 0) rfl
            have g1 := hA.get (k := 1) rfl
            refine satO_step 1 [] ⟨.sl 3 (a0.map GTally.el) false :: an 1 (.ptr (lv + 1) i2 0 :: an 1 (.ptr (lv + 1) i8 0 :: .int .i64 x11 :: an 6 (.int .i64 x11 :: .sl 3 (a0.map GTally.el) false :: .int .i64 (a0.length : Int) :: .bool (decide (x11 < (a0.length : Int))) :: an 22 (.agg [.str ([]), .int .i64 x9, .int .i64 x10] :: .sl 3 [.agg [.str ([]), .int .i64 x9, .int .i64 x10]] true :: .int .i64 y15 :: .bool (!(y15 == 0)) :: an 1 (.agg [.str ([]), .int .i64 x9, .int .i64 x10] :: []))))), ⟨lv + 1, (L.set i2 (some (.cells [.str ([]), .int .i64 x9, .int .i64 x10]))), E⟩, [], E⟩ [] (by simp -implicitDefEqProofs [GTally.cs, g0, g1]) claims_nil ?_
            have hA : AccG (lv + 1) (L.set i2 (some (.cells [.str ([]), .int .i64 x9, .int .i64 x10]))) [] [(i8, .cells [.str ([]), .int .i64 x9, .int .i64 x10]), (i2, .cells [.str ([]), .int .i64 x9, .int .i64 x10])] := hA.upd (k := 1) rfl _
            generalize (L.set i2 (some (.cells [.str ([]), .int .i64 x9, .int .i64 x10]))) = L at hA ⊢
            have g0 := hA.get (k := 0) rfl
            have g1 := hA.get (k := 1) rfl
            refine satO_step 1 [] ⟨.sl 3 (a0.map GTally.el) false :: an 1 (.ptr (lv + 1) i2 0 :: .int .i64 0 :: .ptr (lv + 1) i8 0 :: .int .i64 x11 :: an 6 (.int .i64 x11 :: .sl 3 (a0.map GTally.el) false :: .int .i64 (a0.length : Int) :: .bool (decide (x11 < (a0.length : Int))) :: an 22 (.agg [.str ([]), .int .i64 x9, .int .i64 x10] :: .sl 3 [.agg [.str ([]), .int .i64 x9, .int .i64 x10]] true :: .int .i64 y15 :: .bool (!(y15 == 0)) :: an 1 (.agg [.str ([]), .int .i64 x9, .int .i64 x10] :: [])))), ⟨lv + 1, L, E⟩, [], E⟩ [] (by simp -implicitDefEqProofs [GTally.cs, g0, g1]) claims_nil ?_
            refine satO_nil (by simp) ?_
            repeat refine sat_seq ?_
            refine sat_ret ?_
            have g0 := hA.get (k := 0) rfl
            have g1 := hA.get (k := 1) rfl
            refine ends (v := .tup [.agg [.str ([]), .int .i64 x9, .int .i64 x10], .int .i64 0]) (by simp [resultsV, resL, resV, tupOf, Try.f9, pLoad, g0, g1, GTally.cs]) rfl rfl ?_
            injection h with h
            subst h
            exact .keep _ (by simp [V.kin, V.kinL, GTally.cs])
end Go.Proofs

namespace Go.Proofs
open Go Go.Ab
set_option maxRecDepth 10000
set_option maxHeartbeats 1000000
set_option linter.unusedSimpArgs false
set_option linter.unusedVariables false
theorem go_report_book_put_at_ok (n : Nat) (a1 : GTally) (c0 : List (List UInt8 × GTally)) (r : (List (List UInt8 × GTally))) (h : go_report_book_put_at n a1 c0 = some r) : ∀ (lv : Nat) (L : List (Option AObj)) (E : Nat → Nat → Option AObj) (asl : List AccE) (osl : List (Nat × AObj)) (i00 : Nat), AccG lv L (asl) ((i00, .map (c0.map fun p => (.str p.1, GTally.el p.2))) :: osl) → HRel Try.prog 18 [.map lv i00, .agg a1.cs] ⟨lv, L, E⟩ (fun o H' => ∃ (L' : List (Option AObj)), H' = ⟨lv, L', E⟩ ∧ AccG lv L' (asl) ((i00, .map (r.map fun p => (.str p.1, GTally.el p.2))) :: osl) ∧ o = .ret (.tup [])) := by
  rw [go_report_book_put_at] at h
  intro lv L E asl osl i00 hA
  refine hrel_flat Try.func18 rfl Try.ntmps18 (fun _ _ => Try.call18 _ _) ?_
  simp only [List.length_cons, List.length_nil, Nat.reduceAdd, Nat.reduceSub, List.replicate, List.cons_append, List.nil_append]
  repeat refine sat_seq ?_
  refine satO_reg ?_
  refine satO_step 1 [] ⟨.map lv i00 :: .agg a1.cs :: an 1 (.ptr lv L.length 0 :: an 21 []), ⟨lv, (L ++ [some (.cells a1.cs)]), E⟩, [], E⟩ [] (by simp -implicitDefEqProofs [GTally.cs]) claims_nil ?_
  have hA : AccG lv (L ++ [some (.cells a1.cs)]) (asl) ((L.length, .cells a1.cs) :: (i00, .map (c0.map fun p => (.str p.1, GTally.el p.2))) :: osl) := hA.obj _
  generalize L.length = i2 at hA ⊢
  generalize (L ++ [some (.cells a1.cs)]) = L at hA ⊢
  refine satO_nil (by simp) ?_
  repeat refine sat_seq ?_
  refine satO_reg ?_
  have g4 := hA.get (k := 1) rfl
  have q3 := lookup_str (P := Try.prog) (H := ⟨lv, L, E⟩) (l := lv) (i := i00) (m := c0) (f := GTally.el) Try.underlying52 Try.underlying9 Try.zeroV30 (by simp [Heap.get, g4]) a1.name (GTally.mk ([]) 0 0) (by first | rfl | simp [GTally.el_cs]; rfl)
  have g0 := hA.get (k := 0) rfl
  have g1 := hA.get (k := 1) rfl
  refine satO_step 4 [] ⟨.map lv i00 :: .agg a1.cs :: an 1 (.ptr lv i2 0 :: an 1 (.map lv i00 :: .ptr lv i2 0 :: .str a1.name :: .agg ((mget c0 a1.name).getD (GTally.mk ([]) 0 0)).cs :: an 16 [])), ⟨lv, L, E⟩, [], E⟩ [] (by simp -implicitDefEqProofs [GTally.cs, g0, g1, q3.1, GTally.el_cs]) claims_nil ?_
  refine satO_step 1 [] ⟨.map lv i00 :: .agg a1.cs :: an 1 (.ptr lv i2 0 :: .ptr lv L.length 0 :: .map lv i00 :: .ptr lv i2 0 :: .str a1.name :: .agg ((mget c0 a1.name).getD (GTally.mk ([]) 0 0)).cs :: an 16 []), ⟨lv, (L ++ [some (.cells [.str ([]), .int .i64 0, .int .i64 0])]), E⟩, [], E⟩ [] (by simp -implicitDefEqProofs [GTally.cs]) claims_nil ?_
  have hA : AccG lv (L ++ [some (.cells [.str ([]), .int .i64 0, .int .i64 0])]) (asl) ((L.length, .cells [.str ([]), .int .i64 0, .int .i64 0]) :: (i2, .cells a1.cs) :: (i00, .map (c0.map fun p => (.str p.1, GTally.el p.2))) :: osl) := hA.obj _
  generalize L.length = i6 at hA ⊢
  generalize (L ++ [some (.cells [.str ([]), .int .i64 0, .int .i64 0])]) = L at hA ⊢
  have g0 := hA.get (k := 0) rfl
  have g1 := hA.get (k := 1) rfl
  have g2 := hA.get (k := 2) rfl
  refine satO_step 1 [] ⟨.map lv i00 :: .agg a1.cs :: an 1 (.ptr lv i2 0 :: .ptr lv i6 0 :: .map lv i00 :: .ptr lv i2 0 :: .str a1.name :: .agg ((mget c0 a1.name).getD (GTally.mk ([]) 0 0)).cs :: an 16 []), ⟨lv, (L.set i6 (some (.cells ((mget c0 a1.name).getD (GTally.mk ([]) 0 0)).cs))), E⟩, [], E⟩ [] (by simp -implicitDefEqProofs [GTally.cs, g0, g1, g2]) claims_nil ?_
  have hA : AccG lv (L.set i6 (some (.cells ((mget c0 a1.name).getD (GTally.mk ([]) 0 0)).cs))) (asl) ((i6, .cells ((mget c0 a1.name).getD (GTally.mk ([]) 0 0)).cs) :: (i2, .cells a1.cs) :: (i00, .map (c0.map fun p => (.str p.1, GTally.el p.2))) :: osl) := hA.upd (k := 0) rfl _
  generalize (L.set i6 (some (.cells ((mget c0 a1.name).getD (GTally.mk ([]) 0 0)).cs))) = L at hA ⊢
  refine satO_nil (by simp) ?_
  repeat refine sat_seq ?_
  obtain ⟨y7, q8, h⟩ := bnd_hi h
  obtain ⟨y9, q10, h⟩ := bnd_hi h
  have g0 := hA.get (k := 0) rfl
  have g1 := hA.get (k := 1) rfl
  have g2 := hA.get (k := 2) rfl
  refine satO_drt 16 (by kernel_rfl) (by kernel_rfl) [.int .i64 y7, .int .i64 y9] ⟨.map lv i00 :: .agg a1.cs :: an 1 (.ptr lv i2 0 :: .ptr lv i6 0 :: .map lv i00 :: .ptr lv i2 0 :: .str a1.name :: .agg ((mget c0 a1.name).getD (GTally.mk ([]) 0 0)).cs :: .map lv i00 :: .ptr lv i2 0 :: .str a1.name :: .ptr lv i2 0 :: .str a1.name :: .ptr lv i6 1 :: .int .i64 (((mget c0 a1.name).getD (GTally.mk ([]) 0 0)).count) :: .ptr lv i2 1 :: .int .i64 a1.count :: .int .i64 y7 :: .ptr lv i6 2 :: .int .i64 (((mget c0 a1.name).getD (GTally.mk ([]) 0 0)).volume) :: .ptr lv i2 2 :: .int .i64 a1.volume :: .int .i64 y9 :: .agg [.str a1.name, .int .i64 y7, .int .i64 y9] :: []), ⟨lv, L, E⟩, [], E⟩ [⟨22, [.int .i64 (((mget c0 a1.name).getD (GTally.mk ([]) 0 0)).count), .int .i64 a1.count, .int .i64 1000000000], ⟨lv, L, E⟩, .int .i64 y7, ⟨lv, L, E⟩⟩, ⟨23, [.int .i64 (((mget c0 a1.name).getD (GTally.mk ([]) 0 0)).volume), .int .i64 a1.volume, .int .i64 1000000000000000000], ⟨lv, L, E⟩, .int .i64 y9, ⟨lv, L, E⟩⟩] (by simp -implicitDefEqProofs [GTally.cs, g0, g1, g2]) (claims_cons (go_report_sum_int_ok _ _ _ _ _ q8 _) (claims_cons (go_report_sum_int64_ok _ _ _ _ _ q10 _) claims_nil)) ?_
  have g2 := hA.get (k := 2) rfl
  have q11 := update_str (P := Try.prog) (lv := lv) (E := E) (f := GTally.el) Try.underlying52 Try.underlying9 g2 a1.name (GTally.mk a1.name y7 y9) (y := .agg [.str a1.name, .int .i64 y7, .int .i64 y9]) (by first | rfl | simp [GTally.el_cs]; rfl)
  refine satO_step 1 [] ⟨.map lv i00 :: .agg a1.cs :: an 1 (.ptr lv i2 0 :: .ptr lv i6 0 :: .map lv i00 :: .ptr lv i2 0 :: .str a1.name :: .agg ((mget c0 a1.name).getD (GTally.mk ([]) 0 0)).cs :: .map lv i00 :: .ptr lv i2 0 :: .str a1.name :: .ptr lv i2 0 :: .str a1.name :: .ptr lv i6 1 :: .int .i64 (((mget c0 a1.name).getD (GTally.mk ([]) 0 0)).count) :: .ptr lv i2 1 :: .int .i64 a1.count :: .int .i64 y7 :: .ptr lv i6 2 :: .int .i64 (((mget c0 a1.name).getD (GTally.mk ([]) 0 0)).volume) :: .ptr lv i2 2 :: .int .i64 a1.volume :: .int .i64 y9 :: .agg [.str a1.name, .int .i64 y7, .int .i64 y9] :: []), ⟨lv, (L.set i00 (some (.map ((mput c0 a1.name (GTally.mk a1.name y7 y9)).map fun p => (.str p.1, GTally.el p.2))))), E⟩, [], E⟩ [] (by simp -implicitDefEqProofs [q11]) claims_nil ?_
  have hA : AccG lv (L.set i00 (some (.map ((mput c0 a1.name (GTally.mk a1.name y7 y9)).map fun p => (.str p.1, GTally.el p.2))))) (asl) ((i6, .cells ((mget c0 a1.name).getD (GTally.mk ([]) 0 0)).cs) :: (i2, .cells a1.cs) :: (i00, .map ((mput c0 a1.name (GTally.mk a1.name y7 y9)).map fun p => (.str p.1, GTally.el p.2))) :: osl) := hA.upd (k := 2) rfl _
  generalize (L.set i00 (some (.map ((mput c0 a1.name (GTally.mk a1.name y7 y9)).map fun p => (.str p.1, GTally.el p.2))))) = L at hA ⊢
  refine satO_nil (by simp) ?_
  have g0 := hA.get (k := 0) rfl
  have g1 := hA.get (k := 1) rfl
  have g2 := hA.get (k := 2) rfl
  have hA : AccG lv L (asl) ((i00, .map ((mput c0 a1.name (GTally.mk a1.name y7 y9)).map fun p => (.str p.1, GTally.el p.2))) :: osl) := hA.selT (pre := []) (tl := asl) (preo := [(i6, .cells ((mget c0 a1.name).getD (GTally.mk ([]) 0 0)).cs), (i2, .cells a1.cs), (i00, .map ((mput c0 a1.name (GTally.mk a1.name y7 y9)).map fun p => (.str p.1, GTally.el p.2)))]) (tlo := osl) (pre' := []) (preo' := [(i00, .map ((mput c0 a1.name (GTally.mk a1.name y7 y9)).map fun p => (.str p.1, GTally.el p.2)))]) [] (by simp) rfl [2] (by simp) rfl
  injection h with h
  subst h
  try dsimp only [AExit.then, AExit.inBlock]
  refine endsF' (.tup []) (.tup []) (by simp [resultsV, resL, resV, tupOf, Try.f18, pLoad, g0, g1, g2, GTally.cs]) rfl ?_ ⟨L, rfl, hA, rfl⟩
  exact VLe.refl _
end Go.Proofs

namespace Go.Proofs
open Go Go.Ab
set_option maxRecDepth 10000
set_option maxHeartbeats 1000000
set_option linter.unusedSimpArgs false
set_option linter.unusedVariables false
theorem go_report_Merge_own_ok (n : Nat) (a0 : List GTally) (a1 : List GTally) (r : (List GTally) × Int) (h : go_report_Merge_own n a0 a1 = some r) : ∀ (lv : Nat) (L : List (Option AObj)) (E : Nat → Nat → Option AObj) (asl : List AccE) (osl : List (Nat × AObj)), AccG lv L (asl) (osl) → HRel Try.prog 6 [.sl 3 (a0.map GTally.el) false, .sl 3 (a1.map GTally.el) false] ⟨lv, L, E⟩ (fun o H' => ∃ (L' : List (Option AObj)) (s0_0 : V), H' = ⟨lv, L', E⟩ ∧ AccG lv L' (⟨30, 3, s0_0, r.1.map GTally.el, true⟩ :: asl) (osl) ∧ o = .ret (.tup [s0_0, .int .i64 r.2])) := by
  rcases n with _ | n
  · simp [go_report_Merge_own] at h
  rw [go_report_Merge_own] at h
  intro lv L E asl osl  hA
  refine hrel_flat Try.func6 rfl Try.ntmps6 (fun _ _ => Try.call6 _ _) ?_
  simp only [List.length_cons, List.length_nil, Nat.reduceAdd, Nat.reduceSub, List.replicate, List.cons_append, List.nil_append]
  repeat refine sat_seq ?_
  refine satO_reg ?_
  refine satO_step 2 [] ⟨.sl 3 (a0.map GTally.el) false :: .sl 3 (a1.map GTally.el) false :: an 2 (.nils :: .int .i64 0 :: an 33 []), ⟨lv, L, E⟩, [], E⟩ [] (by simp -implicitDefEqProofs []) claims_nil ?_
  refine satO_nil (by simp) ?_
  repeat refine sat_seq ?_
  refine satO_reg ?_
  refine satO_step 1 [] ⟨.sl 3 (a0.map GTally.el) false :: .sl 3 (a1.map GTally.el) false :: an 2 (.nils :: .int .i64 0 :: an 6 (.map lv L.length :: an 26 [])), ⟨lv, (L ++ [some (.map [])]), E⟩, [], E⟩ [] (by simp -implicitDefEqProofs []) claims_nil ?_
  have hA : AccG lv (L ++ [some (.map [])]) (asl) ((L.length, .map (([] : List (List UInt8 × GTally)).map fun p => (.str p.1, GTally.el p.2))) :: osl) := hA.obj _
  generalize L.length = i2 at hA ⊢
  generalize (L ++ [some (.map [])]) = L at hA ⊢
  have g0 := hA.get (k := 0) rfl
  refine satO_step 1 [] ⟨.sl 3 (a0.map GTally.el) false :: .sl 3 (a1.map GTally.el) false :: an 2 (.nils :: .int .i64 0 :: .map lv i2 :: an 5 (.map lv i2 :: an 26 [])), ⟨lv, L, E⟩, [], E⟩ [] (by simp -implicitDefEqProofs [g0]) claims_nil ?_
  refine satO_nil (by simp) ?_
  repeat refine sat_seq ?_
  refine satO_reg ?_
  have g0 := hA.get (k := 0) rfl
  refine satO_step 4 [] ⟨.sl 3 (a0.map GTally.el) false :: .sl 3 (a1.map GTally.el) false :: an 2 (.nils :: .int .i64 0 :: .map lv i2 :: an 5 (.map lv i2 :: .sl 3 (a0.map GTally.el) false :: .sl 3 (a1.map GTally.el) false :: .agg [.sl 3 (a0.map GTally.el) false, .sl 3 (a1.map GTally.el) false] :: .int .i64 0 :: an 22 [])), ⟨lv, L, E⟩, [], E⟩ [] (by simp -implicitDefEqProofs [g0]) claims_nil ?_
  refine satO_nil (by simp) ?_
  repeat refine sat_seq ?_
  refine sat_block ?_
  repeat refine sat_seq ?_
  refine sat_loop (fun k σ => ∃ (x3 : List (List UInt8 × GTally)) (x4 : Int) (L : List (Option AObj)), k ≤ n ∧ AccG lv L (asl) ((i2, .map (x3.map fun p => (.str p.1, GTally.el p.2))) :: osl) ∧ go_report_Merge_own_L1 k a0 a1 x3 x4 = some r ∧ σ = ⟨an 6 (.map lv i2 :: an 8 (.agg [.sl 3 (a0.map GTally.el) false, .sl 3 (a1.map GTally.el) false] :: .int .i64 x4 :: an 22 [])), ⟨lv, L, E⟩, [], E⟩) n ⟨an 6 (.map lv i2 :: an 8 (.agg [.sl 3 (a0.map GTally.el) false, .sl 3 (a1.map GTally.el) false] :: .int .i64 0 :: an 22 [])), ⟨lv, L, E⟩, [], E⟩ (weak_tmps ?_) ⟨([] : List (List UInt8 × GTally)), 0, L, Nat.le_refl _, hA, h, rfl⟩ ?_
  · (try simp only [an, List.map_cons, List.map_nil]); repeat (first | exact VLeL.nil | refine VLeL.cons (by first | exact VLe.refl _ | exact VLe.any _ | exact VLe.nil _ _ | exact VLe.full _ _ | (refine VLe.agg' ?_; repeat (first | exact VLeL.nil | refine VLeL.cons (by first | exact VLe.refl _ | exact VLe.any _ | exact VLe.nil _ _) ?_))) ?_)
  · rintro k σ ⟨x3, x4, L, hk, hA, h, rfl⟩
    rcases k with _ | n
    · simp [go_report_Merge_own_L1] at h
    · rw [go_report_Merge_own_L1] at h
      repeat refine sat_seq ?_
      refine satO_reg ?_
      have g0 := hA.get (k := 0) rfl
      refine satO_step 1 [] ⟨an 6 (.map lv i2 :: an 8 (.agg [.sl 3 (a0.map GTally.el) false, .sl 3 (a1.map GTally.el) false] :: .int .i64 x4 :: .bool (decide (x4 < 2)) :: an 21 [])), ⟨lv, L, E⟩, [], E⟩ [] (by simp -implicitDefEqProofs [g0]) claims_nil ?_
      refine satO_nil (by simp) ?_
      repeat refine sat_seq ?_
      refine sat_cond rfl (fun hb => ?_) (fun hb => ?_)
      · have h := ite_t hb h
        repeat refine sat_seq ?_
        refine sat_skip ?_
        repeat refine sat_seq ?_
        refine sat_block ?_
        repeat refine sat_seq ?_
        refine satO_reg ?_
        obtain ⟨x5, q6, h⟩ := bnd_hi h
        obtain ⟨q6, q7⟩ := ix_some q6
        have q8 : ([.sl 3 (a0.map GTally.el) false, .sl 3 (a1.map GTally.el) false] : List V)[(x4 : Int).toNat]? = some (.sl 3 (x5.map GTally.el) false) := by simpa using ix_sl (f := GTally.el) (sz := 3) q7
        have q9 : x4 < 2 := by have h9 := (List.getElem?_eq_some_iff.1 q7).1; simp at h9; omega
        have q10 : ∀ hh, ([.sl 3 (a0.map GTally.el) false, .sl 3 (a1.map GTally.el) false] : List V)[(x4 : Int).toNat]'hh = (.sl 3 (x5.map GTally.el) false) := fun hh => by rw [List.getElem?_eq_getElem hh] at q8; exact Option.some.inj q8
        have g0 := hA.get (k := 0) rfl
        refine satO_step 2 [] ⟨an 6 (.map lv i2 :: an 1 (.sl 3 (x5.map GTally.el) false :: an 6 (.agg [.sl 3 (a0.map GTally.el) false, .sl 3 (a1.map GTally.el) false] :: .int .i64 x4 :: .bool (decide (x4 < 2)) :: .sl 3 (x5.map GTally.el) false :: an 20 []))), ⟨lv, L, E⟩, [], E⟩ [] (by simp -implicitDefEqProofs [g0, q6, q9, q10]) claims_nil ?_
        refine satO_nil (by simp) ?_
        repeat refine sat_seq ?_
        refine satO_reg ?_
        obtain ⟨y11, q12, h⟩ := bnd_hi h
        have g0 := hA.get (k := 0) rfl
        refine satO_step 3 [(.int .i64 y11, none)] ⟨an 6 (.map lv i2 :: an 1 (.sl 3 (x5.map GTally.el) false :: .int .i64 y11 :: an 5 (.agg [.sl 3 (a0.map GTally.el) false, .sl 3 (a1.map GTally.el) false] :: .int .i64 x4 :: .bool (decide (x4 < 2)) :: .sl 3 (x5.map GTally.el) false :: .sl 3 (x5.map GTally.el) false :: .int .i64 y11 :: an 18 []))), ⟨lv, L, E⟩, [], E⟩ [⟨10, [.sl 3 (x5.map GTally.el) false], ⟨lv, L, E⟩, .int .i64 y11, ⟨lv, L, E⟩⟩] (by simp -implicitDefEqProofs [g0]) (claims_cons (go_report_Check_ok _ _ _ q12 _) claims_nil) ?_
        refine satO_nil (by simp) ?_
        repeat refine sat_seq ?_
        refine satO_reg ?_
        have g0 := hA.get (k := 0) rfl
        refine satO_step 2 [] ⟨an 6 (.map lv i2 :: an 1 (.sl 3 (x5.map GTally.el) false :: .int .i64 y11 :: an 5 (.agg [.sl 3 (a0.map GTally.el) false, .sl 3 (a1.map GTally.el) false] :: .int .i64 x4 :: .bool (decide (x4 < 2)) :: .sl 3 (x5.map GTally.el) false :: .sl 3 (x5.map GTally.el) false :: .int .i64 y11 :: .int .i64 y11 :: .bool (!(y11 == 0)) :: an 16 []))), ⟨lv, L, E⟩, [], E⟩ [] (by simp -implicitDefEqProofs [g0]) claims_nil ?_
        refine satO_nil (by simp) ?_
        repeat refine sat_seq ?_
        refine sat_cond rfl (fun hb => ?_) (fun hb => ?_)
        · have h := ite_t hb h
          repeat refine sat_seq ?_
          refine satO_reg ?_
          have g0 := hA.get (k := 0) rfl
          refine satO_step 3 [] ⟨an 4 (.nils :: .int .i64 y11 :: .map lv i2 :: an 1 (.sl 3 (x5.map GTally.el) false :: .int .i64 y11 :: an 5 (.agg [.sl 3 (a0.map GTally.el) false, .sl 3 (a1.map GTally.el) false] :: .int .i64 x4 :: .bool (decide (x4 < 2)) :: .sl 3 (x5.map GTally.el) false :: .sl 3 (x5.map GTally.el) false :: .int .i64 y11 :: .int .i64 y11 :: .bool (!(y11 == 0)) :: .int .i64 y11 :: an 15 []))), ⟨lv, L, E⟩, [], E⟩ [] (by simp -implicitDefEqProofs [g0]) claims_nil ?_
          refine satO_nil (by simp) ?_
          repeat refine sat_seq ?_
          have hA := hA.cons 30 3 true
          refine sat_ret ?_
          have g0 := hA.get (k := 0) rfl
          have hA : AccG lv L (⟨30, 3, .nils, ([]).map GTally.el, true⟩ :: asl) (osl) := hA.selT (pre := [⟨30, 3, .nils, ([]).map GTally.el, true⟩]) (tl := asl) (preo := [(i2, .map (x3.map fun p => (.str p.1, GTally.el p.2)))]) (tlo := osl) (pre' := [⟨30, 3, .nils, ([]).map GTally.el, true⟩]) (preo' := []) [0] (by simp) rfl [] (by simp) rfl
          injection h with h
          subst h
          try dsimp only [AExit.then, AExit.inBlock]
          refine endsF (.tup [.nils, .int .i64 y11]) (.tup [.nils, .int .i64 y11]) (by simp [resultsV, resL, resV, tupOf, Try.f6, pLoad, g0]) rfl ?_ ⟨L, .nils, rfl, hA, rfl⟩
          exact VLe.refl _
        · have h := ite_f hb h
          repeat refine sat_seq ?_
          refine sat_skip ?_
          repeat refine sat_seq ?_
          refine satO_reg ?_
          have g0 := hA.get (k := 0) rfl
          refine satO_step 3 [] ⟨an 6 (.map lv i2 :: an 1 (.sl 3 (x5.map GTally.el) false :: .int .i64 y11 :: an 5 (.agg [.sl 3 (a0.map GTally.el) false, .sl 3 (a1.map GTally.el) false] :: .int .i64 x4 :: .bool (decide (x4 < 2)) :: .sl 3 (x5.map GTally.el) false :: .sl 3 (x5.map GTally.el) false :: .int .i64 y11 :: .int .i64 y11 :: .bool (!(y11 == 0)) :: an 1 (.sl 3 (x5.map GTally.el) false :: .int .i64 (x5.length : Int) :: .int .i64 0 :: an 12 [])))), ⟨lv, L, E⟩, [], E⟩ [] (by simp -implicitDefEqProofs [g0]) claims_nil ?_
          refine satO_nil (by simp) ?_
          repeat refine sat_seq ?_
          refine sat_block ?_
          repeat refine sat_seq ?_
          refine sat_loop (fun k σ => ∃ (x14 : List (List UInt8 × GTally)) (x15 : Int) (L : List (Option AObj)), k ≤ n ∧ AccG lv L (asl) ((i2, .map (x14.map fun p => (.str p.1, GTally.el p.2))) :: osl) ∧ go_report_Merge_own_L2 k a0 a1 x4 x5 x14 x15 = some r ∧ σ = ⟨an 6 (.map lv i2 :: an 8 (.agg [.sl 3 (a0.map GTally.el) false, .sl 3 (a1.map GTally.el) false] :: .int .i64 x4 :: an 7 (.sl 3 (x5.map GTally.el) false :: .int .i64 (x5.length : Int) :: .int .i64 x15 :: an 12 []))), ⟨lv, L, E⟩, [], E⟩) n ⟨an 6 (.map lv i2 :: an 8 (.agg [.sl 3 (a0.map GTally.el) false, .sl 3 (a1.map GTally.el) false] :: .int .i64 x4 :: an 7 (.sl 3 (x5.map GTally.el) false :: .int .i64 (x5.length : Int) :: .int .i64 0 :: an 12 []))), ⟨lv, L, E⟩, [], E⟩ (weak_tmps ?_) ⟨x3, 0, L, Nat.le_refl _, hA, h, rfl⟩ ?_
          · (try simp only [an, List.map_cons, List.map_nil]); repeat (first | exact VLeL.nil | refine VLeL.cons (by first | exact VLe.refl _ | exact VLe.any _ | exact VLe.nil _ _ | exact VLe.full _ _ | (refine VLe.agg' ?_; repeat (first | exact VLeL.nil | refine VLeL.cons (by first | exact VLe.refl _ | exact VLe.any _ | exact VLe.nil _ _) ?_))) ?_)
          · rintro k σ ⟨x14, x15, L, hk, hA, h, rfl⟩
            rcases k with _ | n
            · simp [go_report_Merge_own_L2] at h
            · rw [go_report_Merge_own_L2] at h
              repeat refine sat_seq ?_
              refine satO_reg ?_
              have g0 := hA.get (k := 0) rfl
              refine satO_step 1 [] ⟨an 6 (.map lv i2 :: an 8 (.agg [.sl 3 (a0.map GTally.el) false, .sl 3 (a1.map GTally.el) false] :: .int .i64 x4 :: an 7 (.sl 3 (x5.map GTally.el) false :: .int .i64 (x5.length : Int) :: .int .i64 x15 :: .bool (decide (x15 < (x5.length : Int))) :: an 11 []))), ⟨lv, L, E⟩, [], E⟩ [] (by simp -implicitDefEqProofs [g0]) claims_nil ?_
              refine satO_nil (by simp) ?_
              repeat refine sat_seq ?_
              refine sat_cond rfl (fun hb => ?_) (fun hb => ?_)
              · have h := ite_t hb h
                repeat refine sat_seq ?_
                refine sat_skip ?_
                repeat refine sat_seq ?_
                refine sat_block ?_
                repeat refine sat_seq ?_
                refine satO_reg ?_
                obtain ⟨x16, q17, h⟩ := bnd_hi h
                obtain ⟨q17, q18⟩ := ix_some q17
                have g0 := hA.get (k := 0) rfl
                refine satO_step 2 [] ⟨an 6 (.map lv i2 :: an 8 (.agg [.sl 3 (a0.map GTally.el) false, .sl 3 (a1.map GTally.el) false] :: .int .i64 x4 :: an 7 (.sl 3 (x5.map GTally.el) false :: .int .i64 (x5.length : Int) :: .int .i64 x15 :: .bool (decide (x15 < (x5.length : Int))) :: .ref x16.cs 0 :: .agg x16.cs :: an 9 []))), ⟨lv, L, E⟩, [], E⟩ [] (by simp -implicitDefEqProofs [GTally.cs, g0, q17, q18, GTally.el_cs]) claims_nil ?_
                refine satO_step 1 [] ⟨an 6 (.map lv i2 :: an 4 (.ptr lv L.length 0 :: an 3 (.agg [.sl 3 (a0.map GTally.el) false, .sl 3 (a1.map GTally.el) false] :: .int .i64 x4 :: an 7 (.sl 3 (x5.map GTally.el) false :: .int .i64 (x5.length : Int) :: .int .i64 x15 :: .bool (decide (x15 < (x5.length : Int))) :: .ref x16.cs 0 :: .agg x16.cs :: an 9 [])))), ⟨lv, (L ++ [some (.cells [.str ([]), .int .i64 0, .int .i64 0])]), E⟩, [], E⟩ [] (by simp -implicitDefEqProofs [GTally.cs]) claims_nil ?_
                have hA : AccG lv (L ++ [some (.cells [.str ([]), .int .i64 0, .int .i64 0])]) (asl) ((L.length, .cells [.str ([]), .int .i64 0, .int .i64 0]) :: (i2, .map (x14.map fun p => (.str p.1, GTally.el p.2))) :: osl) := hA.obj _
                generalize L.length = i20 at hA ⊢
                generalize (L ++ [some (.cells [.str ([]), .int .i64 0, .int .i64 0])]) = L at hA ⊢
                have g0 := hA.get (k := 0) rfl
                have g1 := hA.get (k := 1) rfl
                refine satO_step 1 [] ⟨an 6 (.map lv i2 :: an 4 (.ptr lv i20 0 :: an 3 (.agg [.sl 3 (a0.map GTally.el) false, .sl 3 (a1.map GTally.el) false] :: .int .i64 x4 :: an 7 (.sl 3 (x5.map GTally.el) false :: .int .i64 (x5.length : Int) :: .int .i64 x15 :: .bool (decide (x15 < (x5.length : Int))) :: .ref x16.cs 0 :: .agg x16.cs :: an 9 [])))), ⟨lv, (L.set i20 (some (.cells x16.cs))), E⟩, [], E⟩ [] (by simp -implicitDefEqProofs [GTally.cs, g0, g1]) claims_nil ?_
                have hA : AccG lv (L.set i20 (some (.cells x16.cs))) (asl) ((i20, .cells x16.cs) :: (i2, .map (x14.map fun p => (.str p.1, GTally.el p.2))) :: osl) := hA.upd (k := 0) rfl _
                generalize (L.set i20 (some (.cells x16.cs))) = L at hA ⊢
                refine satO_nil (by simp) ?_
                repeat refine sat_seq ?_
                refine satO_reg ?_
                have g0 := hA.get (k := 0) rfl
                have g1 := hA.get (k := 1) rfl
                refine satO_step 2 [] ⟨an 6 (.map lv i2 :: an 4 (.ptr lv i20 0 :: an 3 (.agg [.sl 3 (a0.map GTally.el) false, .sl 3 (a1.map GTally.el) false] :: .int .i64 x4 :: an 7 (.sl 3 (x5.map GTally.el) false :: .int .i64 (x5.length : Int) :: .int .i64 x15 :: .bool (decide (x15 < (x5.length : Int))) :: .ref x16.cs 0 :: .agg x16.cs :: .map lv i2 :: .agg x16.cs :: an 7 [])))), ⟨lv, L, E⟩, [], E⟩ [] (by simp -implicitDefEqProofs [GTally.cs, g0, g1]) claims_nil ?_
                have hA : AccG lv L (asl) ((i2, .map (x14.map fun p => (.str p.1, GTally.el p.2))) :: (i20, .cells x16.cs) :: osl) := hA.selT (pre := []) (tl := asl) (preo := [(i20, .cells x16.cs), (i2, .map (x14.map fun p => (.str p.1, GTally.el p.2)))]) (tlo := osl) (pre' := []) (preo' := [(i2, .map (x14.map fun p => (.str p.1, GTally.el p.2))), (i20, .cells x16.cs)]) [] (by simp) rfl [1, 0] (by simp) rfl
                obtain ⟨y21, q22, h⟩ := bnd_hi h
                refine satO_call (f := 18) (args := [.map lv i2, .agg x16.cs]) rfl (by simp [wantedV]) rfl (by simp -implicitDefEqProofs [GTally.cs]) (go_report_book_put_at_ok _ _ _ _ q22 lv L E _ _ _ hA) (fun r0 H0 hp => ?_) (fun v0 H0 hp => ?_)
                · obtain ⟨L, rfl, hA, ho⟩ := hp
                  replace ho := Out.ret.inj ho.symm
                  subst ho
                  change SatO _ _ _ ⟨an 6 (.map lv i2 :: an 4 (.ptr lv i20 0 :: an 3 (.agg [.sl 3 (a0.map GTally.el) false, .sl 3 (a1.map GTally.el) false] :: .int .i64 x4 :: an 7 (.sl 3 (x5.map GTally.el) false :: .int .i64 (x5.length : Int) :: .int .i64 x15 :: .bool (decide (x15 < (x5.length : Int))) :: .ref x16.cs 0 :: .agg x16.cs :: .map lv i2 :: .agg x16.cs :: .tup [] :: an 6 [])))), ⟨lv, L, E⟩, [], E⟩ _
                  refine satO_nil (by simp) ?_
                  repeat refine sat_seq ?_
                  refine satO_reg ?_
                  have g0 := hA.get (k := 0) rfl
                  have g1 := hA.get (k := 1) rfl
                  refine satO_step 2 [] ⟨an 6 (.map lv i2 :: an 4 (.ptr lv i20 0 :: an 3 (.agg [.sl 3 (a0.map GTally.el) false, .sl 3 (a1.map GTally.el) false] :: .int .i64 x4 :: an 7 (.sl 3 (x5.map GTally.el) false :: .int .i64 (x5.length : Int) :: .int .i64 (IntKind.i64.wrap (x15 + 1)) :: .bool (decide (x15 < (x5.length : Int))) :: .ref x16.cs 0 :: .agg x16.cs :: .map lv i2 :: .agg x16.cs :: .tup [] :: .int .i64 (IntKind.i64.wrap (x15 + 1)) :: an 5 [])))), ⟨lv, L, E⟩, [], E⟩ [] (by simp -implicitDefEqProofs [GTally.cs, g0, g1]) claims_nil ?_
                  refine satO_nil (by simp) ?_
                  have hA : AccG lv L (asl) ((i2, .map (y21.map fun p => (.str p.1, GTally.el p.2))) :: osl) := hA.selT (pre := []) (tl := asl) (preo := [(i2, .map (y21.map fun p => (.str p.1, GTally.el p.2))), (i20, .cells x16.cs)]) (tlo := osl) (pre' := []) (preo' := [(i2, .map (y21.map fun p => (.str p.1, GTally.el p.2)))]) [] (by simp) rfl [0] (by simp) rfl
                  refine ⟨n, ⟨an 6 (.map lv i2 :: an 8 (.agg [.sl 3 (a0.map GTally.el) false, .sl 3 (a1.map GTally.el) false] :: .int .i64 x4 :: an 7 (.sl 3 (x5.map GTally.el) false :: .int .i64 (x5.length : Int) :: .int .i64 (IntKind.i64.wrap (x15 + 1)) :: an 12 []))), ⟨lv, L, E⟩, [], E⟩, weak_tmps ?_, ⟨y21, (IntKind.i64.wrap (x15 + 1)), L, by omega, hA, h, rfl⟩, by omega⟩
                  (try simp only [an, List.map_cons, List.map_nil]); repeat (first | exact VLeL.nil | refine VLeL.cons (by first | exact VLe.refl _ | exact VLe.any _ | exact VLe.nil _ _ | exact VLe.full _ _ | (refine VLe.agg' ?_; repeat (first | exact VLeL.nil | refine VLeL.cons (by first | exact VLe.refl _ | exact VLe.any _ | exact VLe.nil _ _) ?_))) ?_)
                · obtain ⟨L, _, _, ho⟩ := hp
                  cases ho
              · have h := ite_f hb h
                repeat refine sat_seq ?_
                refine sat_exit ?_
                repeat refine sat_seq ?_
                refine satO_reg ?_
                have g0 := hA.get (k := 0) rfl
                refine satO_step 2 [] ⟨an 6 (.map lv i2 :: an 8 (.agg [.sl 3 (a0.map GTally.el) false, .sl 3 (a1.map GTally.el) false] :: .int .i64 (IntKind.i64.wrap (x4 + 1)) :: an 7 (.sl 3 (x5.map GTally.el) false :: .int .i64 (x5.length : Int) :: .int .i64 x15 :: .bool (decide (x15 < (x5.length : Int))) :: an 6 (.int .i64 (IntKind.i64.wrap (x4 + 1)) :: an 4 [])))), ⟨lv, L, E⟩, [], E⟩ [] (by simp -implicitDefEqProofs [GTally.cs, g0]) claims_nil ?_
                refine satO_nil (by simp) ?_
                refine ⟨n, ⟨an 6 (.map lv i2 :: an 8 (.agg [.sl 3 (a0.map GTally.el) false, .sl 3 (a1.map GTally.el) false] :: .int .i64 (IntKind.i64.wrap (x4 + 1)) :: an 22 [])), ⟨lv, L, E⟩, [], E⟩, weak_tmps ?_, ⟨x14, (IntKind.i64.wrap (x4 + 1)), L, by omega, hA, h, rfl⟩, by omega⟩
                (try simp only [an, List.map_cons, List.map_nil]); repeat (first | exact VLeL.nil | refine VLeL.cons (by first | exact VLe.refl _ | exact VLe.any _ | exact VLe.nil _ _ | exact VLe.full _ _ | (refine VLe.agg' ?_; repeat (first | exact VLeL.nil | refine VLeL.cons (by first | exact VLe.refl _ | exact VLe.any _ | exact VLe.nil _ _) ?_))) ?_)
      · have h := ite_f hb h
        repeat refine sat_seq ?_
        refine sat_exit ?_
        repeat refine sat_seq ?_
        refine satO_reg ?_
        have g0 := hA.get (k := 0) rfl
        refine satO_step 1 [] ⟨an 6 (.map lv i2 :: an 8 (.agg [.sl 3 (a0.map GTally.el) false, .sl 3 (a1.map GTally.el) false] :: .int .i64 x4 :: .bool (decide (x4 < 2)) :: an 17 (.map lv i2 :: an 3 []))), ⟨lv, L, E⟩, [], E⟩ [] (by simp -implicitDefEqProofs [GTally.cs, g0]) claims_nil ?_
        obtain ⟨y23, q24, h⟩ := bnd_hi h
        refine satO_call (f := 19) (args := [.map lv i2]) rfl (by simp [wantedV]) rfl (by simp -implicitDefEqProofs [GTally.cs]) (go_report_book_lines_at_ok _ _ _ q24 lv L E _ _ _ hA) (fun r0 H0 hp => ?_) (fun v0 H0 hp => ?_)
        · obtain ⟨L, v25, rfl, hA, ho⟩ := hp
          replace ho := Out.ret.inj ho.symm
          subst ho
          change SatO _ _ _ ⟨an 6 (.map lv i2 :: an 8 (.agg [.sl 3 (a0.map GTally.el) false, .sl 3 (a1.map GTally.el) false] :: .int .i64 x4 :: .bool (decide (x4 < 2)) :: an 17 (.map lv i2 :: .tup [v25, .int .i64 y23.2] :: an 2 []))), ⟨lv, L, E⟩, [], E⟩ _
          have g0 := hA.get (k := 0) rfl
          obtain ⟨w0a, w0b, w0c⟩ := hA.whole (j := 0) rfl
          refine satO_step 4 [] ⟨an 4 (v25 :: .int .i64 y23.2 :: .map lv i2 :: an 8 (.agg [.sl 3 (a0.map GTally.el) false, .sl 3 (a1.map GTally.el) false] :: .int .i64 x4 :: .bool (decide (x4 < 2)) :: an 17 (.map lv i2 :: .tup [v25, .int .i64 y23.2] :: v25 :: .int .i64 y23.2 :: []))), ⟨lv, L, E⟩, [], E⟩ [] (by simp -implicitDefEqProofs [GTally.cs, g0, w0a, w0b, w0c]) claims_nil ?_
          refine satO_nil (by simp) ?_
          repeat refine sat_seq ?_
          refine sat_ret ?_
          have g0 := hA.get (k := 0) rfl
          obtain ⟨w0a, w0b, w0c⟩ := hA.whole (j := 0) rfl
          have hA : AccG lv L (⟨30, 3, v25, y23.1.map GTally.el, true⟩ :: asl) (osl) := hA.selT (pre := [⟨30, 3, v25, y23.1.map GTally.el, true⟩]) (tl := asl) (preo := [(i2, .map (x3.map fun p => (.str p.1, GTally.el p.2)))]) (tlo := osl) (pre' := [⟨30, 3, v25, y23.1.map GTally.el, true⟩]) (preo' := []) [0] (by simp) rfl [] (by simp) rfl
          injection h with h
          subst h
          try dsimp only [AExit.then, AExit.inBlock]
          refine endsF (.tup [v25, .int .i64 y23.2]) (.tup [v25, .int .i64 y23.2]) (by simp [resultsV, resL, resV, tupOf, Try.f6, pLoad, g0, w0a, w0b, w0c, GTally.cs]) rfl ?_ ⟨L, v25, rfl, hA, rfl⟩
          exact VLe.refl _
        · obtain ⟨L, _, _, _, ho⟩ := hp
          cases ho
end Go.Proofs

namespace Go.Proofs
open Go Go.Ab
set_option maxRecDepth 10000
set_option maxHeartbeats 1000000
set_option linter.unusedSimpArgs false
set_option linter.unusedVariables false
theorem go_ref45_Same_at_ok (n : Nat) (a0 : List GTally) (a1 : List GTally) (r : Bool) (h : go_ref45_Same_at n a0 a1 = some r) : ∀ (lv : Nat) (L : List (Option AObj)) (E : Nat → Nat → Option AObj) (asl : List AccE) (osl : List (Nat × AObj)) (u0 : V), AccG lv L (⟨30, 3, u0, a0.map GTally.el, true⟩ :: asl) (osl) → HRel Try.prog 12 [u0, .sl 3 (a1.map GTally.el) false] ⟨lv, L, E⟩ (fun o H' => ∃ (L' : List (Option AObj)), H' = ⟨lv, L', E⟩ ∧ AccG lv L' (⟨30, 3, u0, a0.map GTally.el, true⟩ :: asl) (osl) ∧ o = .ret (.bool r)) := by
  rcases n with _ | n
  · simp [go_ref45_Same_at] at h
  rw [go_ref45_Same_at] at h
  intro lv L E asl osl u0 hA
  refine hrel_flat Try.func12 rfl Try.ntmps12 (fun _ _ => Try.call12 _ _) ?_
  simp only [List.length_cons, List.length_nil, Nat.reduceAdd, Nat.reduceSub, List.replicate, List.cons_append, List.nil_append]
  repeat refine sat_seq ?_
  refine satO_reg ?_
  refine satO_step 1 [] ⟨u0 :: .sl 3 (a1.map GTally.el) false :: an 2 (.bool false :: an 21 []), ⟨lv, L, E⟩, [], E⟩ [] (by simp -implicitDefEqProofs []) claims_nil ?_
  refine satO_nil (by simp) ?_
  repeat refine sat_seq ?_
  refine satO_reg ?_
  have g1 := hA.len (P := Try.prog) (j := 0) rfl Try.underlying22 E
  simp only [List.length_map] at g1
  refine satO_step 5 [] ⟨u0 :: .sl 3 (a1.map GTally.el) false :: an 2 (.bool false :: an 1 (u0 :: .int .i64 (a0.length : Int) :: .sl 3 (a1.map GTally.el) false :: .int .i64 (a1.length : Int) :: .bool (!((a0.length : Int) == (a1.length : Int))) :: an 15 [])), ⟨lv, L, E⟩, [], E⟩ [] (by simp -implicitDefEqProofs [g1]) claims_nil ?_
  refine satO_nil (by simp) ?_
  repeat refine sat_seq ?_
  refine sat_cond rfl (fun hb => ?_) (fun hb => ?_)
  · have h := ite_t hb h
    repeat refine sat_seq ?_
    refine satO_reg ?_
    refine satO_step 1 [] ⟨u0 :: .sl 3 (a1.map GTally.el) false :: an 2 (.bool false :: an 1 (u0 :: .int .i64 (a0.length : Int) :: .sl 3 (a1.map GTally.el) false :: .int .i64 (a1.length : Int) :: .bool (!((a0.length : Int) == (a1.length : Int))) :: an 15 [])), ⟨lv, L, E⟩, [], E⟩ [] (by simp -implicitDefEqProofs []) claims_nil ?_
    refine satO_nil (by simp) ?_
    repeat refine sat_seq ?_
    refine sat_ret ?_
    have hA : AccG lv L (⟨30, 3, u0, a0.map GTally.el, true⟩ :: asl) (osl) := hA.selT (pre := [⟨30, 3, u0, a0.map GTally.el, true⟩]) (tl := asl) (preo := []) (tlo := osl) (pre' := [⟨30, 3, u0, a0.map GTally.el, true⟩]) (preo' := []) [0] (by simp) rfl [] (by simp) rfl
    injection h with h
    subst h
    try dsimp only [AExit.then, AExit.inBlock]
    refine endsF (.bool false) (.bool false) (by simp [resultsV, resL, resV, tupOf, Try.f12, pLoad]) rfl ?_ ⟨L, rfl, hA, rfl⟩
    exact VLe.refl _
  · have h := ite_f hb h
    repeat refine sat_seq ?_
    refine sat_skip ?_
    repeat refine sat_seq ?_
    refine satO_reg ?_
    refine satO_step 1 [] ⟨u0 :: .sl 3 (a1.map GTally.el) false :: an 2 (.bool false :: .int .i64 0 :: u0 :: .int .i64 (a0.length : Int) :: .sl 3 (a1.map GTally.el) false :: .int .i64 (a1.length : Int) :: .bool (!((a0.length : Int) == (a1.length : Int))) :: an 15 []), ⟨lv, L, E⟩, [], E⟩ [] (by simp -implicitDefEqProofs []) claims_nil ?_
    refine satO_nil (by simp) ?_
    repeat refine sat_seq ?_
    refine sat_block ?_
    repeat refine sat_seq ?_
    refine sat_loop (fun k σ => ∃ (x2 : Int) (L : List (Option AObj)), k ≤ n ∧ AccG lv L (⟨30, 3, u0, a0.map GTally.el, true⟩ :: asl) (osl) ∧ go_ref45_Same_at_L1 k a0 a1 x2 = some r ∧ σ = ⟨u0 :: .sl 3 (a1.map GTally.el) false :: an 3 (.int .i64 x2 :: an 20 []), ⟨lv, L, E⟩, [], E⟩) n ⟨u0 :: .sl 3 (a1.map GTally.el) false :: an 3 (.int .i64 0 :: an 20 []), ⟨lv, L, E⟩, [], E⟩ (weak_tmps ?_) ⟨0, L, Nat.le_refl _, hA, h, rfl⟩ ?_
    · (try simp only [an, List.map_cons, List.map_nil]); repeat (first | exact VLeL.nil | refine VLeL.cons (by first | exact VLe.refl _ | exact VLe.any _ | exact VLe.nil _ _ | exact VLe.full _ _ | (refine VLe.agg' ?_; repeat (first | exact VLeL.nil | refine VLeL.cons (by first | exact VLe.refl _ | exact VLe.any _ | exact VLe.nil _ _) ?_))) ?_)
    · rintro k σ ⟨x2, L, hk, hA, h, rfl⟩
      rcases k with _ | n
      · simp [go_ref45_Same_at_L1] at h
      · rw [go_ref45_Same_at_L1] at h
        repeat refine sat_seq ?_
        refine satO_reg ?_
        have g3 := hA.len (P := Try.prog) (j := 0) rfl Try.underlying22 E
        simp only [List.length_map] at g3
        refine satO_step 4 [] ⟨u0 :: .sl 3 (a1.map GTally.el) false :: an 3 (.int .i64 x2 :: an 5 (.int .i64 x2 :: u0 :: .int .i64 (a0.length : Int) :: .bool (decide (x2 < (a0.length : Int))) :: an 11 [])), ⟨lv, L, E⟩, [], E⟩ [] (by simp -implicitDefEqProofs [g3]) claims_nil ?_
        refine satO_nil (by simp) ?_
        repeat refine sat_seq ?_
        refine sat_cond rfl (fun hb => ?_) (fun hb => ?_)
        · have h := ite_t hb h
          repeat refine sat_seq ?_
          refine sat_skip ?_
          repeat refine sat_seq ?_
          refine sat_block ?_
          repeat refine sat_seq ?_
          obtain ⟨x4, q5, h⟩ := bnd_hi h
          obtain ⟨q5, q6⟩ := ix_some q5
          obtain ⟨p7, q8, q9, q10, q11⟩ := hA.put (P := Try.prog) (j := 0) rfl Try.underlying22 (by simp) (by simp) q5 (x := GTally.el x4) (by rw [List.getElem?_map, q6]; rfl) E
          obtain ⟨x12, q13, h⟩ := bnd_hi h
          obtain ⟨q13, q14⟩ := ix_some q13
          refine satO_drw (by kernel_rfl) (by kernel_rfl) [] ⟨u0 :: .sl 3 (a1.map GTally.el) false :: an 3 (.int .i64 x2 :: an 5 (.int .i64 x2 :: u0 :: .int .i64 (a0.length : Int) :: .bool (decide (x2 < (a0.length : Int))) :: an 2 (u0 :: .int .i64 x2 :: p7 0 :: .agg x4.cs :: .sl 3 (a1.map GTally.el) false :: .int .i64 x2 :: .ref x12.cs 0 :: .agg x12.cs :: .bool (!((x4.name == x12.name) && ((x4.count == x12.count) && (x4.volume == x12.volume)))) :: []))), ⟨lv, L, E⟩, [], E⟩ [] (by simp -implicitDefEqProofs [GTally.cs, q8, q9, q10, GTally.el_cs, q13, q14, GTally.el_cs]) claims_nil ?_
          repeat refine sat_seq ?_
          refine sat_cond rfl (fun hb => ?_) (fun hb => ?_)
          · have h := ite_t hb h
            repeat refine sat_seq ?_
            refine satO_reg ?_
            refine satO_step 1 [] ⟨u0 :: .sl 3 (a1.map GTally.el) false :: an 2 (.bool false :: .int .i64 x2 :: an 5 (.int .i64 x2 :: u0 :: .int .i64 (a0.length : Int) :: .bool (decide (x2 < (a0.length : Int))) :: an 2 (u0 :: .int .i64 x2 :: p7 0 :: .agg x4.cs :: .sl 3 (a1.map GTally.el) false :: .int .i64 x2 :: .ref x12.cs 0 :: .agg x12.cs :: .bool (!((x4.name == x12.name) && ((x4.count == x12.count) && (x4.volume == x12.volume)))) :: []))), ⟨lv, L, E⟩, [], E⟩ [] (by simp -implicitDefEqProofs [GTally.cs]) claims_nil ?_
            refine satO_nil (by simp) ?_
            repeat refine sat_seq ?_
            refine sat_ret ?_
            have hA : AccG lv L (⟨30, 3, u0, a0.map GTally.el, true⟩ :: asl) (osl) := hA.selT (pre := [⟨30, 3, u0, a0.map GTally.el, true⟩]) (tl := asl) (preo := []) (tlo := osl) (pre' := [⟨30, 3, u0, a0.map GTally.el, true⟩]) (preo' := []) [0] (by simp) rfl [] (by simp) rfl
            injection h with h
            subst h
            try dsimp only [AExit.then, AExit.inBlock]
            refine endsF (.bool false) (.bool false) (by simp [resultsV, resL, resV, tupOf, Try.f12, pLoad, GTally.cs]) rfl ?_ ⟨L, rfl, hA, rfl⟩
            exact VLe.refl _
          · have h := ite_f hb h
            repeat refine sat_seq ?_
            refine sat_skip ?_
            repeat refine sat_seq ?_
            refine satO_reg ?_
            refine satO_step 3 [] ⟨u0 :: .sl 3 (a1.map GTally.el) false :: an 3 (.int .i64 (IntKind.i64.wrap (x2 + 1)) :: an 5 (.int .i64 x2 :: u0 :: .int .i64 (a0.length : Int) :: .bool (decide (x2 < (a0.length : Int))) :: .int .i64 x2 :: .int .i64 (IntKind.i64.wrap (x2 + 1)) :: u0 :: .int .i64 x2 :: p7 0 :: .agg x4.cs :: .sl 3 (a1.map GTally.el) false :: .int .i64 x2 :: .ref x12.cs 0 :: .agg x12.cs :: .bool (!((x4.name == x12.name) && ((x4.count == x12.count) && (x4.volume == x12.volume)))) :: [])), ⟨lv, L, E⟩, [], E⟩ [] (by simp -implicitDefEqProofs [GTally.cs]) claims_nil ?_
            refine satO_nil (by simp) ?_
            refine ⟨n, ⟨u0 :: .sl 3 (a1.map GTally.el) false :: an 3 (.int .i64 (IntKind.i64.wrap (x2 + 1)) :: an 20 []), ⟨lv, L, E⟩, [], E⟩, weak_tmps ?_, ⟨(IntKind.i64.wrap (x2 + 1)), L, by omega, hA, h, rfl⟩, by omega⟩
            (try simp only [an, List.map_cons, List.map_nil]); repeat (first | exact VLeL.nil | refine VLeL.cons (by first | exact VLe.refl _ | exact VLe.any _ | exact VLe.nil _ _ | exact VLe.full _ _ | (refine VLe.agg' ?_; repeat (first | exact VLeL.nil | refine VLeL.cons (by first | exact VLe.refl _ | exact VLe.any _ | exact VLe.nil _ _) ?_))) ?_)
        · have h := ite_f hb h
          repeat refine sat_seq ?_
          refine sat_exit ?_
          repeat refine sat_seq ?_
          refine satO_reg ?_
          refine satO_step 1 [] ⟨u0 :: .sl 3 (a1.map GTally.el) false :: an 2 (.bool true :: .int .i64 x2 :: an 5 (.int .i64 x2 :: u0 :: .int .i64 (a0.length : Int) :: .bool (decide (x2 < (a0.length : Int))) :: an 11 [])), ⟨lv, L, E⟩, [], E⟩ [] (by simp -implicitDefEqProofs [GTally.cs]) claims_nil ?_
          refine satO_nil (by simp) ?_
          repeat refine sat_seq ?_
          refine sat_ret ?_
          have hA : AccG lv L (⟨30, 3, u0, a0.map GTally.el, true⟩ :: asl) (osl) := hA.selT (pre := [⟨30, 3, u0, a0.map GTally.el, true⟩]) (tl := asl) (preo := []) (tlo := osl) (pre' := [⟨30, 3, u0, a0.map GTally.el, true⟩]) (preo' := []) [0] (by simp) rfl [] (by simp) rfl
          injection h with h
          subst h
          try dsimp only [AExit.then, AExit.inBlock]
          refine endsF (.bool true) (.bool true) (by simp [resultsV, resL, resV, tupOf, Try.f12, pLoad, GTally.cs]) rfl ?_ ⟨L, rfl, hA, rfl⟩
          exact VLe.refl _
end Go.Proofs
