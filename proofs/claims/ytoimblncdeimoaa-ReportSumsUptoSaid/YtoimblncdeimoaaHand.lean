/-
  (report.book).lines: A LOOP OVER A MAP, by hand.
-/
import Derived.Test.YtoimblncdeimoaaHandT
import Derived.Test.YtoimblncdeimoaaFns
import Derived.Test.YtoimblncdeimoaaAbRange
import Derived.Test.YtoimblncdeimoaaAbSimp
import Derived.Maps.RangeRun
namespace Go.Proofs
open Go Go.Ab
set_option maxRecDepth 10000
set_option maxHeartbeats 1000000
set_option linter.unusedSimpArgs false
set_option linter.unusedVariables false

theorem accG_drop {lv : Nat} {L : List (Option AObj)} {a : AccE} {al : List AccE} {ol : List (Nat × AObj)} (h : AccG lv L (a :: al) ol) : AccG lv L al ol := by
  refine ⟨?_, h.nodup⟩
  obtain ⟨ks, h1, h2, h3, h4⟩ := h.accs
  cases ks with
  | nil => simp at h1
  | cons k ks =>
    refine ⟨ks, by simpa using h1, fun j k' a' hk ha => h2 (j + 1) k' a' (by simpa using hk) (by simpa using ha), fun i j n hi hj => ?_, fun p hp => ⟨(h4 p hp).1, fun j hj => (h4 p hp).2 (j + 1) (by simpa using hj)⟩⟩
    have := h3 (i + 1) (j + 1) n (by simpa using hi) (by simpa using hj)
    omega
theorem accG_dropO {lv : Nat} {L : List (Option AObj)} {al : List AccE} {o : Nat × AObj} {ol : List (Nat × AObj)} (h : AccG lv L al (o :: ol)) : AccG lv L al ol :=
  ⟨h.accs.sub fun p hp => List.mem_cons_of_mem _ hp, (List.nodup_cons.1 (by simpa using h.nodup)).2⟩
theorem accG_other {lv : Nat} {L L' : List (Option AObj)} {al : List AccE} {ol : List (Nat × AObj)} (h : AccG lv L al ol) (hL : ∀ j o, L[j]? = some (some o) → (∃ k, (some j) = k ∧ ((∃ p ∈ ol, p.1 = j) ∨ True)) → L'[j]? = some (some o)) : AccG lv L' al ol := by
  refine ⟨?_, h.nodup⟩
  obtain ⟨ks, h1, h2, h3, h4⟩ := h.accs
  refine ⟨ks, h1, fun j k a hk ha => ?_, h3, fun p hp => ⟨hL _ _ (h4 p hp).1 ⟨_, rfl, .inr trivial⟩, (h4 p hp).2⟩⟩
  have := h2 j k a hk ha
  cases k with
  | none => exact this
  | some n => obtain ⟨ver, cp, e1, e2⟩ := this; exact ⟨ver, cp, e1, hL _ _ e2 ⟨_, rfl, .inr trivial⟩⟩
/-- an object is not told of any more -/
theorem accG_hide {lv : Nat} {L : List (Option AObj)} {al : List AccE} {i : Nat} {o : AObj} {ol : List (Nat × AObj)} (h : AccG lv L al ((i, o) :: ol)) : AccG lv (L.set i none ++ [none]) al ol := by
  have hn := h.nodup
  rw [List.map_cons, List.nodup_cons] at hn
  have hi := h.get (k := 0) rfl
  have hil := (List.getElem?_eq_some_iff.1 hi).1
  obtain ⟨ks, h1, h2, h3, h4⟩ := h.accs
  have keep : ∀ n q, n ≠ i → L[n]? = some (some q) → (L.set i none ++ [none])[n]? = some (some q) := fun n q hne hq => by
    have := (List.getElem?_eq_some_iff.1 hq).1
    rw [List.getElem?_append_left (by simpa using this), List.getElem?_set, if_neg (fun e => hne e.symm)]; exact hq
  refine ⟨⟨ks, h1, fun j k a hk ha => ?_, h3, fun p hp => ⟨keep _ _ (fun e => hn.1 (List.mem_map.2 ⟨p, hp, e⟩)) (h4 p (List.mem_cons_of_mem _ hp)).1, (h4 p (List.mem_cons_of_mem _ hp)).2⟩⟩, hn.2⟩
  have := h2 j k a hk ha
  cases k with
  | none => exact this
  | some n =>
    obtain ⟨ver, cp, e1, e2⟩ := this
    refine ⟨ver, cp, e1, keep _ _ (fun e => ?_) e2⟩
    subst e
    exact (h4 (n, o) (by simp)).2 j hk
/-- .. and is told of again -/
theorem accG_show {lv : Nat} {L : List (Option AObj)} {al : List AccE} {i : Nat} {ol : List (Nat × AObj)} (h : AccG lv L al ol) (hi : L[i]? = some none) (o : AObj) : AccG lv (L.set i (some o)) al ((i, o) :: ol) := by
  have hil := (List.getElem?_eq_some_iff.1 hi).1
  obtain ⟨ks, h1, h2, h3, h4⟩ := h.accs
  have keep : ∀ n q, L[n]? = some (some q) → n ≠ i ∧ (L.set i (some o))[n]? = some (some q) := fun n q hq => by
    have hne : n ≠ i := fun e => by subst e; rw [hi] at hq; simp at hq
    exact ⟨hne, by rw [List.getElem?_set, if_neg (fun e => hne e.symm)]; exact hq⟩
  refine ⟨⟨ks, h1, fun j k a hk ha => ?_, h3, fun p hp => ?_⟩, ?_⟩
  · have := h2 j k a hk ha
    cases k with
    | none => exact this
    | some n => obtain ⟨ver, cp, e1, e2⟩ := this; exact ⟨ver, cp, e1, (keep _ _ e2).2⟩
  · rcases List.mem_cons.1 hp with rfl | hp
    · refine ⟨by simp [hil], fun j hj => ?_⟩
      have hl := (List.getElem?_eq_some_iff.1 hj).1
      obtain ⟨ver, cp, e1, e2⟩ := h2 j _ _ hj (List.getElem?_eq_getElem (by omega))
      exact (keep _ _ e2).1 rfl
    · exact ⟨(keep _ _ (h4 p hp).1).2, (h4 p hp).2⟩
  · rw [List.map_cons, List.nodup_cons]
    refine ⟨fun hm => ?_, h.nodup⟩
    obtain ⟨p, hp, he⟩ := List.mem_map.1 hm
    exact (keep _ _ (h4 p hp).1).1 he
theorem range_filterMap : ∀ c0 : List (List UInt8 × GTally), (List.range c0.length).filterMap (fun j => c0[j]?.map (·.2)) = c0.map (·.2)
  | [] => rfl
  | c :: t => by
    rw [List.length_cons, List.range_succ_eq_map, List.filterMap_cons]
    simp only [List.getElem?_cons_zero, Option.map_some, List.map_cons]
    congr 1
    rw [List.filterMap_map]
    exact range_filterMap t
theorem rel_el {x : GTally} {W W' : World} {g g' : Gh} {H H' : Heap} {c : Value} (h : Rel W g H x.el c) : Rel W' g' H' x.el c := by
  rw [GTally.el_eq] at h ⊢
  cases h with
  | agg _ cs hn h1 hr =>
    refine .agg _ cs hn h1 fun j v hj => ?_
    have hq := hr j v hj
    generalize cs.getD j undef = z at hq ⊢
    match j, hj with
    | 0, hj => simp at hj; subst hj; cases hq; exact .str _
    | 1, hj => simp at hj; subst hj; cases hq; exact .int _ _
    | 2, hj => simp at hj; subst hj; cases hq; exact .int _ _
    | j + 3, hj => simp at hj
theorem appendTo_none {H H' : Heap} {ty sz : Nat} {v v' : V} {ys : List V} (h : appendTo H ty sz v ys = some (v', H')) (hlv : ∀ l i ver n f, v = .hs l i ver 0 n f → l = H.lv) {i : Nat} (hi : H.L[i]? = some none) : H'.L[i]? = some none := by
  have hil := (List.getElem?_eq_some_iff.1 hi).1
  have hpush : ∀ o, (H.push o).L[i]? = some none := fun o => by
    show (H.L ++ [some o])[i]? = _
    rw [List.getElem?_append_left hil]; exact hi
  unfold appendTo at h
  split at h
  · split at h
    · injection h with h; injection h with _ h; rw [← h]; exact hi
    · split at h
      · injection h with h; injection h with _ h; rw [← h]; exact hpush _
      · cases h
  · split at h
    · split at h
      · injection h with h; injection h with _ h; rw [← h]; exact hi
      · split at h
        · injection h with h; injection h with _ h; rw [← h]; exact hpush _
        · cases h
    · cases h
  · rename_i l i' ver n
    have hl := hlv l i' ver n false rfl
    split at h
    · rename_i hg
      split at h
      · injection h with h; injection h with _ h; rw [← h]
        unfold Heap.get at hg
        rw [if_pos hl] at hg
        unfold Heap.set
        rw [if_pos hl]
        show (H.L.set i' _)[i]? = _
        rw [List.getElem?_set]
        split
        · rename_i e; subst e; rw [hi] at hg; simp at hg
        · exact hi
      · cases h
    · cases h
  · cases h

theorem go_report_book_lines_at_ok (n : Nat) (c0 : List (List UInt8 × GTally)) (r : List GTally × Int) (h : go_report_book_lines_at n c0 = some r) : ∀ (lv : Nat) (L : List (Option AObj)) (E : Nat → Nat → Option AObj) (asl : List AccE) (osl : List (Nat × AObj)) (i00 : Nat), AccG lv L asl ((i00, .map (c0.map fun p => (.str p.1, GTally.el p.2))) :: osl) →
    HRel Try.prog 19 [.map lv i00] ⟨lv, L, E⟩ (fun o H' => ∃ (L' : List (Option AObj)) (s0_0 : V), H' = ⟨lv, L', E⟩ ∧ AccG lv L' (⟨30, 3, s0_0, r.1.map GTally.el, true⟩ :: asl) ((i00, .map (c0.map fun p => (.str p.1, GTally.el p.2))) :: osl) ∧ o = .ret (.tup [s0_0, .int .i64 r.2])) := by
  rw [go_report_book_lines_at, bookLines] at h
  intro lv L E asl osl i00 hA
  refine hrel_flat Try.func19 rfl Try.ntmps19 (fun _ _ => Try.call19 _ _) ?_
  simp only [List.length_cons, List.length_nil, Nat.reduceAdd, Nat.reduceSub, List.replicate, List.cons_append, List.nil_append]
  repeat refine sat_seq ?_
  refine satO_reg ?_
  refine satO_step 2 [] ⟨.map lv i00 :: an 1 (.nils :: .int .i64 0 :: an 27 []), ⟨lv, L, E⟩, [], E⟩ [] (by simp -implicitDefEqProofs []) claims_nil ?_
  refine satO_nil (by simp) ?_
  repeat refine sat_seq ?_
  refine satO_reg ?_
  have g0 := hA.get (k := 0) rfl
  refine satO_step 3 [] ⟨.map lv i00 :: an 1 (.nils :: .int .i64 0 :: an 3 (.map lv i00 :: .int .i64 (c0.length : Int) :: .bool (decide (200 < (c0.length : Int))) :: an 21 [])), ⟨lv, L, E⟩, [], E⟩ [] (by simp -implicitDefEqProofs [g0, Heap.get]) claims_nil ?_
  refine satO_nil (by simp) ?_
  repeat refine sat_seq ?_
  refine sat_cond rfl (fun hb => ?_) (fun hb => ?_)
  · have hl : 200 < c0.length := by simp at hb; omega
    rw [if_pos hl] at h
    injection h with h
    subst h
    repeat refine sat_seq ?_
    refine satO_reg ?_
    refine satO_step 2 [] ⟨.map lv i00 :: an 1 (.nils :: .int .i64 4 :: an 3 (.map lv i00 :: .int .i64 (c0.length : Int) :: .bool (decide (200 < (c0.length : Int))) :: an 21 [])), ⟨lv, L, E⟩, [], E⟩ [] (by simp -implicitDefEqProofs []) claims_nil ?_
    refine satO_nil (by simp) ?_
    repeat refine sat_seq ?_
    refine sat_ret ?_
    have hA := hA.cons 30 3 true
    try dsimp only [AExit.then, AExit.inBlock]
    refine endsF (.tup [.nils, .int .i64 4]) (.tup [.nils, .int .i64 4]) (by simp [resultsV, resL, resV, tupOf, Try.f19, pLoad]) rfl ?_ ⟨L, .nils, rfl, hA, rfl⟩
    exact VLe.refl _
  · have hl : ¬ 200 < c0.length := by simp at hb; omega
    rw [if_neg hl] at h
    repeat refine sat_seq ?_
    refine sat_skip ?_
    repeat refine sat_seq ?_
    refine satO_reg ?_
    refine satO_step 1 [] ⟨.map lv i00 :: an 1 (.nils :: .int .i64 0 :: .nils :: an 2 (.map lv i00 :: .int .i64 (c0.length : Int) :: .bool (decide (200 < (c0.length : Int))) :: an 21 [])), ⟨lv, L, E⟩, [], E⟩ [] (by simp -implicitDefEqProofs []) claims_nil ?_
    refine satO_nil (by simp) ?_
    refine sat_seq ?_
    have hA1 := hA.cons 30 3 true
    refine sat_mapRange (k := 1) (es := c0.map fun p => (.str p.1, GTally.el p.2)) (lv := lv) (i := i00) (σ := ⟨.map lv i00 :: an 1 (.nils :: .int .i64 0 :: .nils :: an 2 (.map lv i00 :: .int .i64 (c0.length : Int) :: .bool (decide (200 < (c0.length : Int))) :: .map lv i00 :: an 20 [])), ⟨lv, L, E⟩, [], E⟩) (by simp -implicitDefEqProofs [runC]) rfl rfl rfl rfl rfl rfl rfl rfl rfl rfl rfl rfl rfl rfl rfl rfl Try.underlying52 rfl rfl g0 rfl (fun p hp W g H H' W' g' c => ?_) (by simp) (by simp) (by simp) (by decide) (by decide) (by decide)
      (fun vis τ => ∃ (v : V) (vals : List GTally) (L' : List (Option AObj)), AccG lv L' (⟨30, 3, v, vals.map GTally.el, true⟩ :: asl) osl ∧ L'[i00]? = some none ∧ vals = vis.filterMap (fun j => c0[j]?.map (·.2)) ∧ (∀ x ∈ vals, bigT x = false) ∧ τ = ⟨.map lv i00 :: an 1 (.nils :: .int .i64 0 :: v :: an 2 (.map lv i00 :: .int .i64 (c0.length : Int) :: .bool (decide (200 < (c0.length : Int))) :: .map lv i00 :: .ptr lv L.length 0 :: an 19 [])), ⟨lv, L', E⟩, [], E⟩)
      (fun vis τ ⟨v, vals, L', _, e2, _, _, e5⟩ => by subst e5; exact ⟨rfl, e2, rfl, rfl, rfl, rfl⟩) ⟨.nils, [], L.set i00 none ++ [none], accG_hide hA1, ?_, rfl, by simp, rfl⟩ ?_ ?_
    · obtain ⟨c, hc, rfl⟩ := List.mem_map.1 hp
      exact ⟨fun h => by cases h; exact .str _, fun h => rel_el h⟩
    · have hil := (List.getElem?_eq_some_iff.1 g0).1
      rw [List.getElem?_append_left (by simpa using hil), List.getElem?_set]
      simp [hil]
    · rintro vis τ j p ⟨v, vals, L', hA', hL', hvals, hbig, rfl⟩ hp hj hnd hlt
      obtain ⟨c, hc, rfl⟩ : ∃ c, c0[j]? = some c ∧ (V.str c.1, c.2.el) = p := by simpa [List.getElem?_map, Option.map_eq_some_iff] using hp
      have hcm : c ∈ c0 := List.mem_of_getElem? hc
      have hlv' : vals.length ≤ 200 := by
        rw [hvals]
        refine Nat.le_trans (List.length_filterMap_le _ _) ?_
        have := nodup_lt c0.length vis hnd fun q hq => by have := hlt q hq; simpa using this
        omega
      show SatO Try.prog _ 1 ⟨.map lv i00 :: an 1 (.nils :: .int .i64 0 :: v :: an 2 (.map lv i00 :: .int .i64 (c0.length : Int) :: .bool (decide (200 < (c0.length : Int))) :: .map lv i00 :: .ptr lv L.length 0 :: .tup [.bool true, .str c.1, c.2.el] :: .bool true :: .tup [.str c.1, c.2.el] :: an 16 [])), ⟨lv, L', E⟩, [], E⟩ _
      refine satO_step 1 [] ⟨.map lv i00 :: an 1 (.nils :: .int .i64 0 :: v :: an 2 (.map lv i00 :: .int .i64 (c0.length : Int) :: .bool (decide (200 < (c0.length : Int))) :: .map lv i00 :: .ptr lv L.length 0 :: .tup [.bool true, .str c.1, c.2.el] :: .bool true :: .tup [.str c.1, c.2.el] :: .agg c.2.cs :: an 15 [])), ⟨lv, L', E⟩, [], E⟩ [] (by simp -implicitDefEqProofs [GTally.el_cs]) claims_nil ?_
      refine satO_step 1 [] ⟨.map lv i00 :: an 1 (.nils :: .int .i64 0 :: v :: an 1 (.ptr lv L'.length 0 :: .map lv i00 :: .int .i64 (c0.length : Int) :: .bool (decide (200 < (c0.length : Int))) :: .map lv i00 :: .ptr lv L.length 0 :: .tup [.bool true, .str c.1, c.2.el] :: .bool true :: .tup [.str c.1, c.2.el] :: .agg c.2.cs :: an 15 [])), ⟨lv, L' ++ [some (.cells [.str ([]), .int .i64 0, .int .i64 0])], E⟩, [], E⟩ [] (by simp -implicitDefEqProofs [GTally.cs]) claims_nil ?_
      have hA2 := hA'.obj (.cells [.str ([]), .int .i64 0, .int .i64 0])
      have hL2 : (L' ++ [some (AObj.cells [.str ([]), .int .i64 0, .int .i64 0])])[i00]? = some none := by rw [List.getElem?_append_left (List.getElem?_eq_some_iff.1 hL').1]; exact hL'
      generalize L'.length = i6 at hA2 ⊢
      generalize (L' ++ [some (AObj.cells [.str ([]), .int .i64 0, .int .i64 0])]) = L2 at hA2 hL2 ⊢
      have g1 := hA2.get (k := 0) rfl
      refine satO_step 1 [] ⟨.map lv i00 :: an 1 (.nils :: .int .i64 0 :: v :: an 1 (.ptr lv i6 0 :: .map lv i00 :: .int .i64 (c0.length : Int) :: .bool (decide (200 < (c0.length : Int))) :: .map lv i00 :: .ptr lv L.length 0 :: .tup [.bool true, .str c.1, c.2.el] :: .bool true :: .tup [.str c.1, c.2.el] :: .agg c.2.cs :: an 15 [])), ⟨lv, L2.set i6 (some (.cells c.2.cs)), E⟩, [], E⟩ [] (by simp -implicitDefEqProofs [GTally.cs, g1]) claims_nil ?_
      have hA3 : AccG lv (L2.set i6 (some (.cells c.2.cs))) (⟨30, 3, v, vals.map GTally.el, true⟩ :: asl) ((i6, .cells c.2.cs) :: osl) := hA2.upd (k := 0) rfl _
      have hL3 : (L2.set i6 (some (.cells c.2.cs)))[i00]? = some none := by
        rw [List.getElem?_set]
        split
        · rename_i e; subst e; rw [hL2] at g1; simp at g1
        · exact hL2
      generalize (L2.set i6 (some (.cells c.2.cs))) = L3 at hA3 hL3 ⊢
      refine satO_nil (by simp) ?_
      repeat refine sat_seq ?_
      refine satO_reg ?_
      have g2 := hA3.get (k := 0) rfl
      have hret : bigT c.2 = true → ∀ (t : List V), (∃ hh : t[2]? = some .nils ∧ t[3]? = some (.int .i64 16), True) → EndsF Try.prog Try.f19 (fun o H' => ∃ (L' : List (Option AObj)) (s0_0 : V), H' = ⟨lv, L', E⟩ ∧ AccG lv L' (⟨30, 3, s0_0, r.1.map GTally.el, true⟩ :: asl) ((i00, .map (c0.map fun p => (.str p.1, GTally.el p.2))) :: osl) ∧ o = .ret (.tup [s0_0, .int .i64 r.2])) .ret (St.showM ⟨t, ⟨lv, L3, E⟩, [], E⟩ i00 (c0.map fun p => (.str p.1, GTally.el p.2))) := fun hbg t ht => by
        have hany : (c0.any fun p => bigT p.2) = true := List.any_eq_true.2 ⟨c, hcm, hbg⟩
        rw [if_pos hany] at h
        injection h with h
        subst h
        obtain ⟨⟨t2, t3⟩, _⟩ := ht
        refine endsF (.tup [.nils, .int .i64 16]) (.tup [.nils, .int .i64 16]) ?_ rfl (VLe.refl _) ⟨_, .nils, rfl, ((accG_show (accG_drop (accG_dropO hA3)) hL3 _).cons 30 3 true), rfl⟩
        simp [resultsV, resL, resV, tupOf, Try.f19, pLoad, St.showM, List.getD, t2, t3]
      rcases Bool.eq_false_or_eq_true (decide (1000000000 < c.2.count)) with hg | hg
      · have hgn := hg
        simp at hgn
        refine satO_step 8 [] ⟨.map lv i00 :: an 1 (.nils :: .int .i64 0 :: v :: an 1 (.ptr lv i6 0 :: .map lv i00 :: .int .i64 (c0.length : Int) :: .bool (decide (200 < (c0.length : Int))) :: .map lv i00 :: .ptr lv L.length 0 :: .tup [.bool true, .str c.1, c.2.el] :: .bool true :: .tup [.str c.1, c.2.el] :: .agg c.2.cs :: .ptr lv i6 1 :: .int .i64 c.2.count :: .bool (decide (1000000000 < c.2.count)) :: .bool (decide (1000000000 < c.2.count)) :: .tup [] :: .tup [] :: .tup [] :: .bool true :: an 7 [])), ⟨lv, L3, E⟩, [], E⟩ [] (by first | (simp -implicitDefEqProofs [GTally.cs, g2, hg]; done) | simp -implicitDefEqProofs [GTally.cs, g2, hg, hgn]) claims_nil ?_
        refine satO_nil (by simp) ?_
        repeat refine sat_seq ?_
        refine sat_cond rfl (fun hb => ?_) (fun hb => by cases hb)
        have hbg : bigT c.2 = true := by unfold bigT; rw [hg]; rfl
        repeat refine sat_seq ?_
        refine satO_reg ?_
        refine satO_step 2 [] ⟨.map lv i00 :: an 1 (.nils :: .int .i64 16 :: v :: an 1 (.ptr lv i6 0 :: .map lv i00 :: .int .i64 (c0.length : Int) :: .bool (decide (200 < (c0.length : Int))) :: .map lv i00 :: .ptr lv L.length 0 :: .tup [.bool true, .str c.1, c.2.el] :: .bool true :: .tup [.str c.1, c.2.el] :: .agg c.2.cs :: .ptr lv i6 1 :: .int .i64 c.2.count :: .bool (decide (1000000000 < c.2.count)) :: .bool (decide (1000000000 < c.2.count)) :: .tup [] :: .tup [] :: .tup [] :: .bool true :: an 7 [])), ⟨lv, L3, E⟩, [], E⟩ [] (by simp -implicitDefEqProofs []) claims_nil ?_
        refine satO_nil (by simp) ?_
        repeat refine sat_seq ?_
        refine sat_ret ?_
        dsimp only [AExit.then, AExit.inBlock]
        exact ⟨rfl, hL3, rfl, hret hbg _ ⟨⟨rfl, rfl⟩, trivial⟩⟩
      · have hgn := hg
        simp at hgn
        refine satO_step 8 [] ⟨.map lv i00 :: an 1 (.nils :: .int .i64 0 :: v :: an 1 (.ptr lv i6 0 :: .map lv i00 :: .int .i64 (c0.length : Int) :: .bool (decide (200 < (c0.length : Int))) :: .map lv i00 :: .ptr lv L.length 0 :: .tup [.bool true, .str c.1, c.2.el] :: .bool true :: .tup [.str c.1, c.2.el] :: .agg c.2.cs :: .ptr lv i6 1 :: .int .i64 c.2.count :: .bool (decide (1000000000 < c.2.count)) :: .bool (decide (1000000000 < c.2.count)) :: .ptr lv i6 2 :: .int .i64 c.2.volume :: .bool (decide (1000000000000000000 < c.2.volume)) :: .bool (decide (1000000000000000000 < c.2.volume)) :: an 7 [])), ⟨lv, L3, E⟩, [], E⟩ [] (by first | (simp -implicitDefEqProofs [GTally.cs, g2, hg]; done) | simp -implicitDefEqProofs [GTally.cs, g2, hg, hgn]) claims_nil ?_
        refine satO_nil (by simp) ?_
        repeat refine sat_seq ?_
        refine sat_cond rfl (fun hb => ?_) (fun hb => ?_)
        · have hbg : bigT c.2 = true := by unfold bigT; rw [hg, hb]; rfl
          repeat refine sat_seq ?_
          refine satO_reg ?_
          refine satO_step 2 [] ⟨.map lv i00 :: an 1 (.nils :: .int .i64 16 :: v :: an 1 (.ptr lv i6 0 :: .map lv i00 :: .int .i64 (c0.length : Int) :: .bool (decide (200 < (c0.length : Int))) :: .map lv i00 :: .ptr lv L.length 0 :: .tup [.bool true, .str c.1, c.2.el] :: .bool true :: .tup [.str c.1, c.2.el] :: .agg c.2.cs :: .ptr lv i6 1 :: .int .i64 c.2.count :: .bool (decide (1000000000 < c.2.count)) :: .bool (decide (1000000000 < c.2.count)) :: .ptr lv i6 2 :: .int .i64 c.2.volume :: .bool (decide (1000000000000000000 < c.2.volume)) :: .bool (decide (1000000000000000000 < c.2.volume)) :: an 7 [])), ⟨lv, L3, E⟩, [], E⟩ [] (by simp -implicitDefEqProofs []) claims_nil ?_
          refine satO_nil (by simp) ?_
          repeat refine sat_seq ?_
          refine sat_ret ?_
          dsimp only [AExit.then, AExit.inBlock]
          exact ⟨rfl, hL3, rfl, hret hbg _ ⟨⟨rfl, rfl⟩, trivial⟩⟩
        · have hbg : bigT c.2 = false := by unfold bigT; rw [hg, hb]; rfl
          repeat refine sat_seq ?_
          refine sat_skip ?_
          repeat refine sat_seq ?_
          refine satO_reg ?_
          obtain ⟨w0a, w0b, w0c⟩ := hA3.whole (j := 0) rfl
          refine satO_step 3 [] ⟨.map lv i00 :: an 1 (.nils :: .int .i64 0 :: v :: an 1 (.ptr lv i6 0 :: .map lv i00 :: .int .i64 (c0.length : Int) :: .bool (decide (200 < (c0.length : Int))) :: .map lv i00 :: .ptr lv L.length 0 :: .tup [.bool true, .str c.1, c.2.el] :: .bool true :: .tup [.str c.1, c.2.el] :: .agg c.2.cs :: .ptr lv i6 1 :: .int .i64 c.2.count :: .bool (decide (1000000000 < c.2.count)) :: .bool (decide (1000000000 < c.2.count)) :: .ptr lv i6 2 :: .int .i64 c.2.volume :: .bool (decide (1000000000000000000 < c.2.volume)) :: .bool (decide (1000000000000000000 < c.2.volume)) :: v :: .agg c.2.cs :: .sl 3 [.agg c.2.cs] true :: an 4 [])), ⟨lv, L3, E⟩, [], E⟩ [] (by simp -implicitDefEqProofs [GTally.cs, g2, w0a, w0b, w0c]) claims_nil ?_
          obtain ⟨v75, L4, q76, hA4⟩ := hA3.push (j := 0) rfl [.agg c.2.cs] (by simp [roomB]; omega) E
          refine satO_step 1 [] ⟨.map lv i00 :: an 1 (.nils :: .int .i64 0 :: v :: an 1 (.ptr lv i6 0 :: .map lv i00 :: .int .i64 (c0.length : Int) :: .bool (decide (200 < (c0.length : Int))) :: .map lv i00 :: .ptr lv L.length 0 :: .tup [.bool true, .str c.1, c.2.el] :: .bool true :: .tup [.str c.1, c.2.el] :: .agg c.2.cs :: .ptr lv i6 1 :: .int .i64 c.2.count :: .bool (decide (1000000000 < c.2.count)) :: .bool (decide (1000000000 < c.2.count)) :: .ptr lv i6 2 :: .int .i64 c.2.volume :: .bool (decide (1000000000000000000 < c.2.volume)) :: .bool (decide (1000000000000000000 < c.2.volume)) :: v :: .agg c.2.cs :: .sl 3 [.agg c.2.cs] true :: v75 :: an 3 [])), ⟨lv, L4, E⟩, [], E⟩ [] (by simp -implicitDefEqProofs [q76]) claims_nil ?_
          have hA4 : AccG lv L4 (⟨30, 3, v75, (vals ++ [c.2]).map GTally.el, true⟩ :: asl) ((i6, .cells c.2.cs) :: osl) := by simpa [GTally.el_cs] using hA4
          have hL4 : L4[i00]? = some none := appendTo_none q76 (fun l i ver n f hv => by
            rcases hA3.form (j := 0) rfl with ⟨e, _⟩ | ⟨e, _⟩ | ⟨k', ver', cp', e, _⟩
            · rw [e] at hv; cases hv
            · rw [e] at hv; cases hv
            · rw [e] at hv; injection hv with e1; exact e1.symm) hL3
          obtain ⟨w0a, w0b, w0c⟩ := hA4.whole (j := 0) rfl
          refine satO_step 1 [] ⟨.map lv i00 :: an 1 (.nils :: .int .i64 0 :: v75 :: an 1 (.ptr lv i6 0 :: .map lv i00 :: .int .i64 (c0.length : Int) :: .bool (decide (200 < (c0.length : Int))) :: .map lv i00 :: .ptr lv L.length 0 :: .tup [.bool true, .str c.1, c.2.el] :: .bool true :: .tup [.str c.1, c.2.el] :: .agg c.2.cs :: .ptr lv i6 1 :: .int .i64 c.2.count :: .bool (decide (1000000000 < c.2.count)) :: .bool (decide (1000000000 < c.2.count)) :: .ptr lv i6 2 :: .int .i64 c.2.volume :: .bool (decide (1000000000000000000 < c.2.volume)) :: .bool (decide (1000000000000000000 < c.2.volume)) :: v :: .agg c.2.cs :: .sl 3 [.agg c.2.cs] true :: v75 :: an 3 [])), ⟨lv, L4, E⟩, [], E⟩ [] (by simp -implicitDefEqProofs [w0a, w0b, w0c]) claims_nil ?_
          refine satO_nil (by simp) ?_
          dsimp only [AExit.then, AExit.inBlock]
          refine ⟨⟨.map lv i00 :: an 1 (.nils :: .int .i64 0 :: v75 :: an 2 (.map lv i00 :: .int .i64 (c0.length : Int) :: .bool (decide (200 < (c0.length : Int))) :: .map lv i00 :: .ptr lv L.length 0 :: an 19 [])), ⟨lv, L4, E⟩, [], E⟩, weak_tmps ?_, v75, vals ++ [c.2], L4, accG_dropO hA4, hL4, ?_, fun x hx => ?_, rfl⟩
          · (try simp only [an, List.map_cons, List.map_nil]); repeat (first | exact VLeL.nil | refine VLeL.cons (by first | exact VLe.refl _ | exact VLe.any _ | exact VLe.nil _ _ | exact VLe.full _ _ | (refine VLe.agg' ?_; repeat (first | exact VLeL.nil | refine VLeL.cons (by first | exact VLe.refl _ | exact VLe.any _ | exact VLe.nil _ _) ?_))) ?_)
          · rw [List.filterMap_append, ← hvals]; simp [hc]
          · rcases List.mem_append.1 hx with hx | hx
            · exact hbig x hx
            · simp at hx; subst hx; exact hbg
    · rintro vis τ ⟨v, vals, L', hA', hL', hvals, hbig, rfl⟩ hnd hlt hall
      rw [List.length_map] at hlt hall
      have hperm : vals.Perm (c0.map (·.2)) := by
        have h1 : vis.Perm (List.range c0.length) := (List.perm_ext_iff_of_nodup hnd List.nodup_range).2 fun q => ⟨fun hq => List.mem_range.2 (hlt q hq), fun hq => hall q (List.mem_range.1 hq)⟩
        rw [hvals]
        refine (h1.filterMap _).trans (List.Perm.of_eq ?_)
        exact range_filterMap c0
      have hno : (c0.any fun p => bigT p.2) = false := by
        rw [List.any_eq_false]
        intro p hp
        have := hbig p.2 (hperm.mem_iff.2 (List.mem_map.2 ⟨p, hp, rfl⟩))
        rw [this]; simp
      rw [hno] at h
      simp only [Bool.false_eq_true, if_false] at h
      split at h
      · rename_i hnod
        injection h with h
        subst h
        have hn : (vals.map (·.name)).Nodup := by
          have := (hperm.map (·.name)).nodup_iff
          rw [this, List.map_map]; exact hnod
        have hsort : sortT vals = sortT (c0.map (·.2)) := asc_unique ((sortT_perm vals).trans (hperm.trans (sortT_perm _).symm)) (sortT_asc _) (sortT_asc _) (((sortT_perm vals).map (·.name)).nodup_iff.2 hn)
        have hvl : vals.length ≤ 1048576 := by rw [hperm.length_eq, List.length_map]; omega
        have hA5 := accG_show hA' hL' (.map (c0.map fun p => (.str p.1, GTally.el p.2)))
        show Sat Try.prog _ ⟨.map lv i00 :: an 1 (.nils :: .int .i64 0 :: v :: an 2 (.map lv i00 :: .int .i64 (c0.length : Int) :: .bool (decide (200 < (c0.length : Int))) :: .map lv i00 :: .ptr lv L.length 0 :: .tup [.bool false] :: .bool false :: an 17 [])), ⟨lv, L'.set i00 (some (.map (c0.map fun p => (.str p.1, GTally.el p.2)))), E⟩, [], E⟩ _
        generalize L'.set i00 (some (AObj.map (c0.map fun p => (V.str p.1, GTally.el p.2)))) = L5 at hA5 ⊢
        repeat refine sat_seq ?_
        refine satO_reg ?_
        obtain ⟨w0a, w0b, w0c⟩ := hA5.whole (j := 0) rfl
        refine satO_step 1 [] ⟨.map lv i00 :: an 1 (.nils :: .int .i64 0 :: v :: an 2 (.map lv i00 :: .int .i64 (c0.length : Int) :: .bool (decide (200 < (c0.length : Int))) :: .map lv i00 :: .ptr lv L.length 0 :: .tup [.bool false] :: .bool false :: an 14 (v :: an 2 []))), ⟨lv, L5, E⟩, [], E⟩ [] (by simp -implicitDefEqProofs [w0a, w0b, w0c]) claims_nil ?_
        refine satO_call (f := 35) (args := [v, .fn 36 [] []]) rfl (by simp [wantedV]) rfl (by simp -implicitDefEqProofs []) (sort_rel hvl hn lv L5 E asl _ v hA5) (fun r0 H0 hp => ?_) (fun v0 H0 hp => ?_)
        · obtain ⟨L6, rfl, hA6, ho⟩ := hp
          replace ho := Out.ret.inj ho.symm
          subst ho
          change SatO _ _ _ ⟨.map lv i00 :: an 1 (.nils :: .int .i64 0 :: v :: an 2 (.map lv i00 :: .int .i64 (c0.length : Int) :: .bool (decide (200 < (c0.length : Int))) :: .map lv i00 :: .ptr lv L.length 0 :: .tup [.bool false] :: .bool false :: an 14 (v :: .tup [] :: an 1 []))), ⟨lv, L6, E⟩, [], E⟩ _
          refine satO_nil (by simp) ?_
          repeat refine sat_seq ?_
          refine satO_reg ?_
          obtain ⟨w0a, w0b, w0c⟩ := hA6.whole (j := 0) rfl
          refine satO_step 3 [] ⟨.map lv i00 :: an 1 (v :: .int .i64 0 :: v :: an 2 (.map lv i00 :: .int .i64 (c0.length : Int) :: .bool (decide (200 < (c0.length : Int))) :: .map lv i00 :: .ptr lv L.length 0 :: .tup [.bool false] :: .bool false :: an 14 (v :: .tup [] :: v :: []))), ⟨lv, L6, E⟩, [], E⟩ [] (by simp -implicitDefEqProofs [w0a, w0b, w0c]) claims_nil ?_
          refine satO_nil (by simp) ?_
          repeat refine sat_seq ?_
          refine sat_ret ?_
          try dsimp only [AExit.then, AExit.inBlock]
          refine endsF (.tup [v, .int .i64 0]) (.tup [v, .int .i64 0]) (by simp [resultsV, resL, resV, tupOf, Try.f19, pLoad]) rfl (VLe.refl _) ⟨L6, v, rfl, ?_, rfl⟩
          rw [hsort] at hA6
          exact hA6
        · obtain ⟨_, _, _, ho⟩ := hp
          cases ho
      · cases h
end Go.Proofs
