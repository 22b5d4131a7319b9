/-
  A FUNCTION THAT HANDS ITS OWN OBJECTS TO ITS CALLER: the objects get keys of the caller's level.
-/
import Derived.Test.YtfhpamcehnfhoaaGreatDoorAbLaw
namespace Go.Ab
open Go
set_option linter.unusedSimpArgs false
set_option linter.unusedVariables false

mutual
def V.ren (a n : Nat) : V → V
  | .ptr l i off => if l = a + 1 then .ptr a (n + i) off else .ptr l i off
  | .ref cs off => .ref (V.renL a n cs) off
  | .ap l i ver idx off => if l = a + 1 then .ap a (n + i) ver idx off else .ap l i ver idx off
  | .sl sz xs full => .sl sz (V.renL a n xs) full
  | .hs l i ver off m full => if l = a + 1 then .hs a (n + i) ver off m full else .hs l i ver off m full
  | .map l i => if l = a + 1 then .map a (n + i) else .map l i
  | .fn f x y => .fn f (V.renL a n x) (V.renL a n y)
  | .iface t v => .iface t (V.ren a n v)
  | .agg cs => .agg (V.renL a n cs)
  | .tup vs => .tup (V.renL a n vs)
  | v => v
def V.renL (a n : Nat) : List V → List V
  | [] => []
  | v :: vs => V.ren a n v :: V.renL a n vs
end

theorem renL_map (a n : Nat) : ∀ vs : List V, V.renL a n vs = vs.map (V.ren a n)
  | [] => by simp [V.renL]
  | v :: vs => by simp [V.renL, renL_map a n vs]

def AObj.ren (a n : Nat) : AObj → AObj
  | .cells cs => .cells (V.renL a n cs)
  | .arr ver ty sz xs cp => .arr ver ty sz (V.renL a n xs) cp
  | .map es => .map (es.map fun p => (V.ren a n p.1, V.ren a n p.2))
  | .siter s pos => .siter s pos

/-- the new key -/
def key1 (a l : Nat) : Nat := if l = a + 1 then a else l
def key2 (a n l i : Nat) : Nat := if l = a + 1 then n + i else i

theorem ren_cells (a n : Nat) (v : V) : (V.ren a n v).cells = V.renL a n v.cells := by
  cases v <;> simp only [V.ren] <;> first | (simp only [V.cells, V.renL, V.ren]; done) | (split <;> rename_i hl <;> simp [V.cells, V.renL, V.ren, hl])

theorem renL_get {a n : Nat} {vs : List V} {j : Nat} {v : V} (h : (V.renL a n vs)[j]? = some v) : ∃ u, vs[j]? = some u ∧ v = V.ren a n u := by
  rw [renL_map, List.getElem?_map, Option.map_eq_some_iff] at h
  obtain ⟨u, h1, h2⟩ := h
  exact ⟨u, h1, h2.symm⟩

theorem ren_arr {a n ver ty sz : Nat} {xs : List V} {cp : Option Nat} {o : AObj} (h : AObj.ren a n o = .arr ver ty sz xs cp) : ∃ ys, o = .arr ver ty sz ys cp ∧ xs = V.renL a n ys := by
  cases o <;> simp only [AObj.ren] at h <;> cases h
  exact ⟨_, rfl, rfl⟩

section
variable {P : Program}

theorem Rel.rename {W : World} {g g' : Gh} {H H' : Heap} {a n : Nat} (hdom : ∀ l i, g.dom l i → g'.dom (key1 a l) (key2 a n l i)) (hblk : ∀ l i, g.dom l i → g'.blk (key1 a l) (key2 a n l i) = g.blk l i)
    (hab : ∀ l i, g.dom l i → g'.ab (key1 a l) (key2 a n l i) = g.ab l i) (hcap : ∀ l i, g.dom l i → g'.cap (key1 a l) (key2 a n l i) = g.cap l i)
    (hget : ∀ l i o', g.dom l i → H'.get (key1 a l) (key2 a n l i) = some o' → ∃ o, H.get l i = some o ∧ o' = AObj.ren a n o) (hown : ∀ b, Own g' H' b → Own g H b) {v : V} {c : Value} (h : Rel W g H v c) : Rel W g' H' (V.ren a n v) c := by
  induction h with
  | any c => exact .any c
  | bool b => exact .bool b
  | int k n => exact .int k n
  | str s => exact .str s
  | nilp => exact .nilp
  | ptr l i off hd =>
    have h1 := hdom l i hd
    have h2 := hblk l i hd
    have q : Rel W g' H' (.ptr (key1 a l) (key2 a n l i) off) (.pointer (some ⟨g.blk l i, off, none⟩)) := by rw [← h2]; exact .ptr _ _ off h1
    simp only [V.ren]
    split <;> rename_i hl
    · rw [key1, key2, if_pos hl, if_pos hl] at q; exact q
    · rw [key1, key2, if_neg hl, if_neg hl] at q; exact q
  | ref cs off b o c hb hc h1 hr ih =>
    refine .ref _ off b o c (fun hne hn => hb (fun h0 => hne (by rw [h0]; rfl)) (hown b hn)) (fun j v hj => ?_) (fun j v hj => ?_) (fun j v hj => ?_)
    all_goals obtain ⟨u, hu, rfl⟩ := renL_get hj
    · exact hc j u hu
    · exact h1 j u hu
    · exact ih j u hu
  | ap l i ver idx off ad hd hv ha =>
    have h1 := hdom l i hd
    have h2 := hab l i hd
    have h3 := fun o' => hget l i o' hd
    have q : Rel W g' H' (.ap (key1 a l) (key2 a n l i) ver idx off) (.pointer (some ad)) := by
      refine .ap _ _ ver idx off ad h1 (fun v ty sz xs cp hg => ?_) fun ty sz xs cp hg => ?_
      · obtain ⟨o, ho, hr⟩ := h3 _ hg; obtain ⟨ys, rfl, rfl⟩ := ren_arr hr.symm; exact hv _ _ _ _ _ ho
      · obtain ⟨o, ho, hr⟩ := h3 _ hg; obtain ⟨ys, rfl, rfl⟩ := ren_arr hr.symm; rw [h2]; exact ha _ _ _ _ ho
    simp only [V.ren]
    split <;> rename_i hl
    · rw [key1, key2, if_pos hl, if_pos hl] at q; exact q
    · rw [key1, key2, if_neg hl, if_neg hl] at q; exact q
  | nils => exact .nils
  | slnil sz full => exact .slnil sz full
  | sle sz full ad cap hf => exact .sle sz full ad cap hf
  | sl sz xs full b o cap c hb hz hcap hf hs hc h1 hr ih =>
    have hl : xs.length = (V.renL a n xs).length := by rw [renL_map, List.length_map]
    have both : ∀ (j : Nat) (x : V) (t : Nat) (v : V), (V.renL a n xs)[j]? = some x → x.cells[t]? = some v → ∃ y u, xs[j]? = some y ∧ y.cells[t]? = some u ∧ v = V.ren a n u := fun j x t v hj ht => by
      obtain ⟨y, hy, rfl⟩ := renL_get hj
      rw [ren_cells] at ht
      obtain ⟨u, hu, rfl⟩ := renL_get ht
      exact ⟨y, u, hy, hu, rfl⟩
    simp only [V.ren]
    rw [hl] at hcap hf ⊢
    refine .sl sz _ full b o cap c (fun hn => hb (hown b hn)) hz hcap hf (fun j x hj => ?_) (fun j x t v hj ht => ?_) (fun j x t v hj ht => ?_) (fun j x t v hj ht => ?_)
    · obtain ⟨y, hy, rfl⟩ := renL_get hj
      rw [ren_cells, renL_map, List.length_map]; exact hs j y hy
    · obtain ⟨y, u, hy, hu, rfl⟩ := both j x t v hj ht; exact hc j y t u hy hu
    · obtain ⟨y, u, hy, hu, rfl⟩ := both j x t v hj ht; exact h1 j y t u hy hu
    · obtain ⟨y, u, hy, hu, rfl⟩ := both j x t v hj ht; exact ih j y t u hy hu
  | hs l i ver off m full ad mm cap hd hv ha =>
    have h1 := hdom l i hd
    have h2 := hab l i hd
    have h2' := hcap l i hd
    have h3 := fun o' => hget l i o' hd
    have q : Rel W g' H' (.hs (key1 a l) (key2 a n l i) ver off m full) (.slice ad mm cap) := by
      refine .hs _ _ ver off m full ad mm cap h1 (fun v ty sz xs cp hg => ?_) fun ty sz xs cp hg => ?_
      · obtain ⟨o, ho, hr⟩ := h3 _ hg; obtain ⟨ys, rfl, rfl⟩ := ren_arr hr.symm; exact hv _ _ _ _ _ ho
      · obtain ⟨o, ho, hr⟩ := h3 _ hg; obtain ⟨ys, rfl, rfl⟩ := ren_arr hr.symm; rw [h2, h2', renL_map, List.length_map]; exact ha _ _ _ _ ho
    simp only [V.ren]
    split <;> rename_i hl
    · rw [key1, key2, if_pos hl, if_pos hl] at q; exact q
    · rw [key1, key2, if_neg hl, if_neg hl] at q; exact q
  | mapn => exact .mapn
  | map l i hd =>
    have h1 := hdom l i hd
    have h2 := hblk l i hd
    have q : Rel W g' H' (.map (key1 a l) (key2 a n l i)) (.map (some (g.blk l i))) := by rw [← h2]; exact .map _ _ h1
    simp only [V.ren]
    split <;> rename_i hl
    · rw [key1, key2, if_pos hl, if_pos hl] at q; exact q
    · rw [key1, key2, if_neg hl, if_neg hl] at q; exact q
  | fn f fs cs fs' cs' h1 h2 r1 r2 i1 i2 =>
    refine .fn f _ _ fs' cs' (by rw [renL_map, List.length_map]; exact h1) (by rw [renL_map, List.length_map]; exact h2) (fun j v hj => ?_) (fun j v hj => ?_)
    all_goals obtain ⟨u, hu, rfl⟩ := renL_get hj
    · exact i1 j u hu
    · exact i2 j u hu
  | nilf => exact .nilf
  | iface t v c h ih => exact .iface t _ c ih
  | nili => exact .nili
  | agg vs cs hn h1 hr ih =>
    refine .agg _ cs (by rw [renL_map, List.length_map]; exact hn) (fun j v hj => ?_) (fun j v hj => ?_)
    all_goals obtain ⟨u, hu, rfl⟩ := renL_get hj
    · exact h1 j u hu
    · exact ih j u hu
  | tup vs cs hn hr ih =>
    refine .tup _ cs (by rw [renL_map, List.length_map]; exact hn) (fun j v hj => ?_)
    obtain ⟨u, hu, rfl⟩ := renL_get hj
    exact ih j u hu

theorem ORel.rename {W : World} {g g' : Gh} {H H' : Heap} {a n : Nat} (hr : ∀ {v : V} {c : Value}, Rel W g H v c → Rel W g' H' (V.ren a n v) c) {l i l' i' : Nat} {o : AObj}
    (hblk : g'.blk l' i' = g.blk l i) (hab : g'.ab l' i' = g.ab l i) (hcap : g'.cap l' i' = g.cap l i) (h : ORel W g H l i o) : ORel W g' H' l' i' (AObj.ren a n o) := by
  cases o with
  | cells cs =>
    obtain ⟨c, ty, h1, h2, h3, h4⟩ := h
    refine ⟨c, ty, by rw [hblk]; exact h1, by rw [renL_map, List.length_map]; exact h2, fun j v hj => ?_, fun j v hj => ?_⟩
    all_goals obtain ⟨u, hu, rfl⟩ := renL_get hj
    · exact h3 j u hu
    · exact hr (h4 j u hu)
  | arr ver ty sz xs cp =>
    obtain ⟨c, h1, h3, h4, h4', h5, h6, h7, h8, h9⟩ := h
    have both : ∀ (j : Nat) (x : V) (t : Nat) (v : V), (V.renL a n xs)[j]? = some x → x.cells[t]? = some v → ∃ y u, xs[j]? = some y ∧ y.cells[t]? = some u ∧ v = V.ren a n u := fun j x t v hj ht => by
      obtain ⟨y, hy, rfl⟩ := renL_get hj
      rw [ren_cells] at ht
      obtain ⟨u, hu, rfl⟩ := renL_get ht
      exact ⟨y, u, hy, hu, rfl⟩
    refine ⟨c, by rw [hab]; exact h1, h3, by rw [hcap]; exact h4, by rw [hcap]; exact h4', by rw [hcap, renL_map, List.length_map]; exact h5, by rw [hcap]; exact h6, fun j x hj => ?_, fun j x t v hj ht => ?_, fun j x t v hj ht => ?_⟩
    · obtain ⟨y, hy, rfl⟩ := renL_get hj
      rw [ren_cells, renL_map, List.length_map]; exact h7 j y hy
    · obtain ⟨y, u, hy, hu, rfl⟩ := both j x t v hj ht; exact h8 j y t u hy hu
    · obtain ⟨y, u, hy, hu, rfl⟩ := both j x t v hj ht; exact hr (h9 j y t u hy hu)
  | map es =>
    obtain ⟨en, clock, h1, h2, h3, h4, h5⟩ := h
    refine ⟨en, clock, by rw [hblk]; exact h1, by simp [h2], h3, h4, fun j p hj => ?_⟩
    rw [List.getElem?_map, Option.map_eq_some_iff] at hj
    obtain ⟨q, hq, rfl⟩ := hj
    obtain ⟨e, he, k1, k2⟩ := h5 j q hq
    exact ⟨e, he, hr k1, hr k2⟩
  | siter s pos => exact (show W.heap[g'.blk l' i']? = _ by rw [hblk]; exact h)

mutual
theorem ren_id {a n : Nat} : ∀ {v : V}, V.kin (fun l _ => l ≤ a) v → V.ren a n v = v
  | .ptr l i off, h => by simp only [V.kin] at h; simp only [V.ren]; rw [if_neg (by omega)]
  | .ref cs off, h => by simp only [V.kin] at h; simp only [V.ren]; rw [renL_id h]
  | .ap l i ver idx off, h => by simp only [V.kin] at h; simp only [V.ren]; rw [if_neg (by omega)]
  | .sl sz xs full, h => by simp only [V.kin] at h; simp only [V.ren]; rw [renL_id h]
  | .hs l i ver off m full, h => by simp only [V.kin] at h; simp only [V.ren]; rw [if_neg (by omega)]
  | .map l i, h => by simp only [V.kin] at h; simp only [V.ren]; rw [if_neg (by omega)]
  | .fn f x y, h => by simp only [V.kin] at h; simp only [V.ren]; rw [renL_id h.1, renL_id h.2]
  | .iface t v, h => by simp only [V.kin] at h; simp only [V.ren]; rw [ren_id h]
  | .agg cs, h => by simp only [V.kin] at h; simp only [V.ren]; rw [renL_id h]
  | .tup vs, h => by simp only [V.kin] at h; simp only [V.ren]; rw [renL_id h]
  | .any, _ | .bool _, _ | .int .., _ | .str _, _ | .nilp, _ | .nils, _ | .mapn, _ | .nilf, _ | .nili, _ => by simp only [V.ren]
theorem renL_id {a n : Nat} : ∀ {vs : List V}, V.kinL (fun l _ => l ≤ a) vs → V.renL a n vs = vs
  | [], _ => by simp only [V.renL]
  | v :: vs, h => by simp only [V.kinL] at h; simp only [V.renL]; rw [ren_id h.1, renL_id h.2]
end

theorem oren_id {a n : Nat} {o : AObj} (h : o.kin (fun l _ => l ≤ a)) : AObj.ren a n o = o := by
  cases o with
  | cells cs => simp only [AObj.ren]; rw [renL_id h]
  | arr ver ty sz xs cp => simp only [AObj.ren]; rw [renL_id h]
  | map es =>
    simp only [AObj.ren]
    congr 1
    rw [show es.map (fun p => (V.ren a n p.1, V.ren a n p.2)) = es.map id from List.map_congr_left fun p hp => by have k := h p hp; rw [ren_id k.1, ren_id k.2]; rfl, List.map_id]
  | siter s pos => rfl

/-- a function's end that hands its own objects on -/
structure BackX (H H' : Heap) (σ : St) (v r : V) : Prop where
  res : r = V.ren H.lv H.L.length v
  lv : H'.lv = H.lv
  len : H'.L.length = H.L.length + σ.H.L.length
  old : ∀ l i, (l < H.lv ∨ (l = H.lv ∧ i < H.L.length)) → ∀ o', H'.get l i = some o' → ∃ o, σ.H.E l i = some o ∧ (o' = AObj.ren H.lv H.L.length o ∨ (o' = o ∧ H.get l i = some o))
  new : ∀ i o', H'.get H.lv (H.L.length + i) = some o' → ∃ o, σ.H.get (H.lv + 1) i = some o ∧ o' = AObj.ren H.lv H.L.length o
  high : ∀ l i, H.lv < l → H'.E l i = H.E l i

theorem backX_sound {W W' : World} {g g1 : Gh} {H H' : Heap} {σ : St} {v r : V} {c : Value} (hG : Good W g H) (hlv : σ.H.lv = H.lv + 1) (hst : Step W g ⟨H.lv + 1, [], H.get⟩ W' g1 σ.H) (hG1 : Good W' g1 σ.H) (hb : BackX H H' σ v r) (hr : Rel W' g1 σ.H v c) :
    ∃ g2, Step W g H W' g2 H' ∧ Good W' g2 H' ∧ Rel W' g2 H' r c := by
  obtain ⟨hGe, hge, hre⟩ := good_enter hG
  have hbold : ∀ l i, (l < H.lv ∨ (l = H.lv ∧ i < H.L.length)) → ∀ o', H'.get l i = some o' → ∃ o, σ.H.E l i = some o ∧ o' = AObj.ren H.lv H.L.length o := fun l i hk o' ho => by
    obtain ⟨o, h1, h2 | ⟨rfl, h2⟩⟩ := hb.old l i hk o' ho
    · exact ⟨o, h1, h2⟩
    · refine ⟨_, h1, (oren_id (AObj.kin_mono (fun l i h => ?_) (hG.obj _ _ _ h2).kin)).symm⟩
      rcases hG.fresh l i h with q | ⟨q, _⟩ <;> omega
  let isN (l i : Nat) : Prop := l = H.lv ∧ H.L.length ≤ i
  have decN : ∀ l i, Decidable (isN l i) := fun l i => inferInstanceAs (Decidable (_ ∧ _))
  let g2 : Gh := ⟨fun l i => g.dom l i ∨ (isN l i ∧ g1.dom (H.lv + 1) (i - H.L.length)), fun l i => if isN l i then g1.blk (H.lv + 1) (i - H.L.length) else g1.blk l i,
    fun l i => if isN l i then g1.ab (H.lv + 1) (i - H.L.length) else g1.ab l i, fun l i => if isN l i then g1.cap (H.lv + 1) (i - H.L.length) else g1.cap l i⟩
  have hgd : ∀ l i, g.dom l i → l < H.lv ∨ (l = H.lv ∧ i < H.L.length) := fun l i h => hG.fresh l i h
  have hgn : ∀ l i, (l < H.lv ∨ (l = H.lv ∧ i < H.L.length)) → ¬ isN l i := fun l i h hn => by have := hn.1; have := hn.2; omega
  -- keys that are there at the callee's end
  have hg1 : ∀ l i, g1.dom l i → (l = H.lv + 1 ∧ i < σ.H.L.length) ∨ g.dom l i := fun l i hd => by
    rcases hst.new l i hd with q | q
    · exact .inr q
    · have q : l = H.lv + 1 := q
      rcases hG1.fresh l i hd with z | z
      · omega
      · exact .inl ⟨q, z.2⟩
  have key : ∀ l i, g1.dom l i → (isN (key1 H.lv l) (key2 H.lv H.L.length l i) ∧ l = H.lv + 1 ∧ key1 H.lv l = H.lv ∧ key2 H.lv H.L.length l i = H.L.length + i) ∨ (g.dom l i ∧ key1 H.lv l = l ∧ key2 H.lv H.L.length l i = i) := fun l i hd => by
    by_cases hl : l = H.lv + 1
    · have k1 : key1 H.lv l = H.lv := by simp [key1, hl]
      have k2 : key2 H.lv H.L.length l i = H.L.length + i := by simp [key2, hl]
      exact .inl ⟨by rw [k1, k2]; exact ⟨rfl, Nat.le_add_right _ _⟩, hl, k1, k2⟩
    · rcases hg1 l i hd with q | q
      · exact (hl q.1).elim
      · exact .inr ⟨q, by simp [key1, hl], by simp [key2, hl]⟩
  have hnew : ∀ i, isN H.lv (H.L.length + i) := fun i => ⟨rfl, Nat.le_add_right _ _⟩
  have hdom : ∀ l i, g1.dom l i → g2.dom (key1 H.lv l) (key2 H.lv H.L.length l i) := fun l i hd => by
    rcases key l i hd with ⟨h1, h2, h3, h4⟩ | ⟨h1, h3, h4⟩
    · right; refine ⟨h1, ?_⟩; rw [h4]; rw [Nat.add_sub_cancel_left, ← h2]; exact hd
    · left; rw [h3, h4]; exact h1
  have hblk : ∀ l i, g1.dom l i → g2.blk (key1 H.lv l) (key2 H.lv H.L.length l i) = g1.blk l i := fun l i hd => by
    rcases key l i hd with ⟨h1, h2, h3, h4⟩ | ⟨h1, h3, h4⟩
    · show (if isN _ _ then _ else _) = _; rw [if_pos h1, h4, Nat.add_sub_cancel_left, h2]
    · show (if isN _ _ then _ else _) = _; rw [h3, h4, if_neg (hgn l i (hgd l i h1))]
  have hab : ∀ l i, g1.dom l i → g2.ab (key1 H.lv l) (key2 H.lv H.L.length l i) = g1.ab l i := fun l i hd => by
    rcases key l i hd with ⟨h1, h2, h3, h4⟩ | ⟨h1, h3, h4⟩
    · show (if isN _ _ then _ else _) = _; rw [if_pos h1, h4, Nat.add_sub_cancel_left, h2]
    · show (if isN _ _ then _ else _) = _; rw [h3, h4, if_neg (hgn l i (hgd l i h1))]
  have hcap : ∀ l i, g1.dom l i → g2.cap (key1 H.lv l) (key2 H.lv H.L.length l i) = g1.cap l i := fun l i hd => by
    rcases key l i hd with ⟨h1, h2, h3, h4⟩ | ⟨h1, h3, h4⟩
    · show (if isN _ _ then _ else _) = _; rw [if_pos h1, h4, Nat.add_sub_cancel_left, h2]
    · show (if isN _ _ then _ else _) = _; rw [h3, h4, if_neg (hgn l i (hgd l i h1))]
  have hE : ∀ l i, l ≤ H.lv → σ.H.get l i = σ.H.E l i := fun l i hl => by unfold Heap.get; rw [if_neg (by omega)]
  -- every object behind
  have objs : ∀ l i o', H'.get l i = some o' → ∃ k j o, σ.H.get k j = some o ∧ o' = AObj.ren H.lv H.L.length o ∧ key1 H.lv k = l ∧ key2 H.lv H.L.length k j = i ∧ g1.dom k j ∧ l ≤ H.lv := fun l i o' ho => by
    rcases Nat.lt_or_ge H.lv l with q | q
    · unfold Heap.get at ho
      rw [if_neg (by rw [hb.lv]; omega), hb.high l i q] at ho
      have : H.get l i = some o' := by unfold Heap.get; rw [if_neg (by omega)]; exact ho
      have := hgd l i (hG.dom l i o' this)
      omega
    · by_cases hn : isN l i
      · obtain ⟨rfl, hi⟩ := hn
        obtain ⟨o, h1, h2⟩ := hb.new (i - H.L.length) o' (by rw [Nat.add_sub_cancel' hi]; exact ho)
        exact ⟨H.lv + 1, i - H.L.length, o, h1, h2, by simp [key1], by simp [key2]; omega, hG1.dom _ _ _ h1, Nat.le_refl _⟩
      · have hold : l < H.lv ∨ (l = H.lv ∧ i < H.L.length) := by
          rcases Nat.lt_or_eq_of_le q with z | z
          · exact .inl z
          · exact .inr ⟨z, Nat.lt_of_not_le fun h => hn ⟨z, h⟩⟩
        obtain ⟨o, h1, h2⟩ := hbold l i hold o' ho
        have h1' : σ.H.get l i = some o := by rw [hE l i q]; exact h1
        exact ⟨l, i, o, h1', h2, by simp [key1]; omega, by simp [key2]; omega, hG1.dom _ _ _ h1', q⟩
  have hblkO : ∀ k j (o : AObj), g1.dom k j → (AObj.ren H.lv H.L.length o).blk g2 (key1 H.lv k) (key2 H.lv H.L.length k j) = o.blk g1 k j := fun k j o hd => by
    cases o <;> simp only [AObj.ren, AObj.blk]
    · exact hblk k j hd
    · exact hab k j hd
    · exact hblk k j hd
    · exact hblk k j hd
  have hown : ∀ b, Own g2 H' b → Own g1 σ.H b := fun b ⟨l, i, o', ho, hob⟩ => by
    obtain ⟨k, j, o, h1, rfl, rfl, rfl, hd, _⟩ := objs l i o' ho
    rw [hblkO k j o hd] at hob
    exact ⟨k, j, o, h1, hob⟩
  have hget : ∀ l i o', g1.dom l i → H'.get (key1 H.lv l) (key2 H.lv H.L.length l i) = some o' → ∃ o, σ.H.get l i = some o ∧ o' = AObj.ren H.lv H.L.length o := fun l i o' hd ho => by
    rcases key l i hd with ⟨h1, h2, h3, h4⟩ | ⟨h1, h3, h4⟩
    · rw [h3, h4] at ho; rw [h2]; exact hb.new i o' ho
    · rw [h3, h4] at ho
      have hk := hgd l i h1
      rw [hE l i (by omega)]
      exact hbold l i hk o' ho
  have R : ∀ {v : V} {c : Value}, Rel W' g1 σ.H v c → Rel W' g2 H' (V.ren H.lv H.L.length v) c := fun h => Rel.rename hdom hblk hab hcap hget hown h
  refine ⟨g2, ⟨hst.os, hst.tape, hst.output, hst.size, fun b hb' hn => hst.block b hb' (fun ⟨l, i, o, ho, hob⟩ => hn ⟨l, i, o, by rw [← hge]; exact ho, hob⟩), fun b hb' => ?_, fun _ _ h => .inl h, fun l i h => ?_, fun l i hd => ?_, fun l i ver ty sz xs cp hd hg => ?_, hb.lv⟩, ⟨fun l i o ho => ?_, fun l i o ho => ?_, fun l i o l' i' o' h1 h2 h3 => ?_, fun l i hd => ?_, fun l i o ho => ?_, hG1.glob.fewer hown⟩, by rw [hb.res]; exact R hr⟩
  · rcases hst.own b (hown b hb') with ⟨l, i, o, ho, hob⟩ | q
    · exact .inl ⟨l, i, o, by rw [← hge]; exact ho, hob⟩
    · exact .inr q
  · rcases h with q | ⟨q, _⟩
    · exact .inl q
    · exact .inr q.1
  · show (if isN _ _ then _ else _) = _
    rw [if_neg (hgn l i (hgd l i hd))]
    exact hst.blk l i hd
  · have hk := hgd l i hd
    obtain ⟨o, h1, h2⟩ := hbold l i hk _ hg
    obtain ⟨ys, rfl, rfl⟩ := ren_arr h2.symm
    obtain ⟨v', zs, cp', k1, k2, k3⟩ := hst.arr l i ver ty sz ys cp hd (by rw [hE l i (by omega)]; exact h1)
    refine ⟨v', zs, cp', by rw [← hge]; exact k1, k2, fun hv => ?_⟩
    obtain ⟨z1, z2, z3⟩ := k3 hv
    refine ⟨?_, ?_, by rw [renL_map, List.length_map]; exact z3⟩
    · show (if isN _ _ then _ else _) = _; rw [if_neg (hgn l i hk)]; exact z1
    · show (if isN _ _ then _ else _) = _; rw [if_neg (hgn l i hk)]; exact z2
  · obtain ⟨k, j, o2, h1, rfl, rfl, rfl, hd, _⟩ := objs l i o ho
    exact hdom k j hd
  · obtain ⟨k, j, o2, h1, rfl, rfl, rfl, hd, _⟩ := objs l i o ho
    rw [hblkO k j o2 hd]; exact hG1.lt _ _ _ h1
  · obtain ⟨k, j, o2, q1, rfl, rfl, rfl, hd, _⟩ := objs l i o h1
    obtain ⟨k', j', o2', q1', rfl, rfl, rfl, hd', _⟩ := objs l' i' o' h2
    rw [hblkO k j o2 hd, hblkO k' j' o2' hd'] at h3
    obtain ⟨rfl, rfl⟩ := hG1.inj _ _ _ _ _ _ q1 q1' h3
    exact ⟨rfl, rfl⟩
  · rw [hb.lv, hb.len]
    rcases hd with q | ⟨q, z⟩
    · have := hgd l i q; omega
    · rcases hG1.fresh _ _ z with w | ⟨w, w'⟩
      · omega
      · have := q.1; have := q.2; omega
  · obtain ⟨k, j, o2, h1, rfl, rfl, rfl, hd, _⟩ := objs l i o ho
    exact ORel.rename R (hblk k j hd) (hab k j hd) (hcap k j hd) (hG1.obj _ _ _ h1)

def FinX (P : Program) (fn : Func) (H H' : Heap) (r : V) (e : AExit) (σ : St) : Prop :=
  match e with
  | .normal | .ret => ∃ v, resultsV P fn σ = some v ∧ σ.d = [] ∧ BackX H H' σ v r
  | _ => False

/-- a function that hands objects on, by its body -/
theorem hcallX_of_body {f : Nat} {fn : Func} {c : Code} {n : Nat} (hf : P.funcs[f]? = some fn) (hb : fn.body = some c) (hnt : fn.ntmps = n) (hent : ∀ args w, (callFunc f args).run P w = .ok (.enter f args) w) {args : List V} {H H' : Heap} {r : V}
    (h : Sat P c ⟨args ++ List.replicate (n - args.length) .any, ⟨H.lv + 1, [], H.get⟩, [], H.get⟩ (FinX P fn H H' r)) : HCall P f args H r H' := by
  intro W g cargs hG hA
  subst hnt
  refine .inl ⟨hent cargs W, calls_of_wp hf hb ?_⟩
  obtain ⟨hGe, hge, hre⟩ := good_enter hG
  have hst0 : Step W g ⟨H.lv + 1, [], H.get⟩ W g ⟨H.lv + 1, [], H.get⟩ := .refl _ _ _
  have hgs : GoodSt W { tmps := cargs ++ Array.replicate (fn.ntmps - cargs.size) undef, defers := [] } g ⟨args ++ List.replicate (fn.ntmps - args.length) .any, ⟨H.lv + 1, [], H.get⟩, [], H.get⟩ := by
    refine ⟨hGe, by simp [hA.1], fun j v hj => ?_, rfl, by simp⟩
    rw [List.getElem?_append] at hj
    split at hj
    · rename_i hlt
      rw [getD_append_left (by rw [hA.1]; exact hlt)]
      exact hre (hA.2 j v hj)
    · rw [List.getElem?_replicate] at hj
      split at hj
      · injection hj with hj; subst hj; exact .any _
      · cases hj
  refine wp_mono (h W g ⟨H.lv + 1, [], H.get⟩ W _ g ⟨hGe⟩ ⟨rfl, hst0⟩ hgs) fun e a W' ⟨g1, σ, e', q1, q2, q3, q4⟩ => ?_
  have key : ∀ v, resultsV P fn σ = some v → σ.d = [] → BackX H H' σ v r → a.defers = [] ∧ ∃ c, (results fn a.tmps).run P W' = .ok c W' ∧ ∃ c' g', Ending.returned c = .returned c' ∧ Step W g H W' g' H' ∧ Good W' g' H' ∧ Rel W' g' H' r c' := fun v h1 h2 h3 => by
    obtain ⟨c, k1, k2⟩ := results_sound q3 h1
    obtain ⟨g2, z1, z2, z3⟩ := backX_sound hG q2.2.lv q2.2 q3.good h3 k2
    refine ⟨List.eq_nil_of_length_eq_zero (by rw [q3.dlen, h2]; rfl), c, k1, c, g2, rfl, z1, z2, z3⟩
  cases q1 with
  | normal => obtain ⟨v, h1, h2, h3⟩ := q4; exact key v h1 h2 h3
  | ret => obtain ⟨v, h1, h2, h3⟩ := q4; exact key v h1 h2 h3
  | exit id => exact q4.elim
  | panic v c hr => exact q4.elim

/-- the usual case: nothing of the caller's turns, the callee's objects L' come behind the caller's -/
theorem backX_pure {H : Heap} {σ : St} {v : V} (L' : List (Option AObj)) (hlv : σ.H.lv = H.lv + 1) (hE : σ.H.E = H.get) (hl : L'.length = σ.H.L.length)
    (hnew : ∀ (i : Nat) (o' : AObj), L'[i]? = some (some o') → ∃ o, σ.H.L[i]? = some (some o) ∧ o' = AObj.ren H.lv H.L.length o) : BackX H ⟨H.lv, H.L ++ L', H.E⟩ σ v (V.ren H.lv H.L.length v) where
  res := rfl
  lv := rfl
  len := by simp [hl]
  old l i hk o' ho := by
    have : H.get l i = some o' := by
      unfold Heap.get at ho ⊢
      split at ho
      · rename_i h; simp only at h; rw [if_pos h]
        have hi : i < H.L.length := by omega
        rw [List.getElem?_append_left hi] at ho; exact ho
      · rename_i h; simp only at h; rw [if_neg h]; exact ho
    exact ⟨o', by rw [hE]; exact this, .inr ⟨rfl, this⟩⟩
  new i o' ho := by
    unfold Heap.get at ho
    simp only [if_true] at ho
    rw [List.getElem?_append_right (Nat.le_add_right _ _), Nat.add_sub_cancel_left] at ho
    have : L'[i]? = some (some o') := by
      cases hq : L'[i]? with
      | none => rw [hq] at ho; cases ho
      | some x => rw [hq] at ho; simp at ho; rw [ho]
    obtain ⟨o, h1, h2⟩ := hnew i o' this
    exact ⟨o, by unfold Heap.get; rw [if_pos hlv.symm, h1]; rfl, h2⟩
  high _ _ _ := rfl
end
end Go.Ab
