/-
  OBJECTS THAT ARE NOT TOLD OF FOR A WHILE: a map that is ranged over, and its iterator.
-/
import Derived.Test.YtfhpamcehnfhoaaGreatDoorAbFlat
namespace Go.Ab
open Go
set_option linter.unusedSimpArgs false
set_option linter.unusedVariables false

theorem orel_map {W : World} {g : Gh} {H H' : Heap} (hf : ∀ {x : V} {c : Value}, Rel W g H x c → Rel W g H' x c) {l i : Nat} {o : AObj} (ho : ORel W g H l i o) : ORel W g H' l i o := by
  cases o with
  | cells cs =>
    obtain ⟨c, ty, k1, k2, k3, k4⟩ := ho
    exact ⟨c, ty, k1, k2, k3, fun j x hj => hf (k4 j x hj)⟩
  | arr ver ty sz xs cp =>
    obtain ⟨c, k1, k3, k4, k4', k5, k6, k7, k8, k9⟩ := ho
    exact ⟨c, k1, k3, k4, k4', k5, k6, k7, k8, fun j x t v hj ht => hf (k9 j x t v hj ht)⟩
  | map es =>
    obtain ⟨en, clock, k1, k2, k3, k4, k5⟩ := ho
    refine ⟨en, clock, k1, k2, k3, k4, fun j p hj => ?_⟩
    obtain ⟨e, he, m1, m2⟩ := k5 j p hj
    exact ⟨e, he, hf m1, hf m2⟩
  | siter s pos => exact ho

/-- an object that is not told of -/
def Heap.hide (H : Heap) (i : Nat) : Heap := ⟨H.lv, H.L.set i none, H.E⟩
theorem Heap.get_hide {H : Heap} {i l k : Nat} {o : AObj} (h : (H.hide i).get l k = some o) : H.get l k = some o ∧ ¬ (l = H.lv ∧ k = i) := by
  unfold Heap.get Heap.hide at h
  dsimp only at h
  by_cases hl : l = H.lv
  · rw [if_pos hl, List.getElem?_set] at h
    by_cases hk : i = k
    · subst hk
      rw [if_pos rfl] at h
      split at h <;> simp at h
    · rw [if_neg hk] at h
      exact ⟨by unfold Heap.get; rw [if_pos hl]; exact h, fun e => hk e.2.symm⟩
  · rw [if_neg hl] at h
    exact ⟨by unfold Heap.get; rw [if_neg hl]; exact h, fun e => hl e.1⟩
theorem good_hide {W : World} {g : Gh} {H : Heap} {i : Nat} {o : AObj} (hG : Good W g H) (hi : H.get H.lv i = some o) :
    Good W g (H.hide i) ∧ Step W g H W g (H.hide i) ∧ (∀ {x : V} {c : Value}, Rel W g H x c → Rel W g (H.hide i) x c) ∧ ¬ Own g (H.hide i) (o.blk g H.lv i) := by
  have hown : ∀ b, Own g (H.hide i) b → Own g H b := fun b ⟨l, k, q, hq, hb⟩ => ⟨l, k, q, (Heap.get_hide hq).1, hb⟩
  have harr : ∀ l k ver ty sz xs cp, (H.hide i).get l k = some (.arr ver ty sz xs cp) → H.get l k = some (.arr ver ty sz xs cp) := fun l k ver ty sz xs cp h => (Heap.get_hide h).1
  have hf : ∀ {x : V} {c : Value}, Rel W g H x c → Rel W g (H.hide i) x c := fun h => Rel.fewer hown harr h
  refine ⟨⟨fun l k q h => hG.dom l k q (Heap.get_hide h).1, fun l k q h => hG.lt l k q (Heap.get_hide h).1, fun l k q l' k' q' h h' hb => hG.inj l k q l' k' q' (Heap.get_hide h).1 (Heap.get_hide h').1 hb, fun l k h => ?_, fun l k q h => orel_map hf (hG.obj l k q (Heap.get_hide h).1), hG.glob.fewer hown⟩,
    ⟨rfl, rfl, rfl, Nat.le_refl _, fun _ _ _ => rfl, fun b h => .inl (hown b h), fun _ _ h => h, fun _ _ h => .inl h, fun _ _ _ => rfl, fun l k ver ty sz xs cp hd h => ⟨ver, xs, cp, harr _ _ _ _ _ _ _ h, Nat.le_refl _, fun _ => ⟨rfl, rfl, Nat.le_refl _⟩⟩, rfl⟩, hf, fun ⟨l, k, q, hq, hb⟩ => ?_⟩
  · rcases hG.fresh l k h with q | ⟨q1, q2⟩
    · exact .inl q
    · exact .inr ⟨q1, by simpa [Heap.hide] using q2⟩
  · obtain ⟨h1, h2⟩ := Heap.get_hide hq
    exact h2 (hG.inj _ _ _ _ _ _ h1 hi hb)

/-- a key for a block that is not told of -/
def Heap.ghost (H : Heap) : Heap := ⟨H.lv, H.L ++ [none], H.E⟩
theorem Heap.get_ghost (H : Heap) (l k : Nat) : H.ghost.get l k = H.get l k := by
  unfold Heap.get Heap.ghost
  dsimp only
  split
  · rw [List.getElem?_append]
    split
    · rfl
    · rename_i h
      rw [List.getElem?_eq_none (by omega : H.L.length ≤ k)]
      cases hk : k - H.L.length with
      | zero => rfl
      | succ m => rfl
  · rfl
theorem good_ghost {W : World} {g : Gh} {H : Heap} (hG : Good W g H) (O : Obj) :
    Good (W.alloc O) (g.add H.lv H.L.length W.heap.size 0) H.ghost ∧ Step W g H (W.alloc O) (g.add H.lv H.L.length W.heap.size 0) H.ghost ∧ ¬ Own (g.add H.lv H.L.length W.heap.size 0) H.ghost W.heap.size ∧
      (g.add H.lv H.L.length W.heap.size 0).dom H.lv H.L.length ∧ (g.add H.lv H.L.length W.heap.size 0).blk H.lv H.L.length = W.heap.size := by
  have hnew : ¬ g.dom H.lv H.L.length := fun h => by rcases hG.fresh _ _ h with h | ⟨_, h⟩ <;> omega
  have hne : ∀ l i, g.dom l i → ¬ (l = H.lv ∧ i = H.L.length) := fun l i h q => hnew (by rw [← q.1, ← q.2]; exact h)
  have hgr := Grow.alloc W O
  have hblk : ∀ l k q, H.get l k = some q → q.blk (g.add H.lv H.L.length W.heap.size 0) l k = q.blk g l k := fun l k q h => AObj.blk_add (hne l k (hG.dom l k q h))
  have hstep : Step W g H (W.alloc O) (g.add H.lv H.L.length W.heap.size 0) H.ghost := by
    refine ⟨rfl, rfl, rfl, hgr.size, fun b hb _ => hgr.block b hb, fun b ⟨l, k, q, hq, hb⟩ => .inl ?_, fun l i h => .inl h, fun l i h => h.elim .inl (fun q => .inr q.1), fun l i h => by simp [Gh.add, hne l i h], fun l i ver ty sz xs cp hd hg => ?_, rfl⟩
    · rw [Heap.get_ghost] at hq
      exact ⟨l, k, q, hq, by rw [← hb]; exact (hblk _ _ _ hq).symm⟩
    · rw [Heap.get_ghost] at hg
      exact ⟨ver, xs, cp, hg, Nat.le_refl _, fun _ => ⟨by simp [Gh.add, hne l i hd], by simp [Gh.add, hne l i hd], Nat.le_refl _⟩⟩
  refine ⟨⟨fun l k q h => ?_, fun l k q h => ?_, fun l k q l' k' q' h h' hb => ?_, fun l k h => ?_, fun l k q h => ?_, hG.glob.step hstep⟩, hstep, fun ⟨l, k, q, hq, hb⟩ => ?_, .inr ⟨rfl, rfl⟩, by simp [Gh.add]⟩
  · rw [Heap.get_ghost] at h; exact .inl (hG.dom _ _ _ h)
  · rw [Heap.get_ghost] at h; rw [hblk _ _ _ h]; exact Nat.lt_of_lt_of_le (hG.lt _ _ _ h) hgr.size
  · rw [Heap.get_ghost] at h h'
    rw [hblk _ _ _ h, hblk _ _ _ h'] at hb
    exact hG.inj _ _ _ _ _ _ h h' hb
  · rcases h with h | ⟨h1, h2⟩
    · rcases hG.fresh _ _ h with q | ⟨q1, q2⟩
      · exact .inl q
      · exact .inr ⟨q1, by simp [Heap.ghost]; omega⟩
    · exact .inr ⟨h1, by simp [Heap.ghost]; omega⟩
  · rw [Heap.get_ghost] at h
    have hd := hne l k (hG.dom _ _ _ h)
    exact (hG.obj _ _ _ h).mono hstep (by rw [hgr.block _ (hG.lt _ _ _ h)]) (by simp [Gh.add, hd]) (by simp [Gh.add, hd]) (by simp [Gh.add, hd])
  · rw [Heap.get_ghost] at hq
    rw [hblk _ _ _ hq] at hb
    have := hG.lt _ _ _ hq
    omega

/-- a map is told of again -/
theorem good_show {W : World} {g : Gh} {H : Heap} {i : Nat} {es : List (V × V)} (hG : Good W g H) (hi : H.L[i]? = some none) (hd : g.dom H.lv i) {en : Array MapEntry} {clock : Nat} (hm : W.heap[g.blk H.lv i]? = some (.map en clock)) (hno : ¬ Own g H (g.blk H.lv i))
    (hes : ∀ (H' : Heap), ORel W g H' H.lv i (.map es)) :
    Good W g ⟨H.lv, H.L.set i (some (.map es)), H.E⟩ ∧ (∀ {x : V} {c : Value}, Rel W g H x c → Rel W g ⟨H.lv, H.L.set i (some (.map es)), H.E⟩ x c) ∧
      ∀ {W0 : World} {g0 : Gh} {H0 : Heap}, Step W0 g0 H0 W g H → (Own g0 H0 (g.blk H.lv i) ∨ W0.heap.size ≤ g.blk H.lv i) → Step W0 g0 H0 W g ⟨H.lv, H.L.set i (some (.map es)), H.E⟩ := by
  have hil : i < H.L.length := (List.getElem?_eq_some_iff.1 hi).1
  have hget : ∀ l k o, Heap.get ⟨H.lv, H.L.set i (some (.map es)), H.E⟩ l k = some o → (l = H.lv ∧ k = i ∧ o = .map es) ∨ (H.get l k = some o ∧ ¬ (l = H.lv ∧ k = i)) := fun l k o h => by
    unfold Heap.get at h ⊢
    dsimp only at h
    by_cases hl : l = H.lv
    · rw [if_pos hl, List.getElem?_set] at h
      rw [if_pos hl]
      by_cases hk : i = k
      · rw [if_pos hk, if_pos (by omega)] at h
        exact .inl ⟨hl, hk.symm, by simpa using h.symm⟩
      · rw [if_neg hk] at h
        exact .inr ⟨h, fun e => hk e.2.symm⟩
    · rw [if_neg hl] at h ⊢
      exact .inr ⟨h, fun e => hl e.1⟩
  have hown : ∀ b, Own g ⟨H.lv, H.L.set i (some (.map es)), H.E⟩ b → Own g H b ∨ b = g.blk H.lv i := fun b ⟨l, k, o, ho, hb⟩ => by
    rcases hget l k o ho with ⟨rfl, rfl, rfl⟩ | ⟨h, _⟩
    · exact .inr hb.symm
    · exact .inl ⟨l, k, o, h, hb⟩
  have harr : ∀ l k ver ty sz xs cp, Heap.get ⟨H.lv, H.L.set i (some (.map es)), H.E⟩ l k = some (.arr ver ty sz xs cp) → H.get l k = some (.arr ver ty sz xs cp) := fun l k ver ty sz xs cp h => by
    rcases hget l k _ h with ⟨_, _, h⟩ | ⟨h, _⟩
    · cases h
    · exact h
  have hcell : ∀ b o v, W.cell? ⟨b, o, none⟩ = some v → b ≠ g.blk H.lv i := fun b o v h e => by
    subst e; unfold World.cell? at h; rw [hm] at h; cases h
  have hf : ∀ {x : V} {c : Value}, Rel W g H x c → Rel W g ⟨H.lv, H.L.set i (some (.map es)), H.E⟩ x c := fun {x c} h => by
    induction h with
    | any c => exact .any c
    | bool b => exact .bool b
    | int k n => exact .int k n
    | str s => exact .str s
    | nilp => exact .nilp
    | ptr l i off hd => exact .ptr l i off hd
    | ref cs off b o c hb hc h1 hr ih =>
      refine .ref cs off b o c (fun hne hn => ?_) hc h1 ih
      cases cs with
      | nil => exact hne rfl
      | cons x t => rcases hown b hn with q | q; exact hb hne q; exact hcell _ _ _ (hc 0 x rfl) q
    | ap l i ver idx off a hd hv ha => exact .ap l i ver idx off a hd (fun v ty sz xs cp hg => hv _ _ _ _ _ (harr _ _ _ _ _ _ _ hg)) fun ty sz xs cp hg => ha _ _ _ _ (harr _ _ _ _ _ _ _ hg)
    | nils => exact .nils
    | slnil sz full => exact .slnil sz full
    | sle sz full a cap hf => exact .sle sz full a cap hf
    | sl sz xs full b o cap c hb hz hcap hf hs hc h1 hr ih =>
      cases xs with
      | nil => exact .sle sz full _ cap (by simpa using hf)
      | cons x t =>
        refine .sl sz _ full b o cap c (fun hn => ?_) hz hcap hf hs hc h1 ih
        have hx := hs 0 x rfl
        cases hcs : x.cells with
        | nil => rw [hcs] at hx; simp at hx; omega
        | cons v vs => rcases hown b hn with q | q; exact hb q; exact hcell _ _ _ (hc 0 x 0 v rfl (by rw [hcs]; rfl)) q
    | hs l i ver off n full a m cap hd hv ha => exact .hs l i ver off n full a m cap hd (fun v ty sz xs cp hg => hv _ _ _ _ _ (harr _ _ _ _ _ _ _ hg)) fun ty sz xs cp hg => ha _ _ _ _ (harr _ _ _ _ _ _ _ hg)
    | mapn => exact .mapn
    | map l i hd => exact .map l i hd
    | fn f fs cs fs' cs' h1 h2 r1 r2 i1 i2 => exact .fn f fs cs fs' cs' h1 h2 i1 i2
    | nilf => exact .nilf
    | iface t v c h ih => exact .iface t v c ih
    | nili => exact .nili
    | agg vs cs hn h1 hr ih => exact .agg vs cs hn h1 ih
    | tup vs cs hn hr ih => exact .tup vs cs hn ih
  refine ⟨⟨fun l k o h => ?_, fun l k o h => ?_, fun l k o l' k' o' h h' hb => ?_, fun l k h => ?_, fun l k o h => ?_, fun k cs hk => ⟨fun hn => (hown k hn).elim (hG.glob k cs hk).1 (fun e => by obtain ⟨_, ty, q, h2⟩ := hG.glob k cs hk; rw [e, hm] at h2; cases h2), (hG.glob k cs hk).2⟩⟩, hf, fun {W0 g0 H0} hS hb0 => ?_⟩
  · rcases hget l k o h with ⟨rfl, rfl, rfl⟩ | ⟨h, _⟩
    · exact hd
    · exact hG.dom _ _ _ h
  · rcases hget l k o h with ⟨rfl, rfl, rfl⟩ | ⟨h, _⟩
    · exact (Array.getElem?_eq_some_iff.1 hm).1
    · exact hG.lt _ _ _ h
  · rcases hget l k o h with ⟨rfl, rfl, rfl⟩ | ⟨h1, h2⟩
    · rcases hget l' k' o' h' with ⟨rfl, rfl, rfl⟩ | ⟨h3, h4⟩
      · exact ⟨rfl, rfl⟩
      · exact (hno ⟨_, _, _, h3, hb.symm⟩).elim
    · rcases hget l' k' o' h' with ⟨rfl, rfl, rfl⟩ | ⟨h3, h4⟩
      · exact (hno ⟨_, _, _, h1, hb⟩).elim
      · exact hG.inj _ _ _ _ _ _ h1 h3 hb
  · rcases hG.fresh l k h with q | ⟨q1, q2⟩
    · exact .inl q
    · exact .inr ⟨q1, by simpa using q2⟩
  · rcases hget l k o h with ⟨rfl, rfl, rfl⟩ | ⟨h, _⟩
    · exact hes _
    · exact orel_map hf (hG.obj _ _ _ h)
  · refine ⟨hS.os, hS.tape, hS.output, hS.size, hS.block, fun b hb => ?_, hS.dom, hS.new, hS.blk, fun l k ver ty sz xs cp hdm h => hS.arr l k ver ty sz xs cp hdm (harr _ _ _ _ _ _ _ h), hS.lv⟩
    rcases hown b hb with q | rfl
    · exact hS.own b q
    · exact hb0
end Go.Ab
