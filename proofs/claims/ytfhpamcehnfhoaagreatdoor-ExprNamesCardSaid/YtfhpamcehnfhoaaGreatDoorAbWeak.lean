import Derived.Test.YtfhpamcehnfhoaaGreatDoorAbRun2
namespace Go.Ab
open Go
set_option linter.unusedSimpArgs false
set_option linter.unusedVariables false

/-! ### less is said -/

inductive VLe : V → V → Prop where
  | refl (v : V) : VLe v v
  | any (v : V) : VLe v .any
  | nil (sz : Nat) (b : Bool) : VLe .nils (.sl sz [] b)
  | full (sz : Nat) (xs : List V) : VLe (.sl sz xs true) (.sl sz xs false)
  | agg (vs us : List V) (hn : vs.length = us.length) (h : ∀ (j : Nat) (v u : V), vs[j]? = some v → us[j]? = some u → VLe v u) : VLe (.agg vs) (.agg us)
  | tup (vs us : List V) (hn : vs.length = us.length) (h : ∀ (j : Nat) (v u : V), vs[j]? = some v → us[j]? = some u → VLe v u) : VLe (.tup vs) (.tup us)

inductive VLeL : List V → List V → Prop where
  | nil : VLeL [] []
  | cons {v u : V} {vs us : List V} (h : VLe v u) (r : VLeL vs us) : VLeL (v :: vs) (u :: us)

theorem VLeL.length {vs us : List V} (h : VLeL vs us) : vs.length = us.length := by induction h <;> simp_all
theorem VLeL.get {vs us : List V} (h : VLeL vs us) : ∀ (j : Nat) (v u : V), vs[j]? = some v → us[j]? = some u → VLe v u := by
  induction h with
  | nil => intro j v u hj; simp at hj
  | cons h r ih =>
    intro j v u hj hk
    cases j with
    | zero => simp at hj hk; subst hj; subst hk; exact h
    | succ j => exact ih j v u (by simpa using hj) (by simpa using hk)
theorem VLeL.refl : ∀ vs : List V, VLeL vs vs
  | [] => .nil
  | v :: vs => .cons (.refl v) (VLeL.refl vs)
theorem VLe.agg' {vs us : List V} (h : VLeL vs us) : VLe (.agg vs) (.agg us) := .agg _ _ h.length h.get
theorem VLe.tup' {vs us : List V} (h : VLeL vs us) : VLe (.tup vs) (.tup us) := .tup _ _ h.length h.get

theorem VLe.rel {v u : V} (h : VLe v u) {W : World} {g : Gh} {H : Heap} : ∀ {c : Value}, Rel W g H v c → Rel W g H u c := by
  induction h with
  | refl v => exact fun h => h
  | any v => exact fun _ => .any _
  | nil sz b => intro c h; cases h; exact .slnil _ _
  | full sz xs =>
    intro c h
    cases h with
    | slnil => exact .slnil _ _
    | sle _ _ a cap hf => exact .sle _ _ a cap (by simp)
    | sl _ _ _ b o cap c hb hz hcap hf hs hc h1 hr => exact .sl _ _ _ b o cap c hb hz hcap (by simp) hs hc h1 hr
  | agg vs us hn h ih =>
    intro c hc
    cases hc with
    | agg _ cs hs h1 hr =>
      have get : ∀ j u, us[j]? = some u → ∃ v, vs[j]? = some v := fun j u hj => by
        have := (List.getElem?_eq_some_iff.1 hj).1
        exact ⟨_, List.getElem?_eq_getElem (by omega)⟩
      refine .agg _ cs (by omega) (fun j u hj => ?_) (fun j u hj => ?_)
      · obtain ⟨v, hv⟩ := get j u hj; exact h1 j v hv
      · obtain ⟨v, hv⟩ := get j u hj; exact ih j v u hv hj (hr j v hv)
  | tup vs us hn h ih =>
    intro c hc
    cases hc with
    | tup _ cs hs hr =>
      refine .tup _ cs (by omega) (fun j u hj => ?_)
      have hlt := (List.getElem?_eq_some_iff.1 hj).1
      have hv : vs[j]? = some (vs[j]'(by omega)) := List.getElem?_eq_getElem _
      exact ih j _ u hv hj (hr j _ hv)

/-! ### which keys a value names -/

mutual
def V.kin (D : Nat → Nat → Prop) : V → Prop
  | .ptr l i _ => D l i
  | .ref cs _ => V.kinL D cs
  | .ap l i _ _ _ => D l i
  | .sl _ xs _ => V.kinL D xs
  | .hs l i _ _ _ _ => D l i
  | .map l i => D l i
  | .fn _ a b => V.kinL D a ∧ V.kinL D b
  | .iface _ v => V.kin D v
  | .agg cs => V.kinL D cs
  | .tup vs => V.kinL D vs
  | _ => True
def V.kinL (D : Nat → Nat → Prop) : List V → Prop
  | [] => True
  | v :: vs => V.kin D v ∧ V.kinL D vs
end

theorem kinL_get {D : Nat → Nat → Prop} : ∀ {vs : List V}, V.kinL D vs → ∀ (j : Nat) (v : V), vs[j]? = some v → V.kin D v
  | [], _, j, v, hj => by simp at hj
  | u :: us, h, 0, v, hj => by simp at hj; subst hj; simp only [V.kinL] at h; exact h.1
  | u :: us, h, j + 1, v, hj => by simp only [V.kinL] at h; exact kinL_get h.2 j v (by simpa using hj)

theorem kinL_of {D : Nat → Nat → Prop} : ∀ {vs : List V}, (∀ v ∈ vs, V.kin D v) → V.kinL D vs
  | [], _ => by simp [V.kinL]
  | u :: us, h => by simp only [V.kinL]; exact ⟨h u (.head _), kinL_of fun v hv => h v (.tail _ hv)⟩

theorem kin_cells {D : Nat → Nat → Prop} {x : V} (h : V.kin D x) : V.kinL D x.cells := by
  cases x <;> simp_all [V.kin, V.cells, V.kinL]

/-- the same reading over fewer keys -/
theorem Rel.restrict {W : World} {g g' : Gh} {H H' : Heap} {D : Nat → Nat → Prop} (hdom : ∀ l i, D l i → g.dom l i → g'.dom l i) (hblk : ∀ l i, D l i → g'.blk l i = g.blk l i) (hab : ∀ l i, D l i → g'.ab l i = g.ab l i) (hcap : ∀ l i, D l i → g'.cap l i = g.cap l i)
    (hget : ∀ l i, D l i → H'.get l i = H.get l i) (hown : ∀ b, Own g' H' b → Own g H b) {v : V} {c : Value} (h : Rel W g H v c) : V.kin D v → Rel W g' H' v c := by
  induction h with
  | any c => exact fun _ => .any c
  | bool b => exact fun _ => .bool b
  | int k n => exact fun _ => .int k n
  | str s => exact fun _ => .str s
  | nilp => exact fun _ => .nilp
  | ptr l i off hd => intro k; simp only [V.kin] at k; rw [← hblk l i k]; exact .ptr l i off (hdom l i k hd)
  | ref cs off b o c hb hc h1 hr ih => intro k; simp only [V.kin] at k; exact .ref cs off b o c (fun hne hn => hb hne (hown b hn)) hc h1 (fun j v hj => ih j v hj (kinL_get k j v hj))
  | ap l i ver idx off a hd hv ha =>
    intro k; simp only [V.kin] at k
    refine .ap l i ver idx off a (hdom l i k hd) (fun v ty sz xs cp hg => ?_) fun ty sz xs cp hg => ?_
    · rw [hget l i k] at hg; exact hv _ _ _ _ _ hg
    · rw [hget l i k] at hg; rw [hab l i k]; exact ha _ _ _ _ hg
  | nils => exact fun _ => .nils
  | slnil sz full => exact fun _ => .slnil sz full
  | sle sz full a cap hf => exact fun _ => .sle sz full a cap hf
  | sl sz xs full b o cap c hb hz hcap hf hs hc h1 hr ih =>
    intro k; simp only [V.kin] at k
    exact .sl sz xs full b o cap c (fun hn => hb (hown b hn)) hz hcap hf hs hc h1 (fun j x t v hj ht => ih j x t v hj ht (kinL_get (kin_cells (kinL_get k j x hj)) t v ht))
  | hs l i ver off n full a m cap hd hv ha =>
    intro k; simp only [V.kin] at k
    refine .hs l i ver off n full a m cap (hdom l i k hd) (fun v ty sz xs cp hg => ?_) fun ty sz xs cp hg => ?_
    · rw [hget l i k] at hg; exact hv _ _ _ _ _ hg
    · rw [hget l i k] at hg; rw [hab l i k, hcap l i k]; exact ha _ _ _ _ hg
  | mapn => exact fun _ => .mapn
  | map l i hd => intro k; simp only [V.kin] at k; rw [← hblk l i k]; exact .map l i (hdom l i k hd)
  | fn f fs cs fs' cs' h1 h2 r1 r2 i1 i2 => intro k; simp only [V.kin] at k; exact .fn f fs cs fs' cs' h1 h2 (fun j v hj => i1 j v hj (kinL_get k.1 j v hj)) (fun j v hj => i2 j v hj (kinL_get k.2 j v hj))
  | nilf => exact fun _ => .nilf
  | iface t v c h ih => intro k; simp only [V.kin] at k; exact .iface t v c (ih k)
  | nili => exact fun _ => .nili
  | agg vs cs hn h1 hr ih => intro k; simp only [V.kin] at k; exact .agg vs cs hn h1 (fun j v hj => ih j v hj (kinL_get k j v hj))
  | tup vs cs hn hr ih => intro k; simp only [V.kin] at k; exact .tup vs cs hn (fun j v hj => ih j v hj (kinL_get k j v hj))

/-- what reads, names keys that are there -/
theorem Rel.kin {W : World} {g : Gh} {H : Heap} {v : V} {c : Value} (h : Rel W g H v c) : V.kin g.dom v := by
  induction h with
  | ptr l i off hd => simpa [V.kin] using hd
  | ap l i ver idx off a hd hv ha => simpa [V.kin] using hd
  | hs l i ver off n full a m cap hd hv ha => simpa [V.kin] using hd
  | map l i hd => simpa [V.kin] using hd
  | ref cs off b o c hb hc h1 hr ih => simp only [V.kin]; exact kinL_of fun v hv => by obtain ⟨j, hj⟩ := List.getElem?_of_mem hv; exact ih j v hj
  | fn f fs cs fs' cs' h1 h2 r1 r2 i1 i2 =>
    simp only [V.kin]
    exact ⟨kinL_of fun v hv => by obtain ⟨j, hj⟩ := List.getElem?_of_mem hv; exact i1 j v hj, kinL_of fun v hv => by obtain ⟨j, hj⟩ := List.getElem?_of_mem hv; exact i2 j v hj⟩
  | iface t v c h ih => simpa [V.kin] using ih
  | agg vs cs hn h1 hr ih => simp only [V.kin]; exact kinL_of fun v hv => by obtain ⟨j, hj⟩ := List.getElem?_of_mem hv; exact ih j v hj
  | tup vs cs hn hr ih => simp only [V.kin]; exact kinL_of fun v hv => by obtain ⟨j, hj⟩ := List.getElem?_of_mem hv; exact ih j v hj
  | sl sz xs full b o cap c hb hz hcap hf hs hc h1 hr ih =>
    simp only [V.kin]
    refine kinL_of fun x hx => ?_
    obtain ⟨j, hj⟩ := List.getElem?_of_mem hx
    have hl := hs j x hj
    cases x
    case agg cs =>
      simp only [V.kin]
      exact kinL_of fun v hv => by obtain ⟨t, ht⟩ := List.getElem?_of_mem hv; exact ih j _ t v hj ht
    all_goals exact ih j _ 0 _ hj rfl
  | _ => simp [V.kin, V.kinL]

mutual
theorem V.kin_mono {D D' : Nat → Nat → Prop} (h : ∀ l i, D l i → D' l i) : ∀ v : V, V.kin D v → V.kin D' v
  | .ptr l i _, k => by simp only [V.kin] at *; exact h l i k
  | .ref cs _, k => by simp only [V.kin] at *; exact V.kinL_mono h cs k
  | .ap l i _ _ _, k => by simp only [V.kin] at *; exact h l i k
  | .sl _ xs _, k => by simp only [V.kin] at *; exact V.kinL_mono h xs k
  | .hs l i _ _ _ _, k => by simp only [V.kin] at *; exact h l i k
  | .map l i, k => by simp only [V.kin] at *; exact h l i k
  | .fn _ a b, k => by simp only [V.kin] at *; exact ⟨V.kinL_mono h a k.1, V.kinL_mono h b k.2⟩
  | .iface _ v, k => by simp only [V.kin] at *; exact V.kin_mono h v k
  | .agg cs, k => by simp only [V.kin] at *; exact V.kinL_mono h cs k
  | .tup vs, k => by simp only [V.kin] at *; exact V.kinL_mono h vs k
  | .any, _ | .bool _, _ | .int _ _, _ | .str _, _ | .nilp, _ | .nils, _ | .mapn, _ | .nilf, _ | .nili, _ => by simp [V.kin]
theorem V.kinL_mono {D D' : Nat → Nat → Prop} (h : ∀ l i, D l i → D' l i) : ∀ vs : List V, V.kinL D vs → V.kinL D' vs
  | [], _ => by simp [V.kinL]
  | v :: vs, k => by simp only [V.kinL] at *; exact ⟨V.kin_mono h v k.1, V.kinL_mono h vs k.2⟩
end

end Go.Ab

namespace Go.Ab
open Go
section
variable {P : Program}

/-! ### a weaker state -/

/-- whatever is in σ is in τ, of which less is said -/
def Weak (σ τ : St) : Prop :=
  ∀ W0 g0 H0 W a g, Base W0 g0 H0 → (σ.e0 = H0.E ∧ Step W0 g0 H0 W g σ.H) → GoodSt W a g σ → ∃ g', (τ.e0 = H0.E ∧ Step W0 g0 H0 W g' τ.H) ∧ GoodSt W a g' τ

theorem Weak.refl (σ : St) : Weak σ σ := fun _ _ _ _ _ g _ hS hG => ⟨g, hS, hG⟩
theorem Weak.trans {σ τ υ : St} (h : Weak σ τ) (k : Weak τ υ) : Weak σ υ := fun W0 g0 H0 W a g hB hS hG =>
  let ⟨g1, h1, h2⟩ := h W0 g0 H0 W a g hB hS hG
  k W0 g0 H0 W a g1 hB h1 h2

theorem weak_tmps {σ : St} {t' : List V} (h : VLeL σ.t t') : Weak σ { σ with t := t' } := fun W0 g0 H0 W a g hB hS hG =>
  ⟨g, hS, hG.good, hG.size.trans h.length, fun j v hj => by
    have hlt : j < σ.t.length := by rw [h.length]; exact (List.getElem?_eq_some_iff.1 hj).1
    exact (h.get j _ v (List.getElem?_eq_getElem hlt) hj).rel (hG.tmps j _ (List.getElem?_eq_getElem hlt)), hG.dlen, hG.defs⟩

def AObj.kin (D : Nat → Nat → Prop) : AObj → Prop
  | .cells cs => V.kinL D cs
  | .arr _ _ _ xs _ => V.kinL D xs
  | .map es => ∀ p ∈ es, V.kin D p.1 ∧ V.kin D p.2
  | .siter _ _ => True

theorem AObj.kin_mono {D D' : Nat → Nat → Prop} (h : ∀ l i, D l i → D' l i) {o : AObj} (k : o.kin D) : o.kin D' := by
  cases o with
  | cells cs => exact V.kinL_mono h _ k
  | arr => exact V.kinL_mono h _ k
  | map es => exact fun p hp => ⟨V.kin_mono h _ (k p hp).1, V.kin_mono h _ (k p hp).2⟩
  | siter => trivial

/-- objects name keys that are there -/
theorem ORel.kin {W : World} {g : Gh} {H : Heap} {l i : Nat} {o : AObj} (h : ORel W g H l i o) : o.kin g.dom := by
  cases o with
  | cells cs =>
    obtain ⟨c, ty, _, _, _, h4⟩ := h
    exact kinL_of fun v hv => by obtain ⟨j, hj⟩ := List.getElem?_of_mem hv; exact (h4 j v hj).kin
  | arr ver ty sz xs cp =>
    obtain ⟨c, _, h2, _, _, _, _, h7, _, h9⟩ := h
    refine kinL_of fun x hx => ?_
    obtain ⟨j, hj⟩ := List.getElem?_of_mem hx
    cases x
    case agg cs =>
      simp only [V.kin]
      exact kinL_of fun v hv => by obtain ⟨t, ht⟩ := List.getElem?_of_mem hv; exact (h9 j _ t v hj ht).kin
    all_goals exact (h9 j _ 0 _ hj rfl).kin
  | map es =>
    obtain ⟨en, clock, _, _, _, _, h5⟩ := h
    intro p hp
    obtain ⟨j, hj⟩ := List.getElem?_of_mem hp
    obtain ⟨e, _, k1, k2⟩ := h5 j p hj
    exact ⟨k1.kin, k2.kin⟩
  | siter => trivial

theorem ORel.restrict {W : World} {g g' : Gh} {H H' : Heap} {D : Nat → Nat → Prop} (hdom : ∀ l i, D l i → g.dom l i → g'.dom l i) (hblk : ∀ l i, g'.blk l i = g.blk l i) (hab : ∀ l i, g'.ab l i = g.ab l i) (hcap : ∀ l i, g'.cap l i = g.cap l i)
    (hget : ∀ l i, D l i → H'.get l i = H.get l i) (hown : ∀ b, Own g' H' b → Own g H b) {l i : Nat} {o : AObj} (h : ORel W g H l i o) (k : o.kin D) : ORel W g' H' l i o := by
  have r : ∀ {v : V} {c : Value}, Rel W g H v c → V.kin D v → Rel W g' H' v c := fun h k => h.restrict hdom (fun l i _ => hblk l i) (fun l i _ => hab l i) (fun l i _ => hcap l i) hget hown k
  cases o with
  | cells cs =>
    obtain ⟨c, ty, h1, h2, h3, h4⟩ := h
    exact ⟨c, ty, by rw [hblk]; exact h1, h2, h3, fun j v hj => r (h4 j v hj) (kinL_get k j v hj)⟩
  | arr ver ty sz xs cp =>
    obtain ⟨c, h1, h3, h4, h4', h5, h6, h7, h8, h9⟩ := h
    exact ⟨c, by rw [hab]; exact h1, h3, by rw [hcap]; exact h4, by rw [hcap]; exact h4', by rw [hcap]; exact h5, by rw [hcap]; exact h6, h7, h8, fun j x t v hj ht => r (h9 j x t v hj ht) (kinL_get (kin_cells (kinL_get k j x hj)) t v ht)⟩
  | map es =>
    obtain ⟨en, clock, h1, h2, h3, h4, h5⟩ := h
    refine ⟨en, clock, by rw [hblk]; exact h1, h2, h3, h4, fun j p hj => ?_⟩
    obtain ⟨e, he, k1, k2⟩ := h5 j p hj
    have kp := k p (List.mem_of_getElem? hj)
    exact ⟨e, he, r k1 kp.1, r k2 kp.2⟩
  | siter s pos => exact (show W.heap[g'.blk l i]? = _ by rw [hblk]; exact h)

end
end Go.Ab
