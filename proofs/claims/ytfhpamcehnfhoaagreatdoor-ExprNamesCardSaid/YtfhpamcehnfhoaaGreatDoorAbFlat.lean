/-
  CALLS AT THE CALLER's OWN LEVEL; REGIONS, SOME OPERATIONS AT A TIME; OWN SLICES THAT BECOME DATA.
-/
import Derived.Test.YtfhpamcehnfhoaaGreatDoorAbGen
namespace Go.Ab
open Go
set_option linter.unusedSimpArgs false
set_option linter.unusedVariables false
section
variable {P : Program}

/-! ### calls whose answer and memory are one of some -/

inductive Out where
  | ret (r : V)
  | pan (v : V)

def ORelE (W : World) (g : Gh) (H : Heap) : Out → Ending → Prop
  | .ret r, e => ∃ c, e = .returned c ∧ Rel W g H r c
  | .pan v, e => ∃ c, e = .panicked [{ v := c, recovered := false }] ∧ Rel W g H v c

def HRel (P : Program) (f : Nat) (args : List V) (H : Heap) (Post : Out → Heap → Prop) : Prop :=
  ∀ (W : World) (g : Gh) (cargs : Array Value), Good W g H → RelA W g H args cargs →
    (callFunc f cargs).run P W = .ok (.enter f cargs) W ∧ Calls P f cargs W (fun e W' => ∃ o H' g', Post o H' ∧ Step W g H W' g' H' ∧ Good W' g' H' ∧ ORelE W' g' H' o e)

theorem HRel.mono {f : Nat} {args : List V} {H : Heap} {Q Q' : Out → Heap → Prop} (h : HRel P f args H Q) (hq : ∀ o H', Q o H' → Q' o H') : HRel P f args H Q' := fun W g cargs hG hA => by
  obtain ⟨h1, h2⟩ := h W g cargs hG hA
  exact ⟨h1, h2.mono fun e W' ⟨o, H', g', k1, k2⟩ => ⟨o, H', g', hq _ _ k1, k2⟩⟩

theorem HRel.le {f : Nat} {as bs : List V} {H : Heap} {Q : Out → Heap → Prop} (h : HRel P f bs H Q) (hl : VLeL as bs) : HRel P f as H Q := fun W g cargs hG hA =>
  h W g cargs hG ⟨hA.1.trans hl.length, fun j v hj => by
    have hlt : j < as.length := by rw [hl.length]; exact (List.getElem?_eq_some_iff.1 hj).1
    exact (hl.get j _ v (List.getElem?_eq_getElem hlt) hj).rel (hA.2 j _ (List.getElem?_eq_getElem hlt))⟩

/-- how a function at its caller's level ends -/
def EndsF (P : Program) (fn : Func) (Post : Out → Heap → Prop) (e : AExit) (σ : St) : Prop :=
  match e with
  | .normal | .ret => ∃ v r, resultsV P fn σ = some v ∧ σ.d = [] ∧ VLe v r ∧ Post (.ret r) σ.H
  | .panic v => σ.d = [] ∧ Post (.pan v) σ.H
  | .exit _ => False

theorem endsF {fn : Func} {Post : Out → Heap → Prop} {σ : St} (v r : V) (hr : resultsV P fn σ = some v) (hd : σ.d = []) (hv : VLe v r) (hp : Post (.ret r) σ.H) : EndsF P fn Post .ret σ := ⟨v, r, hr, hd, hv, hp⟩
theorem endsF' {fn : Func} {Post : Out → Heap → Prop} {σ : St} (v r : V) (hr : resultsV P fn σ = some v) (hd : σ.d = []) (hv : VLe v r) (hp : Post (.ret r) σ.H) : EndsF P fn Post .normal σ := ⟨v, r, hr, hd, hv, hp⟩

/-- a function that runs at its caller's level -/
theorem hrel_flat {f : Nat} {fn : Func} {c : Code} {n : Nat} (hf : P.funcs[f]? = some fn) (hb : fn.body = some c) (hnt : fn.ntmps = n) (hent : ∀ args w, (callFunc f args).run P w = .ok (.enter f args) w) {args : List V} {lv : Nat} {L : List (Option AObj)} {E : Nat → Nat → Option AObj} {Post : Out → Heap → Prop}
    (h : Sat P c ⟨args ++ List.replicate (n - args.length) .any, ⟨lv, L, E⟩, [], E⟩ (EndsF P fn Post)) : HRel P f args ⟨lv, L, E⟩ Post := by
  intro W g cargs hG hA
  subst hnt
  refine ⟨hent cargs W, calls_of_wp hf hb ?_⟩
  have hgs : GoodSt W { tmps := cargs ++ Array.replicate (fn.ntmps - cargs.size) undef, defers := [] } g ⟨args ++ List.replicate (fn.ntmps - args.length) .any, ⟨lv, L, E⟩, [], E⟩ := by
    refine ⟨hG, by simp [hA.1], fun j v hj => ?_, rfl, by simp⟩
    rw [List.getElem?_append] at hj
    split at hj
    · rename_i hlt
      rw [getD_append_left (by rw [hA.1]; exact hlt)]
      exact hA.2 j v hj
    · rw [List.getElem?_replicate] at hj
      split at hj
      · injection hj with hj; subst hj; exact .any _
      · cases hj
  refine wp_mono (h W g ⟨lv, L, E⟩ W _ g ⟨hG⟩ ⟨rfl, .refl _ _ _⟩ hgs) fun e a W' ⟨g1, σ, e', q1, q2, q3, q4⟩ => ?_
  have key : ∀ v r, resultsV P fn σ = some v → σ.d = [] → VLe v r → Post (.ret r) σ.H → a.defers = [] ∧ ∃ c, (results fn a.tmps).run P W' = .ok c W' ∧ ∃ o H' g', Post o H' ∧ Step W g ⟨lv, L, E⟩ W' g' H' ∧ Good W' g' H' ∧ ORelE W' g' H' o (.returned c) := fun v r h1 h2 h3 h4 => by
    obtain ⟨c, k1, k2⟩ := results_sound q3 h1
    exact ⟨List.eq_nil_of_length_eq_zero (by rw [q3.dlen, h2]; rfl), c, k1, .ret r, σ.H, g1, h4, q2.2, q3.good, c, rfl, h3.rel k2⟩
  cases q1 with
  | normal => obtain ⟨v, r, h1, h2, h3, h4⟩ := q4; exact key v r h1 h2 h3 h4
  | ret => obtain ⟨v, r, h1, h2, h3, h4⟩ := q4; exact key v r h1 h2 h3 h4
  | exit id => exact q4.elim
  | panic v c hr =>
    obtain ⟨h1, h2⟩ := q4
    exact ⟨List.eq_nil_of_length_eq_zero (by rw [q3.dlen, h1]; rfl), .pan v, σ.H, g1, h2, q2.2, q3.good, c, rfl, hr⟩

/-- a call that may end in a panic, and that turns memory -/
theorem satO_call {ops : Array Oper} {k : Nat} {σ : St} {Q : AExit → St → Prop} {o : Oper} {c : Call} {f : Nat} {args : List V} {Post : Out → Heap → Prop} (ho : ops[k]? = some o) (hw : wantedV ops σ o = some true) (hop : o.op = .call c) (ht : target σ.ev c = some (f, args)) (hc : HRel P f args σ.H Post)
    (hr : ∀ r H', Post (.ret r) H' → SatO P ops (k + 1) ({ σ with H := H' }.put o.dst r) Q) (hp : ∀ v H', Post (.pan v) H' → Q (.panic v) { σ with H := H' }) : SatO P ops k σ Q := fun W0 g0 H0 W a g hB hS hG => by
  have hk : k < ops.size := by
    rcases Nat.lt_or_ge k ops.size with q | q
    · exact q
    · rw [Array.getElem?_eq_none q] at ho; cases ho
  rw [show ops.size - k = (ops.size - (k + 1)) + 1 by omega, List.range'_succ]
  simp only [wpOps, ho]
  rw [wantedV_sound hG hw, if_pos rfl]
  left
  unfold Oper.wp
  obtain ⟨cargs, k1, k2⟩ := target_sound (P := P) (ty := o.type) hG.ev ht
  have hex : (execOp a.eval o).run P W = (callFunc f cargs).run P W := by
    rw [← k2 W]; unfold execOp; rw [hop]
  obtain ⟨e1, e2⟩ := hc W g cargs hG.good k1
  rw [hex, e1]
  refine e2.mono fun e W' ⟨o', H', g', p1, p2, p3, p4⟩ => ?_
  cases o' with
  | ret r =>
    obtain ⟨c', he, hr'⟩ := p4
    subst he
    exact hr r H' p1 W0 g0 H0 W' (a.put o.dst c') g' hB (by
      have : ({ σ with H := H' }.put o.dst r).H = H' := by cases o.dst <;> rfl
      have he : ({ σ with H := H' }.put o.dst r).e0 = σ.e0 := by cases o.dst <;> rfl
      rw [this, he]; exact ⟨hS.1, hS.2.trans p2⟩) (hG.next p2 p3 hr' o.dst)
  | pan v =>
    obtain ⟨c', he, hr'⟩ := p4
    subst he
    have hn := hG.next p2 p3 (.any undef) none
    exact ⟨g', { σ with H := H' }, .panic v, .panic v c' hr', ⟨hS.1, hS.2.trans p2⟩, hn, hp v H' p1⟩

/-- a panic -/
theorem satO_panic {ops : Array Oper} {k : Nat} {σ : St} {Q : AExit → St → Prop} {o : Oper} {x : Operand} {t : Nat} {v : V} (ho : ops[k]? = some o) (hw : wantedV ops σ o = some true) (hop : o.op = .panic x) (hv : σ.ev x = .iface t v) (hp : Q (.panic (.iface t v)) σ) : SatO P ops k σ Q := fun W0 g0 H0 W a g hB hS hG => by
  have hk : k < ops.size := by
    rcases Nat.lt_or_ge k ops.size with q | q
    · exact q
    · rw [Array.getElem?_eq_none q] at ho; cases ho
  rw [show ops.size - k = (ops.size - (k + 1)) + 1 by omega, List.range'_succ]
  simp only [wpOps, ho]
  rw [wantedV_sound hG hw, if_pos rfl]
  left
  have hr := hG.ev x
  rw [hv] at hr
  generalize hcc : a.eval x = cc at hr
  cases hr with
  | iface _ _ c h =>
    unfold Oper.wp
    have hex : (execOp a.eval o).run P W = .halt (.panic (.iface t c)) W := by
      unfold execOp; rw [hop]; simp [hcc, Instr.panic, goPanic, Sem.run]
    rw [hex]
    exact ⟨g, σ, .panic (.iface t v), .panic _ _ (.iface _ _ _ h), hS, hG, hp⟩

/-! ### own slices that become data -/

theorem Rel.fewer {W : World} {g : Gh} {H H' : Heap} (hown : ∀ b, Own g H' b → Own g H b) (harr : ∀ l i ver ty sz xs cp, H'.get l i = some (.arr ver ty sz xs cp) → H.get l i = some (.arr ver ty sz xs cp)) {v : V} {c : Value} (h : Rel W g H v c) : Rel W g H' v c := by
  induction h with
  | any c => exact .any c
  | bool b => exact .bool b
  | int k n => exact .int k n
  | str s => exact .str s
  | nilp => exact .nilp
  | ptr l i off hd => exact .ptr l i off hd
  | ref cs off b o c hb hc h1 hr ih => exact .ref cs off b o c (fun hne hn => hb hne (hown b hn)) hc h1 ih
  | ap l i ver idx off a hd hv ha => exact .ap l i ver idx off a hd (fun v ty sz xs cp hg => hv _ _ _ _ _ (harr _ _ _ _ _ _ _ hg)) fun ty sz xs cp hg => ha _ _ _ _ (harr _ _ _ _ _ _ _ hg)
  | nils => exact .nils
  | slnil sz full => exact .slnil sz full
  | sle sz full a cap hf => exact .sle sz full a cap hf
  | sl sz xs full b o cap c hb hz hcap hf hs hc h1 hr ih => exact .sl sz xs full b o cap c (fun hn => hb (hown b hn)) hz hcap hf hs hc h1 ih
  | hs l i ver off n full a m cap hd hv ha => exact .hs l i ver off n full a m cap hd (fun v ty sz xs cp hg => hv _ _ _ _ _ (harr _ _ _ _ _ _ _ hg)) fun ty sz xs cp hg => ha _ _ _ _ (harr _ _ _ _ _ _ _ hg)
  | mapn => exact .mapn
  | map l i hd => exact .map l i hd
  | fn f fs cs fs' cs' h1 h2 r1 r2 i1 i2 => exact .fn f fs cs fs' cs' h1 h2 i1 i2
  | nilf => exact .nilf
  | iface t v c h ih => exact .iface t v c ih
  | nili => exact .nili
  | agg vs cs hn h1 hr ih => exact .agg vs cs hn h1 ih
  | tup vs cs hn hr ih => exact .tup vs cs hn ih

/-- v is told as r -/
inductive FV (v r : V) : V → V → Prop where
  | keep (x : V) : FV v r x x
  | any (x : V) : FV v r x .any
  | it : FV v r v r
  | agg (vs us : List V) (hn : vs.length = us.length) (h : ∀ (j : Nat) (x y : V), vs[j]? = some x → us[j]? = some y → FV v r x y) : FV v r (.agg vs) (.agg us)
  | tup (vs us : List V) (hn : vs.length = us.length) (h : ∀ (j : Nat) (x y : V), vs[j]? = some x → us[j]? = some y → FV v r x y) : FV v r (.tup vs) (.tup us)

inductive FVL (v r : V) : List V → List V → Prop where
  | nil : FVL v r [] []
  | cons {x y : V} {xs ys : List V} (h : FV v r x y) (t : FVL v r xs ys) : FVL v r (x :: xs) (y :: ys)
theorem FVL.refl' {v r : V} : ∀ t : List V, FVL v r t t
  | [] => .nil
  | x :: t => .cons (.keep x) (FVL.refl' t)
theorem FVL.length {v r : V} {vs us : List V} (h : FVL v r vs us) : vs.length = us.length := by induction h <;> simp_all
theorem FVL.get {v r : V} {vs us : List V} (h : FVL v r vs us) : ∀ (j : Nat) (x y : V), vs[j]? = some x → us[j]? = some y → FV v r x y := by
  induction h with
  | nil => intro j x y hj; simp at hj
  | cons h t ih =>
    intro j x y hj hk
    cases j with
    | zero => simp at hj hk; subst hj; subst hk; exact h
    | succ j => exact ih j x y (by simpa using hj) (by simpa using hk)
theorem FV.agg' {v r : V} {vs us : List V} (h : FVL v r vs us) : FV v r (.agg vs) (.agg us) := .agg _ _ h.length h.get
theorem FV.tup' {v r : V} {vs us : List V} (h : FVL v r vs us) : FV v r (.tup vs) (.tup us) := .tup _ _ h.length h.get

theorem FV.rel {W : World} {g : Gh} {H H' : Heap} {v r : V} (hf : ∀ {x : V} {c : Value}, Rel W g H x c → Rel W g H' x c) (hv : ∀ {c : Value}, Rel W g H v c → Rel W g H' r c) {x y : V} (h : FV v r x y) : ∀ {c : Value}, Rel W g H x c → Rel W g H' y c := by
  induction h with
  | keep x => exact fun h => hf h
  | any x => exact fun _ => .any _
  | it => exact fun h => hv h
  | agg vs us hn h ih =>
    intro c hc
    cases hc with
    | agg _ cs hs h1 hr =>
      have get : ∀ j u, us[j]? = some u → ∃ x, vs[j]? = some x := fun j u hj => by
        have := (List.getElem?_eq_some_iff.1 hj).1
        exact ⟨_, List.getElem?_eq_getElem (by omega)⟩
      refine .agg _ cs (by omega) (fun j u hj => ?_) (fun j u hj => ?_)
      · obtain ⟨x, hx⟩ := get j u hj; exact h1 j x hx
      · obtain ⟨x, hx⟩ := get j u hj; exact ih j x u hx hj (hr j x hx)
  | tup vs us hn h ih =>
    intro c hc
    cases hc with
    | tup _ cs hs hr =>
      refine .tup _ cs (by omega) (fun j u hj => ?_)
      have hlt := (List.getElem?_eq_some_iff.1 hj).1
      have hx : vs[j]? = some (vs[j]'(by omega)) := List.getElem?_eq_getElem _
      exact ih j _ u hx hj (hr j _ hx)

def FO (v r : V) (o o' : AObj) : Prop := o' = o ∨ ∃ cs cs', o = .cells cs ∧ o' = .cells cs' ∧ FVL v r cs cs'

theorem FO.blk {v r : V} {o o' : AObj} (h : FO v r o o') (g : Gh) (l i : Nat) : o'.blk g l i = o.blk g l i := by
  rcases h with rfl | ⟨cs, cs', rfl, rfl, _⟩ <;> rfl
theorem FO.arr {v r : V} {o : AObj} {ver ty sz : Nat} {xs : List V} {cp : Option Nat} (h : FO v r o (.arr ver ty sz xs cp)) : o = .arr ver ty sz xs cp := by
  rcases h with h | ⟨cs, cs', _, h, _⟩
  · exact h.symm
  · cases h

theorem weak_map {σ : St} {L' : List (Option AObj)} {t' : List V} {v r : V} (hlen : L'.length = σ.H.L.length) (hL : ∀ (k : Nat) (o' : AObj), L'[k]? = some (some o') → ∃ o, σ.H.L[k]? = some (some o) ∧ FO v r o o') (ht : FVL v r σ.t t') (hd : σ.d = [])
    (hv : ∀ (W : World) (g : Gh), Good W g σ.H → (∀ b, Own g ⟨σ.H.lv, L', σ.H.E⟩ b → Own g σ.H b) → (∀ {x : V} {c : Value}, Rel W g σ.H x c → Rel W g ⟨σ.H.lv, L', σ.H.E⟩ x c) → ∀ {c : Value}, Rel W g σ.H v c → Rel W g ⟨σ.H.lv, L', σ.H.E⟩ r c) : Weak σ ⟨t', ⟨σ.H.lv, L', σ.H.E⟩, [], σ.e0⟩ := fun W0 g0 H0 W a g hB hS hG => by
  have hget : ∀ l i o', Heap.get ⟨σ.H.lv, L', σ.H.E⟩ l i = some o' → ∃ o, σ.H.get l i = some o ∧ FO v r o o' := fun l i o' h => by
    unfold Heap.get at h ⊢
    dsimp only at h
    by_cases hl : l = σ.H.lv
    · rw [if_pos hl] at h ⊢
      cases hq : L'[i]? with
      | none => rw [hq] at h; simp at h
      | some q =>
        rw [hq] at h
        cases q with
        | none => simp at h
        | some q =>
          simp at h; subst h
          obtain ⟨o, h1, h2⟩ := hL i q hq
          exact ⟨o, by rw [h1]; rfl, h2⟩
    · rw [if_neg hl] at h ⊢
      exact ⟨o', h, .inl rfl⟩
  have hown : ∀ b, Own g ⟨σ.H.lv, L', σ.H.E⟩ b → Own g σ.H b := fun b ⟨l, i, o', ho, hb⟩ => by
    obtain ⟨o, h1, h2⟩ := hget l i o' ho
    exact ⟨l, i, o, h1, by rw [← h2.blk]; exact hb⟩
  have harr : ∀ l i ver ty sz xs cp, Heap.get ⟨σ.H.lv, L', σ.H.E⟩ l i = some (.arr ver ty sz xs cp) → σ.H.get l i = some (.arr ver ty sz xs cp) := fun l i ver ty sz xs cp h => by
    obtain ⟨o, h1, h2⟩ := hget l i _ h
    rw [h2.arr] at h1; exact h1
  have hf : ∀ {x : V} {c : Value}, Rel W g σ.H x c → Rel W g ⟨σ.H.lv, L', σ.H.E⟩ x c := fun h => Rel.fewer hown harr h
  have hr : ∀ {x y : V}, FV v r x y → ∀ {c : Value}, Rel W g σ.H x c → Rel W g ⟨σ.H.lv, L', σ.H.E⟩ y c := fun h => FV.rel hf (hv W g hG.good hown hf) h
  have hGood : Good W g ⟨σ.H.lv, L', σ.H.E⟩ := by
    refine ⟨fun l i o' h => ?_, fun l i o' h => ?_, fun l i o1 l' i' o2 h1 h2 hb => ?_, fun l i h => ?_, fun l i o' h => ?_, hG.good.glob.fewer hown⟩
    · obtain ⟨o, h1, _⟩ := hget l i o' h; exact hG.good.dom l i o h1
    · obtain ⟨o, h1, h2⟩ := hget l i o' h; rw [h2.blk]; exact hG.good.lt l i o h1
    · obtain ⟨p, k1, k2⟩ := hget l i o1 h1
      obtain ⟨q, m1, m2⟩ := hget l' i' o2 h2
      rw [k2.blk, m2.blk] at hb
      exact hG.good.inj l i p l' i' q k1 m1 hb
    · rcases hG.good.fresh l i h with q | ⟨q1, q2⟩
      · exact .inl q
      · exact .inr ⟨q1, by show i < L'.length; rw [hlen]; exact q2⟩
    · obtain ⟨o, h1, h2⟩ := hget l i o' h
      have ho := hG.good.obj l i o h1
      rcases h2 with rfl | ⟨cs, cs', rfl, rfl, hc⟩
      · cases o' with
        | cells cs =>
          obtain ⟨c, ty, k1, k2, k3, k4⟩ := ho
          exact ⟨c, ty, k1, k2, k3, fun j x hj => hf (k4 j x hj)⟩
        | arr ver ty sz xs cp =>
          obtain ⟨c, k1, k3, k4, k4', k5, k6, k7, k8, k9⟩ := ho
          exact ⟨c, k1, k3, k4, k4', k5, k6, k7, k8, fun j x t v hj ht => hf (k9 j x t v hj ht)⟩
        | map es =>
          obtain ⟨en, clock, k1, k2, k3, k4, k5⟩ := ho
          refine ⟨en, clock, k1, k2, k3, k4, fun j p hj => ?_⟩
          obtain ⟨e, he, m1, m2⟩ := k5 j p hj
          exact ⟨e, he, hf m1, hf m2⟩
        | siter s pos => exact ho
      · obtain ⟨c, ty, k1, k2, k3, k4⟩ := ho
        have hl := hc.length
        have get : ∀ j u, cs'[j]? = some u → ∃ x, cs[j]? = some x := fun j u hj => by
          have := (List.getElem?_eq_some_iff.1 hj).1
          exact ⟨_, List.getElem?_eq_getElem (by omega)⟩
        refine ⟨c, ty, k1, by omega, fun j u hj => ?_, fun j u hj => ?_⟩
        · obtain ⟨x, hx⟩ := get j u hj; exact k3 j x hx
        · obtain ⟨x, hx⟩ := get j u hj; exact hr (hc.get j x u hx hj) (k4 j x hx)
  refine ⟨g, ⟨hS.1, ⟨hS.2.os, hS.2.tape, hS.2.output, hS.2.size, hS.2.block, fun b h => hS.2.own b (hown b h), hS.2.dom, hS.2.new, hS.2.blk, fun l i ver ty sz xs cp hd h => hS.2.arr l i ver ty sz xs cp hd (harr l i _ _ _ _ _ h), hS.2.lv⟩⟩, hGood, hG.size.trans ht.length, fun j u hj => ?_, by rw [hG.dlen, hd], fun j f vs hj => by simp at hj⟩
  have hlt := (List.getElem?_eq_some_iff.1 hj).1
  have hx : σ.t[j]? = some (σ.t[j]'(by rw [ht.length]; exact hlt)) := List.getElem?_eq_getElem _
  exact hr (ht.get j _ u hx hj) (hG.tmps j _ hx)

inductive FOL (v r : V) : List (Nat × AObj) → List (Nat × AObj) → Prop where
  | refl (os : List (Nat × AObj)) : FOL v r os os
  | cons {i : Nat} {o o' : AObj} {os os' : List (Nat × AObj)} (h : FO v r o o') (t : FOL v r os os') : FOL v r ((i, o) :: os) ((i, o') :: os')
theorem FOL.map {v r : V} {os os' : List (Nat × AObj)} (h : FOL v r os os') : os'.map (·.1) = os.map (·.1) := by
  induction h with
  | refl os => rfl
  | cons h t ih => simp [ih]
theorem FOL.mem {v r : V} {os os' : List (Nat × AObj)} (h : FOL v r os os') : ∀ p' ∈ os', ∃ o, (p'.1, o) ∈ os ∧ FO v r o p'.2 := by
  induction h with
  | refl os => exact fun p hp => ⟨p.2, hp, .inl rfl⟩
  | cons h t ih =>
    intro p hp
    rcases List.mem_cons.1 hp with rfl | hp
    · exact ⟨_, List.mem_cons_self, h⟩
    · obtain ⟨o, h1, h2⟩ := ih p hp; exact ⟨o, List.mem_cons_of_mem _ h1, h2⟩

/-- the list of objects: one is gone, some are told anew -/
def told (L : List (Option AObj)) (rm : Option Nat) (os : List (Nat × AObj)) : List (Option AObj) :=
  (List.range L.length).map fun k => if rm = some k then none else match os.find? (fun p => p.1 == k) with | some p => some p.2 | none => (L[k]?).join
theorem told_len (L : List (Option AObj)) (rm : Option Nat) (os : List (Nat × AObj)) : (told L rm os).length = L.length := by simp [told]
theorem told_get {L : List (Option AObj)} {rm : Option Nat} {os : List (Nat × AObj)} {k : Nat} (hk : k < L.length) : (told L rm os)[k]? = some (if rm = some k then none else match os.find? (fun p => p.1 == k) with | some p => some p.2 | none => (L[k]?).join) := by
  simp [told, hk]

theorem AccG.freezeX {lv : Nat} {L : List (Option AObj)} {as : List AccE} {os os' : List (Nat × AObj)} (h : AccG lv L as os) {j ty sz : Nat} {v : V} {xs : List V} {w : Bool} (hj : as[j]? = some ⟨ty, sz, v, xs, w⟩) {t t' : List V}
    (ht : FVL v (.sl sz xs false) t t') (hos : FOL v (.sl sz xs false) os os') (E e0 : Nat → Nat → Option AObj) : ∃ L', (AccG lv L' (as.eraseIdx j) os' ∧ Weak ⟨t, ⟨lv, L, E⟩, [], e0⟩ ⟨t', ⟨lv, L', E⟩, [], e0⟩) ∧ L'.length = L.length ∧ ∀ i, i < L.length → (∀ p ∈ os, p.1 ≠ i) → (∀ ver n, v ≠ .hs lv i ver 0 n false) → L'[i]? = L[i]? := by
  have hA := h
  obtain ⟨⟨ks, h1, h2, h3, h4⟩, h5⟩ := h
  have hjl := (List.getElem?_eq_some_iff.1 hj).1
  have hk : ks[j]? = some (ks[j]'(by omega)) := List.getElem?_eq_getElem _
  generalize ks[j]'(by omega) = k at hk
  have hAt := h2 j k _ hk hj
  have hkeys : ∀ p' ∈ os', ∀ t : Nat, ks[t]? ≠ some (some p'.1) := fun p' hp' t => by
    obtain ⟨o, ho, _⟩ := hos.mem p' hp'
    exact (h4 _ ho).2 t
  have hnd : (os'.map (·.1)).Nodup := by rw [hos.map]; exact h5
  have hfind : ∀ p' ∈ os', os'.find? (fun p => p.1 == p'.1) = some p' := fun p' hp' => by
    cases hq : os'.find? (fun p => p.1 == p'.1) with
    | none => rw [List.find?_eq_none] at hq; have := hq p' hp'; simp at this
    | some q =>
      have hq1 := List.find?_some hq
      have hq2 := List.mem_of_find?_eq_some hq
      simp at hq1
      obtain ⟨a, ha⟩ := List.mem_iff_getElem?.1 hp'
      obtain ⟨b, hb⟩ := List.mem_iff_getElem?.1 hq2
      have ha' : (os'.map (·.1))[a]? = some p'.1 := by simp [ha]
      have hb' : (os'.map (·.1))[b]? = some p'.1 := by simp [hb, hq1]
      have hlt := (List.getElem?_eq_some_iff.1 ha').1
      have := (List.getElem?_inj hlt hnd).1 (ha'.trans hb'.symm)
      subst this
      rw [ha] at hb; exact hb.symm
  have hother : ∀ n : Nat, n < L.length → k ≠ some n → (∀ p' ∈ os', p'.1 ≠ n) → (told L k os')[n]? = some (L[n]?).join := fun n hn h6 h7 => by
    rw [told_get hn, if_neg h6]
    have : os'.find? (fun p => p.1 == n) = none := by
      rw [List.find?_eq_none]; intro p hp; have := h7 p hp; simpa using this
    rw [this]
  refine ⟨told L k os', ⟨⟨⟨ks.eraseIdx j, ?_, fun t kk a hkk ha => ?_, fun t t2 n ht1 ht2 => ?_, fun p' hp' => ⟨?_, fun t ht1 => ?_⟩⟩, hnd⟩, ?_⟩, told_len _ _ _, fun i hi hp hv => ?_⟩
  rotate_right
  · rw [hother i hi (fun e => by
      subst e
      obtain ⟨ver, cp, q1, q2⟩ := hAt
      exact hv _ _ q1) (fun p' hp' e => by
      obtain ⟨o, ho, _⟩ := hos.mem p' hp'
      exact hp _ ho e), List.getElem?_eq_getElem hi]; rfl
  · rw [List.length_eraseIdx, List.length_eraseIdx]; simp [h1]
  · obtain ⟨t2, e1, e2, e3⟩ : ∃ t2 : Nat, t2 ≠ j ∧ ks[t2]? = some kk ∧ as[t2]? = some a := by
      rw [List.getElem?_eraseIdx] at hkk ha
      by_cases hlt : t < j
      · rw [if_pos hlt] at hkk ha; exact ⟨t, by omega, hkk, ha⟩
      · rw [if_neg hlt] at hkk ha; exact ⟨t + 1, by omega, hkk, ha⟩
    have hat := h2 t2 kk a e2 e3
    cases kk with
    | none => exact hat
    | some n =>
      have hlt := hat.lt
      obtain ⟨ver, cp, q1, q2⟩ := hat
      refine ⟨ver, cp, q1, ?_⟩
      rw [hother n hlt (fun e => e1 (h3 t2 j n e2 (by rw [hk, e]))) (fun p' hp' e => hkeys p' hp' t2 (by rw [e2, e])), q2]; rfl
  · have key : ∀ t : Nat, (ks.eraseIdx j)[t]? = some (some n) → ∃ t2 : Nat, ks[t2]? = some (some n) ∧ t2 = if t < j then t else t + 1 := fun t ht => by
      rw [List.getElem?_eraseIdx] at ht
      by_cases hlt : t < j
      · rw [if_pos hlt] at ht; exact ⟨t, ht, by rw [if_pos hlt]⟩
      · rw [if_neg hlt] at ht; exact ⟨t + 1, ht, by rw [if_neg hlt]⟩
    obtain ⟨a, a1, a2⟩ := key t ht1
    obtain ⟨b, b1, b2⟩ := key t2 ht2
    have := h3 a b n a1 b1
    subst this
    split at a2 <;> split at b2 <;> omega
  · obtain ⟨o, ho, _⟩ := hos.mem p' hp'
    have hlt := (List.getElem?_eq_some_iff.1 (h4 _ ho).1).1
    rw [told_get hlt, if_neg (fun e => hkeys p' hp' j (by rw [hk, e])), hfind p' hp']
  · rw [List.getElem?_eraseIdx] at ht1
    split at ht1
    · exact hkeys p' hp' _ ht1
    · exact hkeys p' hp' _ ht1
  · refine weak_map (σ := ⟨t, ⟨lv, L, E⟩, [], e0⟩) (v := v) (r := .sl sz xs false) (told_len _ _ _) (fun m o' hm => ?_) ht rfl (fun W g hG hown hf c hc => ?_)
    · have hlt : m < L.length := by have := (List.getElem?_eq_some_iff.1 hm).1; rw [told_len] at this; exact this
      rw [told_get hlt] at hm
      injection hm with hm
      split at hm
      · cases hm
      · split at hm
        · rename_i p hp
          injection hm with hm
          have hp1 := List.find?_some hp
          simp at hp1
          obtain ⟨o, ho, hfo⟩ := hos.mem p (List.mem_of_find?_eq_some hp)
          refine ⟨o, ?_, by rw [← hm]; exact hfo⟩
          have := (h4 _ ho).1
          rw [hp1] at this; exact this
        · refine ⟨o', ?_, .inl rfl⟩
          show L[m]? = _
          rw [List.getElem?_eq_getElem hlt] at hm ⊢
          simp at hm; rw [hm]
    · cases k with
      | none =>
        rcases hAt with ⟨q1, q2⟩ | ⟨q1, _⟩
        · simp only at q1 q2; subst q1; subst q2; exact (VLe.nil _ _).rel (hf hc)
        · simp only at q1; subst q1; exact (VLe.full _ _).rel (hf hc)
      | some i =>
        obtain ⟨ver, cp, q1, q2⟩ := hAt
        simp only at q1 q2
        subst q1
        have hg : Heap.get ⟨lv, L, E⟩ lv i = some (.arr ver ty sz xs cp) := by unfold Heap.get; rw [if_pos rfl, q2]; rfl
        have hi := (List.getElem?_eq_some_iff.1 q2).1
        have hno : ¬ Own g ⟨lv, told L (some i) os', E⟩ (g.ab lv i) := fun ⟨l, i', o', ho', hob⟩ => by
          have hgot : ∃ o, Heap.get ⟨lv, L, E⟩ l i' = some o ∧ o'.blk g l i' = o.blk g l i' ∧ ¬ (l = lv ∧ i' = i) := by
            unfold Heap.get at ho' ⊢
            dsimp only at ho' ⊢
            by_cases hl : l = lv
            · rw [if_pos hl] at ho' ⊢
              cases hq : (told L (some i) os')[i']? with
              | none => rw [hq] at ho'; simp at ho'
              | some q =>
                have hlt : i' < L.length := by have := (List.getElem?_eq_some_iff.1 hq).1; rw [told_len] at this; exact this
                rw [told_get hlt] at hq
                injection hq with hq
                rw [told_get hlt] at ho'
                simp only [Option.join_some] at ho'
                split at ho'
                · cases ho'
                · rename_i hne
                  split at ho'
                  · rename_i p hp
                    injection ho' with ho'
                    have hp1 := List.find?_some hp
                    simp at hp1
                    obtain ⟨o, ho, hfo⟩ := hos.mem p (List.mem_of_find?_eq_some hp)
                    have := (h4 _ ho).1
                    rw [hp1] at this
                    exact ⟨o, by rw [this]; rfl, by rw [← ho']; exact hfo.blk g l i', fun e => hne (by rw [e.2])⟩
                  · exact ⟨o', ho', rfl, fun e => hne (by rw [e.2])⟩
            · rw [if_neg hl] at ho' ⊢
              exact ⟨o', ho', rfl, fun e => hl e.1⟩
          obtain ⟨o, w1, w2, w3⟩ := hgot
          exact w3 (hG.inj _ _ _ _ _ _ w1 hg (by rw [← w2]; exact hob))
        cases hc with
        | hs _ _ _ _ _ _ a m cap hd hv ha =>
          obtain ⟨rfl, rfl, ⟨hcap', hcap2, hff⟩, hle⟩ := ha _ _ _ _ hg
          obtain ⟨cur, k1, k2, k3, k3', k4, k5, k6⟩ := arr_rel hG hg
          have cells : ∀ (j : Nat) (y : V) (t : Nat) (u : V), xs[j]? = some y → y.cells[t]? = some u → Rel W g ⟨lv, told L (some i) os', E⟩ u (cur.getD (j * sz + t) undef) ∧ (cur.getD (j * sz + t) undef).oneCell' = true ∧ j * sz + t < cur.size := fun j y t u hj ht => by
            have hjl := (List.getElem?_eq_some_iff.1 hj).1
            have hxl := k6.1 _ _ hj
            have htl := (List.getElem?_eq_some_iff.1 ht).1
            refine ⟨hf (k6.2.2 _ _ _ _ hj ht), k6.2.1 _ _ _ _ hj ht, ?_⟩
            rw [k3]; exact idx_lt (by omega) (by omega)
          refine .sl sz xs false (g.ab lv i) (0 * sz) cap (fun j t => cur.getD (j * sz + t) undef) hno k2 (by omega) (by simp) (fun j y hj => k6.1 _ _ hj) (fun j y t u hj ht => ?_) (fun j y t u hj ht => (cells j y t u hj ht).2.1) (fun j y t u hj ht => (cells j y t u hj ht).1)
          have := cell_of k1 (cells j y t u hj ht).2.2
          rw [← this]; congr 2; omega

theorem AccG.freeze {lv : Nat} {L : List (Option AObj)} {as : List AccE} {os os' : List (Nat × AObj)} (h : AccG lv L as os) {j ty sz : Nat} {v : V} {xs : List V} {w : Bool} (hj : as[j]? = some ⟨ty, sz, v, xs, w⟩) {t t' : List V}
    (ht : FVL v (.sl sz xs false) t t') (hos : FOL v (.sl sz xs false) os os') (E e0 : Nat → Nat → Option AObj) : ∃ L', AccG lv L' (as.eraseIdx j) os' ∧ Weak ⟨t, ⟨lv, L, E⟩, [], e0⟩ ⟨t', ⟨lv, L', E⟩, [], e0⟩ := by
  obtain ⟨L', h1, _⟩ := h.freezeX hj ht hos E e0
  exact ⟨L', h1⟩

/-- nil slices in objects are told as empty ones -/
theorem AccG.denil {lv : Nat} {L : List (Option AObj)} {as : List AccE} {os os' : List (Nat × AObj)} (h : AccG lv L as os) (sz : Nat) {t : List V} (hos : FOL .nils (.sl sz [] false) os os') (E e0 : Nat → Nat → Option AObj) :
    ∃ L', AccG lv L' as os' ∧ Weak ⟨t, ⟨lv, L, E⟩, [], e0⟩ ⟨t, ⟨lv, L', E⟩, [], e0⟩ := by
  obtain ⟨L', h1, h2⟩ := (h.cons 0 sz false).freeze (j := 0) rfl (t := t) (t' := t) (.refl' t) hos E e0
  exact ⟨L', h1, h2⟩
theorem args2 {W : World} {g : Gh} {H : Heap} {u v : V} {cs : Array Value} (h : RelA W g H [u, v] cs) : ∃ x y, cs = #[x, y] ∧ Rel W g H u x ∧ Rel W g H v y := by
  obtain ⟨h1, h2⟩ := h
  cases cs with | mk l =>
  match l, h1 with
  | [x, y], _ => exact ⟨x, y, rfl, h2 0 u rfl, h2 1 v rfl⟩
/-! ### maps by strings -/
theorem findV_str {T : Type} (f : T → V) (k : List UInt8) : ∀ (m : List (List UInt8 × T)) (i : Nat), findV .string (.str k) (m.map fun p => (.str p.1, f p.2)) i =
    some (match m.findIdx? (fun p => k == p.1) with | none => none | some j => (m[j]?).map fun p => (i + j, f p.2))
  | [], i => rfl
  | p :: m, i => by
    simp only [List.map_cons, findV, sameV]
    cases hk : k == p.1 with
    | true => simp [List.findIdx?_cons, hk]
    | false =>
      simp only [Bool.false_eq_true, if_false]
      rw [findV_str f k m (i + 1), List.findIdx?_cons, hk]
      simp only [Bool.false_eq_true, if_false]
      cases m.findIdx? (fun p => k == p.1) with
      | none => rfl
      | some j => simp; cases m[j]? <;> simp; omega

theorem mget_idx {T : Type} (m : List (List UInt8 × T)) (k : List UInt8) : mget m k = match m.findIdx? (fun p => k == p.1) with | none => none | some j => (m[j]?).map (·.2) := by
  unfold mget
  induction m with
  | nil => rfl
  | cons p m ih =>
    rw [List.find?_cons, List.findIdx?_cons]
    cases hk : k == p.1 with
    | true => simp
    | false =>
      simp only [Bool.false_eq_true, if_false]
      rw [ih]
      cases m.findIdx? (fun p => k == p.1) with
      | none => rfl
      | some j => simp

theorem lookup_str {T : Type} {f : T → V} {m : List (List UInt8 × T)} {H : Heap} {t kt e l i : Nat} {z : V} (ht : P.underlying t = some (.map kt e)) (hk : P.underlying kt = some .string) (hz : zeroV P e = some z) (hg : H.get l i = some (.map (m.map fun p => (.str p.1, f p.2)))) (k : List UInt8) (z0 : T) (h0 : f z0 = z) :
    pLookup P H t (.map l i) (.str k) false = some (f ((mget m k).getD z0)) ∧ pLookup P H t (.map l i) (.str k) true = some (.tup [f ((mget m k).getD z0), .bool (mget m k).isSome]) := by
  unfold pLookup
  simp only [ht, mapEs, hg, keyKind, hk, hz, findV_str, mget_idx]
  cases hq : m.findIdx? (fun p => k == p.1) with
  | none => simp [h0]
  | some j =>
    have hj : j < m.length := by
      rw [List.findIdx?_eq_some_iff_getElem] at hq; exact hq.1
    simp [hj]

theorem update_str {T : Type} {f : T → V} {m : List (List UInt8 × T)} {lv : Nat} {L : List (Option AObj)} {E : Nat → Nat → Option AObj} {t kt e i : Nat} (ht : P.underlying t = some (.map kt e)) (hk : P.underlying kt = some .string) (hg : L[i]? = some (some (.map (m.map fun p => (.str p.1, f p.2))))) (k : List UInt8) (x : T) {y : V} (hy : y = f x) :
    hMapUpdate P ⟨lv, L, E⟩ t (.map lv i) (.str k) y = some (.any, ⟨lv, L.set i (some (.map ((mput m k x).map fun p => (.str p.1, f p.2)))), E⟩) := by
  subst hy
  have hget : Heap.get ⟨lv, L, E⟩ lv i = some (.map (m.map fun p => (.str p.1, f p.2))) := by unfold Heap.get; rw [if_pos rfl, hg]; rfl
  unfold hMapUpdate
  simp only [ht, hget, keyKind, hk, findV_str, mput, Heap.set, if_true]
  cases hq : m.findIdx? (fun p => k == p.1) with
  | none => simp [putEs]
  | some j =>
    have hj : j < m.length := by
      rw [List.findIdx?_eq_some_iff_getElem] at hq; exact hq.1
    simp [putEs, hj, List.map_set]
@[simp] theorem pLen_map (t l i : Nat) (H : Heap) : pLen P H t (.map l i) = match P.underlying t with | some (.map _ _) => (match H.get l i with | some (.map es) => some (.int .i64 es.length) | _ => none) | _ => none := rfl
end
end Go.Ab
