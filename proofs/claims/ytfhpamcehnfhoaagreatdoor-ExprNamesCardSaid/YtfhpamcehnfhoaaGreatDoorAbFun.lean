import Derived.Test.YtfhpamcehnfhoaaGreatDoorAbWeak
import Derived.Deep.LoopGhost
import Derived.IntWalk
namespace Go.Ab
open Go
set_option linter.unusedSimpArgs false
set_option linter.unusedVariables false
section
variable {P : Program}

/-! ### loops -/

theorem sat_weak {c : Code} {σ τ : St} {Q : AExit → St → Prop} (hw : Weak σ τ) (h : Sat P c τ Q) : Sat P c σ Q := fun W0 g0 H0 W a g hB hS hG => by
  obtain ⟨g', h1, h2⟩ := hw W0 g0 H0 W a g hB hS hG
  exact h W0 g0 H0 W a g' hB h1 h2

/-- a loop: a relation that holds at each round's head of SOME weaker state, and a measure -/
theorem sat_loop {c : Code} {σ : St} {Q : AExit → St → Prop} (I : Nat → St → Prop) (n0 : Nat) (σ0 : St) (hw : Weak σ σ0) (h0 : I n0 σ0)
    (round : ∀ n σ, I n σ → Sat P c σ (AExit.then (fun σ' => ∃ m τ, Weak σ' τ ∧ I m τ ∧ m < n) Q)) : Sat P (.loop c) σ Q := fun W0 g0 H0 W a g hB hS hG => by
  obtain ⟨g', h1, h2⟩ := hw W0 g0 H0 W a g hB hS hG
  refine wp_loop_ghost (fun n a W => ∃ g σ, (σ.e0 = H0.E ∧ Step W0 g0 H0 W g σ.H) ∧ GoodSt W a g σ ∧ I n σ) n0 ⟨g', σ0, h1, h2, h0⟩ fun n a W ⟨g, σ, k1, k2, k3⟩ => ?_
  refine wp_mono (round n σ k3 W0 g0 H0 W a g hB k1 k2) fun e a W ⟨g, σ', e', q1, q2, q3, q4⟩ => ?_
  cases q1 with
  | normal =>
    obtain ⟨m, τ, w1, w2, w3⟩ := q4
    obtain ⟨g'', w4, w5⟩ := w1 W0 g0 H0 W a g hB q2 q3
    exact ⟨m, w3, g'', τ, w4, w5, w2⟩
  | exit id => exact ⟨g, σ', _, .exit id, q2, q3, q4⟩
  | ret => exact ⟨g, σ', _, .ret, q2, q3, q4⟩
  | panic v c hr => exact ⟨g, σ', _, .panic v c hr, q2, q3, q4⟩

/-! ### results -/

def resV (P : Program) (σ : St) : ResultVar → Option V
  | .tmp t => some (σ.t.getD t .any)
  | .cell a t => pLoad P σ.H t (σ.t.getD a .any)

def resL (P : Program) (σ : St) : List ResultVar → Option (List V)
  | [] => some []
  | r :: rs => match resV P σ r, resL P σ rs with
    | some v, some vs => some (v :: vs)
    | _, _ => none

def tupOf : List V → V
  | [v] => v
  | vs => .tup vs

def resultsV (P : Program) (fn : Func) (σ : St) : Option V := (resL P σ fn.results.toList).map tupOf

theorem tmp_rel {W : World} {a : Act} {g : Gh} {σ : St} (h : GoodSt W a g σ) (t : Nat) : Rel W g σ.H (σ.t.getD t .any) (a.tmps.getD t undef) := h.ev (.tmp t)

def resC (a : Act) : ResultVar → Sem Value
  | .tmp t => pure (a.tmps.getD t undef)
  | .cell x t => do loadVar t (← asAddr (a.tmps.getD x undef))

theorem resL_sound {W : World} {a : Act} {g : Gh} {σ : St} (h : GoodSt W a g σ) : ∀ (rs : List ResultVar) (vs : List V), resL P σ rs = some vs →
    ∃ cs : List Value, (rs.mapM (resC a) : Sem (List Value)).run P W = .ok cs W ∧ cs.length = vs.length ∧ ∀ (j : Nat) (v : V), vs[j]? = some v → ∃ c, cs[j]? = some c ∧ Rel W g σ.H v c
  | [], vs, hr => by simp only [resL, Option.some.injEq] at hr; subst hr; exact ⟨[], by simp, rfl, by simp⟩
  | r :: rs, vs, hr => by
    simp only [resL] at hr
    split at hr
    · rename_i v vs' h1 h2
      injection hr with hr; subst hr
      obtain ⟨cs, k1, k2, k3⟩ := resL_sound h rs vs' h2
      have hone : ∃ c, (resC a r).run P W = .ok c W ∧ Rel W g σ.H v c := by
        cases r with
        | tmp t =>
          simp only [resV, Option.some.injEq] at h1; subst h1
          exact ⟨_, rfl, tmp_rel h t⟩
        | cell x t =>
          simp only [resV] at h1
          obtain ⟨ad, u, e1, e2, e3⟩ := sound_load' (P := P) h.good h1 (tmp_rel h x)
          exact ⟨u, by simp only [resC, e1]; simp [asAddr, e2], e3⟩
      obtain ⟨c, q1, q2⟩ := hone
      refine ⟨c :: cs, ?_, by simp [k2], fun j u hj => ?_⟩
      · simp only [List.mapM_cons, Sem.run_bind, Sem.run_pure, q1, Result.andThen_ok, k1]
      · cases j with
        | zero => simp at hj; subst hj; exact ⟨c, rfl, q2⟩
        | succ j => obtain ⟨c', z1, z2⟩ := k3 j u (by simpa using hj); exact ⟨c', by simpa using z1, z2⟩
    · cases hr

theorem results_sound {W : World} {a : Act} {g : Gh} {σ : St} {fn : Func} {v : V} (h : GoodSt W a g σ) (hr : resultsV P fn σ = some v) : ∃ c, (results fn a.tmps).run P W = .ok c W ∧ Rel W g σ.H v c := by
  simp only [resultsV, Option.map_eq_some_iff] at hr
  obtain ⟨vs, h1, rfl⟩ := hr
  obtain ⟨cs, k1, k2, k3⟩ := resL_sound h _ _ h1
  have hres : results fn a.tmps = (fn.results.mapM (resC a) >>= fun vs => pure (if h : vs.size = 1 then vs[0] else .tuple vs)) := by
    unfold results
    congr 2
  have hrun : (fn.results.mapM (resC a) : Sem (Array Value)).run P W = .ok cs.toArray W := by
    rw [Array.mapM_eq_mapM_toList]
    simp only [Sem.run_map, k1, Result.andThen_ok]
  match vs, k2, k3 with
  | [v], k2, k3 =>
    obtain ⟨c, hc, hrel⟩ := k3 0 v rfl
    obtain ⟨c', rfl⟩ : ∃ c', cs = [c'] := by match cs, k2 with | [c'], _ => exact ⟨c', rfl⟩
    simp only [List.getElem?_cons_zero, Option.some.injEq] at hc; subst hc
    exact ⟨c', by rw [hres, Sem.run_bind, hrun]; rfl, hrel⟩
  | [], k2, k3 =>
    have : cs = [] := List.eq_nil_of_length_eq_zero k2
    subst this
    exact ⟨.tuple #[], by rw [hres, Sem.run_bind, hrun]; rfl, .tup [] _ rfl (by simp)⟩
  | v :: w :: vs, k2, k3 =>
    refine ⟨.tuple cs.toArray, ?_, .tup _ _ (by simpa using k2) fun j u hj => ?_⟩
    · rw [hres, Sem.run_bind, hrun, Result.andThen_ok]
      have : ¬ cs.toArray.size = 1 := by simp at k2 ⊢; omega
      rw [dif_neg this]; rfl
    · obtain ⟨c, hc, hrel⟩ := k3 j u hj
      rw [Array.getD_eq_getD_getElem?]; simpa [hc] using hrel

/-! ### back to the caller: local objects are dropped, local arrays sealed -/

inductive VS (H : Heap) (D : Nat → Nat → Prop) : V → V → Prop where
  | keep (v : V) (h : V.kin D v) : VS H D v v
  | any (v : V) : VS H D v .any
  | nil (sz : Nat) (b : Bool) : VS H D .nils (.sl sz [] b)
  | hs (l i ver ty sz off n : Nat) (full : Bool) (xs ys : List V) (cp : Option Nat) (hl : l = H.lv) (hg : H.get l i = some (.arr ver ty sz xs cp)) (hn : ys.length = n)
      (h1 : ∀ (j : Nat) (x y : V), xs[off + j]? = some x → ys[j]? = some y → x.cells.length = y.cells.length) (h2 : ∀ (j : Nat) (x y : V) (t : Nat) (v u : V), xs[off + j]? = some x → ys[j]? = some y → x.cells[t]? = some v → y.cells[t]? = some u → VS H D v u) :
      VS H D (.hs l i ver off n full) (.sl sz ys false)
  | sl (sz : Nat) (xs ys : List V) (b : Bool) (hn : xs.length = ys.length) (h1 : ∀ (j : Nat) (x y : V), xs[j]? = some x → ys[j]? = some y → x.cells.length = y.cells.length)
      (h2 : ∀ (j : Nat) (x y : V) (t : Nat) (v u : V), xs[j]? = some x → ys[j]? = some y → x.cells[t]? = some v → y.cells[t]? = some u → VS H D v u) : VS H D (.sl sz xs b) (.sl sz ys false)
  | agg (vs us : List V) (hn : vs.length = us.length) (h : ∀ (j : Nat) (v u : V), vs[j]? = some v → us[j]? = some u → VS H D v u) : VS H D (.agg vs) (.agg us)
  | tup (vs us : List V) (hn : vs.length = us.length) (h : ∀ (j : Nat) (v u : V), vs[j]? = some v → us[j]? = some u → VS H D v u) : VS H D (.tup vs) (.tup us)

theorem VS.rel {W : World} {g g' : Gh} {H H' : Heap} {D : Nat → Nat → Prop} (hGood : Good W g H) (hdom : ∀ l i, D l i → g.dom l i → g'.dom l i) (hblk : ∀ l i, D l i → g'.blk l i = g.blk l i) (hab : ∀ l i, D l i → g'.ab l i = g.ab l i) (hcap : ∀ l i, D l i → g'.cap l i = g.cap l i)
    (hget : ∀ l i, D l i → H'.get l i = H.get l i) (hown : ∀ b, Own g' H' b → Own g H b) (hloc : ∀ i o, H.get H.lv i = some o → ¬ Own g' H' (o.blk g H.lv i)) {v u : V} (h : VS H D v u) : ∀ {c : Value}, Rel W g H v c → Rel W g' H' u c := by
  induction h with
  | keep v hk => intro c hc; exact hc.restrict hdom hblk hab hcap hget hown hk
  | any v => exact fun _ => .any _
  | nil sz b => intro c hc; cases hc; exact .slnil _ _
  | hs l i ver ty sz off n full xs ys cp hl hg hn h1 h2 ih =>
    intro c hc
    subst hl
    cases hc with
    | hs _ _ _ _ _ _ a m cap hd hv ha =>
      obtain ⟨rfl, rfl, ⟨hcap', hcap2, hff⟩, hle⟩ := ha _ _ _ _ hg
      obtain ⟨cur, k1, k2, k3, k3', k4, k5, k6⟩ := arr_rel hGood hg
      have get : ∀ j y, ys[j]? = some y → ∃ x, xs[off + j]? = some x ∧ j < m := fun j y hj => by
        have := (List.getElem?_eq_some_iff.1 hj).1
        exact ⟨_, List.getElem?_eq_getElem (by omega), by omega⟩
      have cells : ∀ (j : Nat) (y : V) (t : Nat) (u : V), ys[j]? = some y → y.cells[t]? = some u → ∃ x v, xs[off + j]? = some x ∧ x.cells[t]? = some v ∧ VS H D v u ∧ Rel W g' H' u (cur.getD ((off + j) * sz + t) undef) ∧ (cur.getD ((off + j) * sz + t) undef).oneCell' = true ∧ (off + j) * sz + t < cur.size := fun j y t u hj ht => by
        obtain ⟨x, hx, hjm⟩ := get j y hj
        have hl := h1 j x y hx hj
        have hxl := k6.1 _ _ hx
        have htl := (List.getElem?_eq_some_iff.1 ht).1
        have hv' : x.cells[t]? = some (x.cells[t]'(by omega)) := List.getElem?_eq_getElem _
        refine ⟨x, _, hx, hv', h2 j x y t _ u hx hj hv' ht, ih j x y t _ u hx hj hv' ht (k6.2.2 _ _ _ _ hx hv'), k6.2.1 _ _ _ _ hx hv', ?_⟩
        rw [k3]; exact idx_lt (by omega) (by omega)
      rw [← hn]
      refine .sl sz ys false (g.ab H.lv i) (off * sz) cap (fun j t => cur.getD ((off + j) * sz + t) undef) (fun ho => hloc i _ hg ho) k2 (by omega) (by simp) (fun j y hj => ?_) (fun j y t u hj ht => ?_) (fun j y t u hj ht => ?_) (fun j y t u hj ht => ?_)
      · obtain ⟨x, hx, _⟩ := get j y hj; rw [← h1 j x y hx hj]; exact k6.1 _ _ hx
      · obtain ⟨x, v, _, _, _, _, _, e⟩ := cells j y t u hj ht
        have := cell_of k1 e
        rw [← this]; congr 2; rw [Nat.add_mul]; try omega
      · obtain ⟨x, v, _, _, _, _, e, _⟩ := cells j y t u hj ht; exact e
      · obtain ⟨x, v, _, _, _, e, _, _⟩ := cells j y t u hj ht; exact e
  | sl sz xs ys b hn h1 h2 ih =>
    intro c hc
    have get : ∀ j y, ys[j]? = some y → ∃ x, xs[j]? = some x := fun j y hj => by
      have := (List.getElem?_eq_some_iff.1 hj).1
      exact ⟨_, List.getElem?_eq_getElem (by omega)⟩
    cases hc with
    | slnil => have : ys = [] := List.eq_nil_of_length_eq_zero (by simpa using hn.symm); subst this; exact .slnil _ _
    | sle _ _ a cap hf => have : ys = [] := List.eq_nil_of_length_eq_zero (by simpa using hn.symm); subst this; exact .sle _ _ a cap (by simp)
    | sl _ _ _ bl o cap c hb hz hcp hf hs hc ho1 hr =>
      have cells : ∀ (j : Nat) (y : V) (t : Nat) (u : V), ys[j]? = some y → y.cells[t]? = some u → ∃ x v, xs[j]? = some x ∧ x.cells[t]? = some v := fun j y t u hj ht => by
        obtain ⟨x, hx⟩ := get j y hj
        have hl := h1 j x y hx hj
        have htl := (List.getElem?_eq_some_iff.1 ht).1
        exact ⟨x, _, hx, List.getElem?_eq_getElem (by omega)⟩
      rw [hn] at hcp ⊢
      refine .sl sz ys false bl o cap c (fun h => hb (hown bl h)) hz hcp (by simp) (fun j y hj => ?_) (fun j y t u hj ht => ?_) (fun j y t u hj ht => ?_) (fun j y t u hj ht => ?_)
      · obtain ⟨x, hx⟩ := get j y hj; rw [← h1 j x y hx hj]; exact hs _ _ hx
      · obtain ⟨x, v, e1, e2⟩ := cells j y t u hj ht; exact hc _ _ _ _ e1 e2
      · obtain ⟨x, v, e1, e2⟩ := cells j y t u hj ht; exact ho1 _ _ _ _ e1 e2
      · obtain ⟨x, v, e1, e2⟩ := cells j y t u hj ht; exact ih j x y t v u e1 hj e2 ht (hr _ _ _ _ e1 e2)
  | agg vs us hn h ih =>
    intro c hc
    cases hc with
    | agg _ cs hs h1 hr =>
      have get : ∀ j u, us[j]? = some u → ∃ v, vs[j]? = some v := fun j u hj => by
        have := (List.getElem?_eq_some_iff.1 hj).1
        exact ⟨_, List.getElem?_eq_getElem (by omega)⟩
      refine .agg _ cs (by omega) (fun j u hj => ?_) (fun j u hj => ?_)
      · obtain ⟨v, hv⟩ := get j u hj; exact h1 j v hv
      · obtain ⟨v, hv⟩ := get j u hj; exact ih j v u hv hj (hr j v hv)
  | tup vs us hn h ih =>
    intro c hc
    cases hc with
    | tup _ cs hs hr =>
      refine .tup _ cs (by omega) (fun j u hj => ?_)
      have hlt := (List.getElem?_eq_some_iff.1 hj).1
      have hv : vs[j]? = some (vs[j]'(by omega)) := List.getElem?_eq_getElem _
      exact ih j _ u hv hj (hr j _ hv)

/-! ### a function -/

/-- outer keys -/
def outer (lv : Nat) (l _i : Nat) : Prop := l ≤ lv

/-- a function's end, told to its caller: the memory H' -/
structure Back (H H' : Heap) (σ : St) (v r : V) : Prop where
  res : VS σ.H (outer H.lv) v r
  get : ∀ l i, l ≤ H.lv → H'.get l i = σ.H.E l i
  lv : H'.lv = H.lv
  len : H'.L.length = H.L.length
  same : ∀ l i o, l ≤ H.lv → σ.H.E l i = some o → H.get l i = some o ∨ o.kin (outer H.lv)
  high : ∀ l i, H.lv < l → H'.E l i = H.E l i

def Fin (P : Program) (fn : Func) (H H' : Heap) (r : V) (e : AExit) (σ : St) : Prop :=
  match e with
  | .normal | .ret => ∃ v, resultsV P fn σ = some v ∧ σ.d = [] ∧ Back H H' σ v r
  | _ => False

theorem good_enter {W : World} {g : Gh} {H : Heap} (h : Good W g H) : Good W g ⟨H.lv + 1, [], H.get⟩ ∧ (∀ l i, Heap.get ⟨H.lv + 1, [], H.get⟩ l i = H.get l i) ∧ ∀ {v : V} {c : Value}, Rel W g H v c → Rel W g ⟨H.lv + 1, [], H.get⟩ v c := by
  have hget : ∀ l i, Heap.get ⟨H.lv + 1, [], H.get⟩ l i = H.get l i := fun l i => by
    show (if l = H.lv + 1 then _ else _) = _
    split
    · rename_i hl
      subst hl
      cases hq : H.get (H.lv + 1) i with
      | none => simp
      | some o => rcases h.fresh _ _ (h.dom _ _ _ hq) with q | ⟨q, _⟩ <;> omega
    · rfl
  have hown : ∀ b, Own g ⟨H.lv + 1, [], H.get⟩ b → Own g H b := fun b ⟨l, i, o, ho, hb⟩ => ⟨l, i, o, by rw [← hget]; exact ho, hb⟩
  have hrel : ∀ {v : V} {c : Value}, Rel W g H v c → Rel W g ⟨H.lv + 1, [], H.get⟩ v c := fun hr =>
    Rel.restrict (D := g.dom) (g' := g) (fun _ _ _ h => h) (fun _ _ _ => rfl) (fun _ _ _ => rfl) (fun _ _ _ => rfl) (fun l i _ => hget l i) hown hr hr.kin
  refine ⟨⟨fun l i o ho => h.dom l i o (by rw [← hget]; exact ho), fun l i o ho => h.lt l i o (by rw [← hget]; exact ho), fun l i o l' i' o' h1 h2 hb => h.inj l i o l' i' o' (by rw [← hget]; exact h1) (by rw [← hget]; exact h2) hb, fun l i hd => ?_, fun l i o ho => ?_, h.glob.fewer hown⟩, hget, hrel⟩
  · left
    show l < H.lv + 1
    rcases h.fresh l i hd with q | ⟨q, _⟩ <;> omega
  · rw [hget] at ho
    exact ORel.restrict (D := g.dom) (g' := g) (fun _ _ _ h => h) (fun _ _ => rfl) (fun _ _ => rfl) (fun _ _ => rfl) (fun l i _ => hget l i) hown (h.obj l i o ho) (h.obj l i o ho).kin

theorem back_sound {W W' : World} {g g1 : Gh} {H H' : Heap} {σ : St} {v r : V} {c : Value} (hG : Good W g H) (hlv : σ.H.lv = H.lv + 1) (hst : Step W g ⟨H.lv + 1, [], H.get⟩ W' g1 σ.H) (hG1 : Good W' g1 σ.H) (hb : Back H H' σ v r) (hr : Rel W' g1 σ.H v c) :
    ∃ g2, Step W g H W' g2 H' ∧ Good W' g2 H' ∧ Rel W' g2 H' r c := by
  obtain ⟨hGe, hge, hre⟩ := good_enter hG
  let g2 : Gh := { g1 with dom := g.dom }
  have hbl : ∀ l i (o : AObj), o.blk g2 l i = o.blk g1 l i := fun l i o => by cases o <;> rfl
  have hgd : ∀ l i, g.dom l i → l ≤ H.lv := fun l i h => by rcases hG.fresh l i h with q | ⟨q, _⟩ <;> omega
  have hget : ∀ l i, l ≤ H.lv → H'.get l i = σ.H.get l i := fun l i hl => by
    rw [hb.get l i hl]
    unfold Heap.get
    rw [if_neg (by omega)]
  have hge2 : ∀ l i o, H'.get l i = some o → l ≤ H.lv := fun l i o ho => by
    rcases Nat.lt_or_ge H.lv l with q | q
    · unfold Heap.get at ho
      rw [if_neg (by rw [hb.lv]; omega), hb.high l i q] at ho
      have : H.get l i = some o := by unfold Heap.get; rw [if_neg (by omega)]; exact ho
      exact hgd l i (hG.dom l i o this)
    · exact q
  have hdom : ∀ l i, l ≤ H.lv → g1.dom l i → g.dom l i := fun l i hl hd => by
    rcases hst.new l i hd with q | q
    · exact q
    · simp only at q; omega
  have hown : ∀ b, Own g2 H' b → Own g1 σ.H b := fun b ⟨l, i, o, ho, hob⟩ => ⟨l, i, o, by rw [← hget l i (hge2 l i o ho)]; exact ho, by rw [← hbl]; exact hob⟩
  have hloc : ∀ i o, σ.H.get σ.H.lv i = some o → ¬ Own g2 H' (o.blk g1 σ.H.lv i) := fun i o ho ⟨l, i', o', ho', hob⟩ => by
    have hl := hge2 l i' o' ho'
    rw [hget l i' hl] at ho'
    rw [hbl] at hob
    have := (hG1.inj _ _ _ _ _ _ ho' ho hob).1
    omega
  have hkin : ∀ l i o, H'.get l i = some o → o.kin (outer H.lv) := fun l i o ho => by
    have hl := hge2 l i o ho
    have hE : σ.H.E l i = some o := by rw [← hb.get l i hl]; exact ho
    rcases hb.same l i o hl hE with q | q
    · exact AObj.kin_mono (fun l i h => hgd l i h) (hG.obj l i o q).kin
    · exact q
  have hObj : ∀ l i o, H'.get l i = some o → ORel W' g2 H' l i o := fun l i o ho => by
    have hl := hge2 l i o ho
    have := hG1.obj l i o (by rw [← hget l i hl]; exact ho)
    exact ORel.restrict (D := outer H.lv) (g' := g2) (fun l i hk hd => hdom l i hk hd) (fun _ _ => rfl) (fun _ _ => rfl) (fun _ _ => rfl) (fun l i hk => hget l i hk) hown this (hkin l i o ho)
  refine ⟨g2, ⟨hst.os, hst.tape, hst.output, hst.size, fun b hb' hn => hst.block b hb' (fun ⟨l, i, o, ho, hob⟩ => hn ⟨l, i, o, by rw [← hge]; exact ho, hob⟩), fun b hb' => ?_, fun _ _ h => h, fun _ _ h => .inl h, fun l i hd => hst.blk l i hd, fun l i ver ty sz xs cp hd hg => ?_, hb.lv⟩, ⟨fun l i o ho => ?_, fun l i o ho => ?_, fun l i o l' i' o' h1 h2 h3 => ?_, fun l i hd => ?_, hObj, hG1.glob.fewer hown⟩, ?_⟩
  · rcases hst.own b (hown b hb') with ⟨l, i, o, ho, hob⟩ | q
    · exact .inl ⟨l, i, o, by rw [← hge]; exact ho, hob⟩
    · exact .inr q
  · have hl := hgd l i hd
    obtain ⟨v', ys, cp', h1, h2, h3⟩ := hst.arr l i ver ty sz xs cp hd (by rw [← hget l i hl]; exact hg)
    exact ⟨v', ys, cp', by rw [← hge]; exact h1, h2, h3⟩
  · have hl := hge2 l i o ho
    exact hdom l i hl (hG1.dom l i o (by rw [← hget l i hl]; exact ho))
  · have hl := hge2 l i o ho
    rw [hbl]; exact hG1.lt l i o (by rw [← hget l i hl]; exact ho)
  · rw [hbl, hbl] at h3
    exact hG1.inj l i o l' i' o' (by rw [← hget l i (hge2 l i o h1)]; exact h1) (by rw [← hget l' i' (hge2 l' i' o' h2)]; exact h2) h3
  · rw [hb.lv, hb.len]; exact hG.fresh l i hd
  · exact VS.rel (g' := g2) hG1 (fun l i hk hd => hdom l i hk hd) (fun _ _ _ => rfl) (fun _ _ _ => rfl) (fun _ _ _ => rfl) (fun l i hk => hget l i hk) hown hloc hb.res hr

/-- a function, by its body -/
theorem hcall_of_body {f : Nat} {fn : Func} {c : Code} {n : Nat} (hf : P.funcs[f]? = some fn) (hb : fn.body = some c) (hnt : fn.ntmps = n) (hent : ∀ args w, (callFunc f args).run P w = .ok (.enter f args) w) {args : List V} {H H' : Heap} {r : V}
    (h : Sat P c ⟨args ++ List.replicate (n - args.length) .any, ⟨H.lv + 1, [], H.get⟩, [], H.get⟩ (Fin P fn H H' r)) : HCall P f args H r H' := by
  intro W g cargs hG hA
  subst hnt
  refine .inl ⟨hent cargs W, calls_of_wp hf hb ?_⟩
  obtain ⟨hGe, hge, hre⟩ := good_enter hG
  have hst0 : Step W g ⟨H.lv + 1, [], H.get⟩ W g ⟨H.lv + 1, [], H.get⟩ := .refl _ _ _
  have hgs : GoodSt W { tmps := cargs ++ Array.replicate (fn.ntmps - cargs.size) undef, defers := [] } g ⟨args ++ List.replicate (fn.ntmps - args.length) .any, ⟨H.lv + 1, [], H.get⟩, [], H.get⟩ := by
    refine ⟨hGe, by simp [hA.1], fun j v hj => ?_, rfl, by simp⟩
    rw [List.getElem?_append] at hj
    split at hj
    · rename_i hlt
      rw [getD_append_left (by rw [hA.1]; exact hlt)]
      exact hre (hA.2 j v hj)
    · rw [List.getElem?_replicate] at hj
      split at hj
      · injection hj with hj; subst hj; exact .any _
      · cases hj
  refine wp_mono (h W g ⟨H.lv + 1, [], H.get⟩ W _ g ⟨hGe⟩ ⟨rfl, hst0⟩ hgs) fun e a W' ⟨g1, σ, e', q1, q2, q3, q4⟩ => ?_
  have key : ∀ v, resultsV P fn σ = some v → σ.d = [] → Back H H' σ v r → a.defers = [] ∧ ∃ c, (results fn a.tmps).run P W' = .ok c W' ∧ ∃ c' g', Ending.returned c = .returned c' ∧ Step W g H W' g' H' ∧ Good W' g' H' ∧ Rel W' g' H' r c' := fun v h1 h2 h3 => by
    obtain ⟨c, k1, k2⟩ := results_sound q3 h1
    obtain ⟨g2, z1, z2, z3⟩ := back_sound hG q2.2.lv q2.2 q3.good h3 k2
    refine ⟨List.eq_nil_of_length_eq_zero (by rw [q3.dlen, h2]; rfl), c, k1, c, g2, rfl, z1, z2, z3⟩
  cases q1 with
  | normal => obtain ⟨v, h1, h2, h3⟩ := q4; exact key v h1 h2 h3
  | ret => obtain ⟨v, h1, h2, h3⟩ := q4; exact key v h1 h2 h3
  | exit id => exact q4.elim
  | panic v c hr => exact q4.elim

theorem wrI {x : Int} (h1 : -9223372036854775808 ≤ x) (h2 : x ≤ 9223372036854775807) : IntKind.i64.wrap x = x := by
  exact IntWalk.i64_in _ (by omega)
theorem wr1 {k : Nat} (h : k ≤ 4611686018427387904) : IntKind.i64.wrap ((k : Int) + 1) = (k : Int) + 1 := wrI (by omega) (by omega)

/-- a call that only computes: whatever lies in memory -/
def PCall (P : Program) (f : Nat) (args : List V) (r : V) : Prop := ∀ H, HCall P f args H r H

theorem back_pure {H : Heap} {σ : St} {v r : V} (hE : σ.H.E = H.get) (h : VS σ.H (outer H.lv) v r) : Back H H σ v r :=
  ⟨h, fun l i _ => by rw [hE], rfl, rfl, fun l i o _ ho => .inl (by rw [hE] at ho; exact ho), fun _ _ _ => rfl⟩

theorem fin_pure {fn : Func} {H : Heap} {σ : St} {v r : V} (hr : resultsV P fn σ = some v) (hd : σ.d = []) (hE : σ.H.E = H.get) (h : VS σ.H (outer H.lv) v r) : Fin P fn H H r .ret σ := ⟨v, hr, hd, back_pure hE h⟩

/-- how a function that only computes ends -/
def Ends (P : Program) (fn : Func) (lv : Nat) (E : Nat → Nat → Option AObj) (r : V) (e : AExit) (σ : St) : Prop :=
  match e with
  | .normal | .ret => ∃ v, resultsV P fn σ = some v ∧ σ.d = [] ∧ σ.H.E = E ∧ VS σ.H (outer lv) v r
  | _ => False

theorem pcall_of {f : Nat} {fn : Func} {c : Code} {n : Nat} (hf : P.funcs[f]? = some fn) (hb : fn.body = some c) (hnt : fn.ntmps = n) (hent : ∀ args w, (callFunc f args).run P w = .ok (.enter f args) w) {args : List V} {r : V}
    (h : ∀ lv E, Sat P c ⟨args ++ List.replicate (n - args.length) .any, ⟨lv + 1, [], E⟩, [], E⟩ (Ends P fn lv E r)) : PCall P f args r := fun H =>
  hcall_of_body hf hb hnt hent ((h H.lv H.get).mono fun e σ hq => by
    cases e with
    | normal => obtain ⟨v, h1, h2, h3, h4⟩ := hq; exact ⟨v, h1, h2, back_pure h3 h4⟩
    | ret => obtain ⟨v, h1, h2, h3, h4⟩ := hq; exact ⟨v, h1, h2, back_pure h3 h4⟩
    | exit id => exact hq
    | panic v => exact hq)

theorem ends {fn : Func} {lv : Nat} {E : Nat → Nat → Option AObj} {σ : St} {v r : V} (hr : resultsV P fn σ = some v) (hd : σ.d = []) (hE : σ.H.E = E) (h : VS σ.H (outer lv) v r) : Ends P fn lv E r .ret σ := ⟨v, hr, hd, hE, h⟩
theorem ends' {fn : Func} {lv : Nat} {E : Nat → Nat → Option AObj} {σ : St} {v r : V} (hr : resultsV P fn σ = some v) (hd : σ.d = []) (hE : σ.H.E = E) (h : VS σ.H (outer lv) v r) : Ends P fn lv E r .normal σ := ⟨v, hr, hd, hE, h⟩

end
end Go.Ab
