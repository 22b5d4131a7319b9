/-
  A LOOP OVER A MAP OF OURS, in whatever order it comes.
-/
import Derived.Test.YtoimblncdeimoaaAbGhost
import Derived.Maps.RangeRun
namespace Go.Ab
open Go
set_option linter.unusedSimpArgs false
set_option linter.unusedVariables false

theorem Rel.cells {W W' : World} {g : Gh} {H : Heap} (hc : ∀ a, W'.cell? a = W.cell? a) {v : V} {c : Value} (h : Rel W g H v c) : Rel W' g H v c := by
  induction h with
  | any c => exact .any c
  | bool b => exact .bool b
  | int k n => exact .int k n
  | str s => exact .str s
  | nilp => exact .nilp
  | ptr l i off hd => exact .ptr l i off hd
  | ref cs off b o c hb hcc h1 hr ih => exact .ref cs off b o c hb (fun j v hj => by rw [hc]; exact hcc j v hj) h1 ih
  | ap l i ver idx off a hd hv ha => exact .ap l i ver idx off a hd hv ha
  | nils => exact .nils
  | slnil sz full => exact .slnil sz full
  | sle sz full a cap hf => exact .sle sz full a cap hf
  | sl sz xs full b o cap c hb hz hcap hf hs hcc h1 hr ih => exact .sl sz xs full b o cap c hb hz hcap hf hs (fun j x t v hj ht => by rw [hc]; exact hcc j x t v hj ht) h1 ih
  | hs l i ver off n full a m cap hd hv ha => exact .hs l i ver off n full a m cap hd hv ha
  | mapn => exact .mapn
  | map l i hd => exact .map l i hd
  | fn f fs cs fs' cs' h1 h2 r1 r2 i1 i2 => exact .fn f fs cs fs' cs' h1 h2 i1 i2
  | nilf => exact .nilf
  | iface t v c h ih => exact .iface t v c ih
  | nili => exact .nili
  | agg vs cs hn h1 hr ih => exact .agg vs cs hn h1 ih
  | tup vs cs hn hr ih => exact .tup vs cs hn ih

theorem orel_cells' {W W' : World} {g : Gh} {H : Heap} (hc : ∀ a, W'.cell? a = W.cell? a) {l i : Nat} {o : AObj} (hb : W'.heap[o.blk g l i]? = W.heap[o.blk g l i]?) (ho : ORel W g H l i o) : ORel W' g H l i o := by
  cases o with
  | cells cs =>
    obtain ⟨c, ty, k1, k2, k3, k4⟩ := ho
    exact ⟨c, ty, hb.trans k1, k2, k3, fun j x hj => (k4 j x hj).cells hc⟩
  | arr ver ty sz xs cp =>
    obtain ⟨c, k1, k3, k4, k4', k5, k6, k7, k8, k9⟩ := ho
    exact ⟨c, hb.trans k1, k3, k4, k4', k5, k6, k7, k8, fun j x t v hj ht => (k9 j x t v hj ht).cells hc⟩
  | map es =>
    obtain ⟨en, clock, k1, k2, k3, k4, k5⟩ := ho
    refine ⟨en, clock, hb.trans k1, k2, k3, k4, fun j p hj => ?_⟩
    obtain ⟨e, he, m1, m2⟩ := k5 j p hj
    exact ⟨e, he, m1.cells hc, m2.cells hc⟩
  | siter s pos => exact (hb.trans ho : W'.heap[g.blk l i]? = _)

/-- a block of which nothing is told turns -/
theorem good_turn {W W' : World} {g : Gh} {H : Heap} {b : Nat} (hG : Good W g H) (hno : ¬ Own g H b) (hc : ∀ a, W'.cell? a = W.cell? a) (hsz : W.heap.size ≤ W'.heap.size) (hh : ∀ k, k ≠ b → W'.heap[k]? = W.heap[k]?) : Good W' g H :=
  ⟨hG.dom, fun l i o h => Nat.lt_of_lt_of_le (hG.lt l i o h) hsz, hG.inj, hG.fresh, fun l i o h => orel_cells' hc (hh _ fun e => hno ⟨l, i, o, h, e⟩) (hG.obj l i o h)⟩
theorem step_turn {W0 W W' : World} {g0 g : Gh} {H0 H : Heap} {b : Nat} (hS : Step W0 g0 H0 W g H) (hb : W0.heap.size ≤ b) (h1 : W'.os = W.os) (h2 : W'.tape = W.tape) (h3 : W'.output = W.output) (hsz : W.heap.size ≤ W'.heap.size) (hh : ∀ k, k ≠ b → W'.heap[k]? = W.heap[k]?) : Step W0 g0 H0 W' g H :=
  ⟨h1.trans hS.os, h2.trans hS.tape, h3.trans hS.output, Nat.le_trans hS.size hsz, fun k hk ho => by rw [hh k (by omega)]; exact hS.block k hk ho, hS.own, hS.dom, hS.new, hS.blk, hS.arr, hS.lv⟩
theorem GoodSt.turn {W W' : World} {a : Act} {g : Gh} {σ : St} (h : GoodSt W a g σ) (hG : Good W' g σ.H) (hc : ∀ a, W'.cell? a = W.cell? a) : GoodSt W' a g σ :=
  ⟨hG, h.size, fun j v hj => (h.tmps j v hj).cells hc, h.dlen, fun j f vs hj => by
    obtain ⟨caps, as, k1, k2, k3⟩ := h.defs j f vs hj
    exact ⟨caps, as, k1, k2, fun q v hq => (k3 q v hq).cells hc⟩⟩

section
variable {P : Program}
theorem wpOps_raw {ops : Array Oper} {k : Nat} {o : Oper} {σ : St} {W W' : World} {a : Act} {g : Gh} {c : Value} {Q : Exit → Act → World → Prop} (hG : GoodSt W a g σ) (ho : ops[k]? = some o) (hgd : o.guard = none) (hrun : (execOp a.eval o).run P W = .ok (.value c) W')
    (hk : wpOps P ops Q (List.range' (k + 1) (ops.size - (k + 1))) (a.put o.dst c) W') : wpOps P ops Q (List.range' k (ops.size - k)) a W := by
  have hlt : k < ops.size := by
    rcases Nat.lt_or_ge k ops.size with q | q
    · exact q
    · rw [Array.getElem?_eq_none q] at ho; cases ho
  rw [show ops.size - k = (ops.size - (k + 1)) + 1 by omega, List.range'_succ]
  simp only [wpOps, ho]
  rw [wantedV_sound hG (show wantedV ops σ o = some true by simp [wantedV, hgd]), if_pos rfl]
  left
  unfold Oper.wp
  rw [hrun]
  exact hk

def bornAt (en : Array MapEntry) (j : Nat) : Nat := (en[j]?.map (·.born)).getD 0

/-- what is true of a map and its iterator while neither is told of -/
structure XI (lv i kk : Nat) (en : Array MapEntry) (clock mb ib : Nat) (vis : List Nat) (W : World) (g : Gh) (H : Heap) : Prop where
  mblk : g.blk lv i = mb
  mdom : g.dom lv i
  iblk : g.blk lv kk = ib
  idom : g.dom lv kk
  mh : W.heap[mb]? = some (.map en clock)
  ih : W.heap[ib]? = some (.mapIter (some mb) clock (vis.map (bornAt en)).toArray clock)
  mno : ¬ Own g H mb
  ino : ¬ Own g H ib

theorem XI.step {lv i kk clock mb ib : Nat} {en : Array MapEntry} {vis : List Nat} {W W' : World} {g g' : Gh} {H H' : Heap} (h : XI lv i kk en clock mb ib vis W g H) (s : Step W g H W' g' H') : XI lv i kk en clock mb ib vis W' g' H' := by
  have hm := (Array.getElem?_eq_some_iff.1 h.mh).1
  have hi := (Array.getElem?_eq_some_iff.1 h.ih).1
  exact ⟨(s.blk _ _ h.mdom).trans h.mblk, s.dom _ _ h.mdom, (s.blk _ _ h.idom).trans h.iblk, s.dom _ _ h.idom, (s.block _ hm h.mno).trans h.mh, (s.block _ hi h.ino).trans h.ih,
    fun q => (s.own _ q).elim h.mno (by omega), fun q => (s.own _ q).elim h.ino (by omega)⟩
theorem XI.ne {lv i kk clock mb ib : Nat} {en : Array MapEntry} {vis : List Nat} {W : World} {g : Gh} {H : Heap} (h : XI lv i kk en clock mb ib vis W g H) : mb ≠ ib := fun e => by
  have h1 := h.mh; rw [e, h.ih] at h1; cases h1

/-- the heap with the map told of again -/
def Heap.showM (H : Heap) (i : Nat) (es : List (V × V)) : Heap := ⟨H.lv, H.L.set i (some (.map es)), H.E⟩
def St.showM (σ : St) (i : Nat) (es : List (V × V)) : St := ⟨σ.t, σ.H.showM i es, σ.d, σ.e0⟩

theorem GoodSt.showM {W : World} {a : Act} {g : Gh} {σ : St} {i : Nat} {es : List (V × V)} (h : GoodSt W a g σ) (hd : σ.d = []) (hG : Good W g (σ.H.showM i es)) (hf : ∀ {x : V} {c : Value}, Rel W g σ.H x c → Rel W g (σ.H.showM i es) x c) : GoodSt W a g (σ.showM i es) :=
  ⟨hG, h.size, fun j v hj => hf (h.tmps j v hj), h.dlen, fun j f vs hj => by rw [show (σ.showM i es).d = σ.d from rfl, hd] at hj; simp at hj⟩

theorem nodup_lt : ∀ (m : Nat) (l : List Nat), l.Nodup → (∀ x ∈ l, x < m) → l.length ≤ m
  | 0, l, _, h => by
    cases l with
    | nil => simp
    | cons x t => have := h x (by simp); omega
  | m + 1, l, hn, h => by
    have := nodup_lt m (l.erase m) (hn.erase m) fun x hx => by
      have h1 := h x (List.mem_of_mem_erase hx)
      have h2 : x ≠ m := fun e => by subst e; exact (hn.not_mem_erase) hx
      omega
    by_cases hm : m ∈ l
    · rw [List.length_erase_of_mem hm] at this; omega
    · rw [List.erase_of_not_mem hm] at this; omega

/-- for k, v := range m -/
theorem sat_mapRange {ops ops5 ops6 : Array Oper} {k ty d d12 d13 d14 id bid bid1 id5 id6 i lv kt vt : Nat} {x : Operand} {rest6 : Code} {σ0 σ : St} {Q : AExit → St → Prop} {es : List (V × V)} {o o5a o5b o6 : Oper}
    (hpre : runC P ops (ops.toList.take k) [] σ0 = some (σ, [], []))
    (hk : ops.size = k + 1) (ho : ops[k]? = some o) (hop : o.op = .range ty x) (hdst : o.dst = some d) (hgd : o.guard = none)
    (h5 : ops5 = #[o5a, o5b]) (h5a : o5a.op = .next (.tmp d) false) (h5ad : o5a.dst = some d12) (h5ag : o5a.guard = none) (h5b : o5b.op = .extract (.tmp d12) 0) (h5bd : o5b.dst = some d13) (h5bg : o5b.guard = none)
    (h6 : ops6[0]? = some o6) (h6a : o6.op = .entry (.tmp d)) (h6d : o6.dst = some d14) (h6g : o6.guard = none)
    (ht : P.underlying ty = some (.map kt vt)) (hx : σ.ev x = .map lv i) (hlv : σ.H.lv = lv) (hi : σ.H.L[i]? = some (some (.map es))) (hdd : σ.d = [])
    (hes : ∀ p ∈ es, ∀ (W : World) (g : Gh) (H H' : Heap) (W' : World) (g' : Gh) (c : Value), (Rel W g H p.1 c → Rel W' g' H' p.1 c) ∧ (Rel W g H p.2 c → Rel W' g' H' p.2 c))
    (hl1 : d < σ.t.length) (hl2 : d12 < σ.t.length) (hl3 : d13 < σ.t.length) (hne1 : d ≠ d12) (hne2 : d ≠ d13) (hne3 : d12 ≠ d13)
    (I : List Nat → St → Prop)
    (hI : ∀ vis τ, I vis τ → τ.H.lv = lv ∧ τ.H.L[i]? = some none ∧ τ.d = [] ∧ τ.t[d]? = some (.ptr lv σ.H.L.length 0) ∧ τ.t.length = σ.t.length ∧ τ.H.E = τ.e0)
    (h0 : I [] ⟨σ.t.set d (.ptr lv σ.H.L.length 0), ⟨lv, σ.H.L.set i none ++ [none], σ.H.E⟩, [], σ.e0⟩)
    (round : ∀ vis τ j p, I vis τ → es[j]? = some p → j ∉ vis → vis.Nodup → (∀ q ∈ vis, q < es.length) →
      SatO P ops6 1 ⟨((τ.t.set d12 (.tup [.bool true, p.1, p.2])).set d13 (.bool true)).set d14 (.tup [p.1, p.2]), τ.H, [], τ.e0⟩ (AExit.then (fun σ' => Sat P rest6 σ' (AExit.inBlock bid1 (fun e σ' => match e with
          | .normal => ∃ υ, Weak σ' υ ∧ I (vis ++ [j]) υ
          | .ret => σ'.H.lv = lv ∧ σ'.H.L[i]? = some none ∧ σ'.d = [] ∧ Q .ret (σ'.showM i es)
          | _ => False))) (AExit.inBlock bid1 (fun e σ' => match e with
          | .normal => ∃ υ, Weak σ' υ ∧ I (vis ++ [j]) υ
          | .ret => σ'.H.lv = lv ∧ σ'.H.L[i]? = some none ∧ σ'.d = [] ∧ Q .ret (σ'.showM i es)
          | _ => False))))
    (hend : ∀ vis τ, I vis τ → vis.Nodup → (∀ q ∈ vis, q < es.length) → (∀ j, j < es.length → j ∈ vis) → Q .normal ⟨(τ.t.set d12 (.tup [.bool false])).set d13 (.bool false), τ.H.showM i es, [], τ.e0⟩) :
    Sat P (.seq (.region id ops false) (.block bid (.loop (.seq (.region id5 ops5 false) (.seq (.cond (.tmp d13) .skip (.exit bid)) (.block bid1 (.seq (.region id6 ops6 false) rest6))))))) σ0 Q := by
  intro W0 g0 H0 Wa aa ga hB hSa hGa
  refine wp_seq (wp_region ?_)
  rw [List.range_eq_range', show ops.size = (ops.toList.take k).length + 1 by simp; omega, ← List.range'_append]
  refine runC_more (P := P) _ (ops.toList.take k) 0 [] [] σ0 σ [] Wa aa ga (fun j hj => by rw [List.getElem?_take, if_pos (by simp at hj; omega)]; simp) hpre (fun c hc => by cases hc) hGa hSa fun W a g hS hG => ?_
  have hlen : 0 + 1 * (ops.toList.take k).length = k := by simp; omega
  rw [hlen]
  subst hlv
  have hget : σ.H.get σ.H.lv i = some (.map es) := by unfold Heap.get; rw [if_pos rfl, hi]; rfl
  obtain ⟨en, clock, m1, m2, m3, m4, m5⟩ := hG.good.obj _ _ _ hget
  have hmx := hG.ev x
  rw [hx] at hmx
  generalize hax : a.eval x = cx at hmx
  cases hmx with
  | map _ _ hmd =>
    obtain ⟨hh1, hh2, hh3, hh4⟩ := good_hide hG.good hget
    have hmb : g.blk σ.H.lv i < W.heap.size := (Array.getElem?_eq_some_iff.1 m1).1
    have hown0 : Own g0 H0 (g.blk σ.H.lv i) ∨ W0.heap.size ≤ g.blk σ.H.lv i := hS.2.own _ ⟨_, _, _, hget, rfl⟩
    obtain ⟨q1, q2, q3, q4, q5⟩ := good_ghost hh1 (.mapIter (some (g.blk σ.H.lv i)) clock #[] clock)
    have hrun : (execOp a.eval o).run P W = .ok (.value (.pointer (some ⟨W.heap.size, 0, none⟩))) (W.alloc (.mapIter (some (g.blk σ.H.lv i)) clock #[] clock)) := by
      unfold execOp
      rw [hop]
      simp [Instr.range, run_underlying' ht, hax, getObj, Sem.run, m1, newObj]
    have hll : (σ.H.hide i).L.length = σ.H.L.length := by simp [Heap.hide]
    rw [hll, show (σ.H.hide i).lv = σ.H.lv from rfl] at q1 q2 q3 q4 q5
    generalize hg1 : g.add σ.H.lv σ.H.L.length W.heap.size 0 = g1 at q1 q2 q3 q4 q5
    have hstep1 := hh2.trans q2
    have hG1 := hG.next hstep1 q1 (v := .ptr σ.H.lv σ.H.L.length 0) (c := .pointer (some ⟨W.heap.size, 0, none⟩)) (by have := Rel.ptr (W := W.alloc (.mapIter (some (g.blk σ.H.lv i)) clock #[] clock)) (g := g1) (H := (σ.H.hide i).ghost) σ.H.lv σ.H.L.length 0 q4; rwa [q5] at this) (some d)
    have hst1 : ({ σ with H := (σ.H.hide i).ghost }.put (some d) (.ptr σ.H.lv σ.H.L.length 0) : St) = ⟨σ.t.set d (.ptr σ.H.lv σ.H.L.length 0), ⟨σ.H.lv, σ.H.L.set i none ++ [none], σ.H.E⟩, [], σ.e0⟩ := by
      simp [St.put, hdd, Heap.ghost, Heap.hide]
    rw [hst1] at hG1
    have X0 : XI σ.H.lv i σ.H.L.length en clock (g.blk σ.H.lv i) W.heap.size [] (W.alloc (.mapIter (some (g.blk σ.H.lv i)) clock #[] clock)) g1 (σ.H.hide i).ghost :=
      ⟨q2.blk _ _ hmd, q2.dom _ _ hmd, q5, q4, by rw [(Grow.alloc W _).block _ hmb]; exact m1, heap_alloc_new' W _, fun q => (q2.own _ q).elim hh4 (by omega), q3⟩
    have hib0 : W0.heap.size ≤ W.heap.size := hS.2.size
    have hr1 : List.range' k 1 = List.range' k (ops.size - k) := by rw [show ops.size - k = 1 by omega]
    rw [hr1]
    refine wpOps_raw hG ho hgd hrun ?_
    rw [show ops.size - (k + 1) = 0 by omega, hdst]
    refine wp_block (wp_loop_ghost (fun n a W' => ∃ g' τ vis, n = es.length - vis.length ∧ (τ.e0 = H0.E ∧ Step W0 g0 H0 W' g' τ.H) ∧ GoodSt W' a g' τ ∧ I vis τ ∧ vis.Nodup ∧ (∀ q ∈ vis, q < es.length) ∧ XI σ.H.lv i σ.H.L.length en clock (g.blk σ.H.lv i) W.heap.size vis W' g' τ.H) (es.length - 0)
      ⟨g1, ⟨σ.t.set d (.ptr σ.H.lv σ.H.L.length 0), ⟨σ.H.lv, σ.H.L.set i none ++ [none], σ.H.E⟩, [], σ.e0⟩, [], rfl, ⟨hS.1, hS.2.trans hstep1⟩, hG1, h0, List.nodup_nil, by simp, X0⟩ ?_)
    rintro n a2 W2 ⟨g2, τ, vis, rfl, hS2, hG2, hIv, hnd, hlt, X⟩
    obtain ⟨i1, i2, i3, i4, i5, i6⟩ := hI vis τ hIv
    have hit : a2.eval (.tmp d) = .pointer (some ⟨W.heap.size, 0, none⟩) := by
      have hr := hG2.ev (.tmp d)
      rw [show τ.ev (.tmp d) = .ptr σ.H.lv σ.H.L.length 0 by simp [St.ev, List.getD, i4]] at hr
      generalize a2.eval (.tmp d) = z at hr
      cases hr with
      | ptr _ _ _ hd' => rw [X.iblk]
    have hhold : ∀ y ∈ en.toList, y.born < clock := fun y hy => m3 y (by simpa using hy)
    have hborn : ∀ j, j < es.length → ∃ e, en[j]? = some e ∧ bornAt en j = e.born := fun j hj => by
      have hj' : j < en.size := by rw [m2]; exact hj
      exact ⟨en[j], Array.getElem?_eq_getElem hj', by simp [bornAt, hj']⟩
    have hinj : ∀ j j', j < es.length → j' < es.length → bornAt en j = bornAt en j' → j = j' := fun j j' hj hj' he => by
      obtain ⟨e, e1, e2⟩ := hborn j hj
      obtain ⟨e', e3, e4⟩ := hborn j' hj'
      exact m4 j j' e e' e1 e3 (by rw [← e2, ← e4, he])
    have hesO : ∀ (W' : World) (g' : Gh) (H' : Heap) (l' : Nat), W'.heap[g'.blk l' i]? = some (.map en clock) → ORel W' g' H' l' i (.map es) := fun W' g' H' l' hw => ⟨en, clock, hw, m2, m3, m4, fun j p hj => by
      obtain ⟨e, he, r1, r2⟩ := m5 j p hj
      have := hes p (List.mem_of_getElem? hj) W g σ.H H' W' g'
      exact ⟨e, he, (this _).1 r1, (this _).2 r2⟩⟩
    -- the map is told of again
    have hback : ∀ (W' : World) (g' : Gh) (σ' : St) (a' : Act), False ∨ (∃ v', XI σ.H.lv i σ.H.L.length en clock (g.blk σ.H.lv i) W.heap.size v' W' g' σ'.H) → σ'.H.lv = σ.H.lv → σ'.H.L[i]? = some none → σ'.d = [] → GoodSt W' a' g' σ' → Step W0 g0 H0 W' g' σ'.H →
        GoodSt W' a' g' (σ'.showM i es) ∧ Step W0 g0 H0 W' g' (σ'.showM i es).H := fun W' g' σ' a' hX e1 e2 e3 hg' hs' => by
      obtain ⟨v', hX⟩ : ∃ v', XI σ.H.lv i σ.H.L.length en clock (g.blk σ.H.lv i) W.heap.size v' W' g' σ'.H := by
        rcases hX with h | h
        · exact h.elim
        · exact h
      rw [← e1] at hX
      have hmblk : g'.blk σ'.H.lv i = g.blk σ.H.lv i := by rw [hX.mblk, e1]
      obtain ⟨s1, s2, s3⟩ := good_show (es := es) hg'.good e2 hX.mdom (en := en) (clock := clock) (by rw [hX.mblk]; exact hX.mh) (by rw [hX.mblk]; exact hX.mno) (fun H' => hesO W' g' H' _ (by rw [hX.mblk]; exact hX.mh))
      exact ⟨hg'.showM e3 s1 s2, s3 hs' (by rw [hmblk]; exact hown0)⟩
    refine wp_seq (wp_region ?_)
    subst h5
    rw [List.range_eq_range']
    have hsz2 : a2.tmps.size = τ.t.length := hG2.size
    show wpOps P #[o5a, o5b] _ (List.range' 0 ((#[o5a, o5b] : Array Oper).size - 0)) a2 W2
    rcases run_next_at (P := P) W2 o5a.type W.heap.size (g.blk σ.H.lv i) clock clock _ en clock X.ih X.mh hhold (Nat.le_refl _) with ⟨hz, hr⟩ | ⟨e, he, w1, hw1, hr⟩
    · have hall : ∀ j, j < es.length → j ∈ vis := fun j hj => by
        obtain ⟨e, e1, e2⟩ := hborn j hj
        have hno : ¬ e ∈ leftOf en (vis.map (bornAt en)).toArray := fun hm => by
          have := Array.size_pos_of_mem hm
          omega
        have hmem : e ∈ en := Array.mem_of_getElem? e1
        have : (vis.map (bornAt en)).contains e.born = true := by
          cases hc : (vis.map (bornAt en)).contains e.born
          · exact (hno (by unfold leftOf; rw [Array.mem_filter]; exact ⟨hmem, by simpa using hc⟩)).elim
          · rfl
        rw [List.contains_iff_mem, List.mem_map] at this
        obtain ⟨q, hq, hqb⟩ := this
        rw [← e2] at hqb
        rw [← hinj q j (hlt q hq) hj hqb]; exact hq
      have hex : (execOp a2.eval o5a).run P W2 = .ok (.value (.tuple #[.bool false])) W2 := by unfold execOp; rw [h5a]; simp [hit, hr]
      refine wpOps_raw hG2 (o := o5a) rfl h5ag hex ?_
      have hGa := hG2.next (.refl _ _ _) hG2.good (v := .tup [.bool false]) (c := .tuple #[.bool false]) (.tup _ _ rfl (fun j v hj => by
        cases j with
        | zero => simp at hj; subst hj; exact .bool _
        | succ j => simp at hj)) o5a.dst
      rw [h5ad] at hGa ⊢
      have hev : (a2.put (some d12) (.tuple #[.bool false])).eval (.tmp d12) = .tuple #[.bool false] := by simp [Act.put, Act.eval, hsz2, i5, hl2]
      refine wpOps_raw hGa (o := o5b) rfl h5bg (c := .bool false) (W' := W2) (by unfold execOp; rw [h5b]; simp [Instr.extract, hev]) ?_
      have hGb := hGa.next (.refl _ _ _) hGa.good (.bool false) o5b.dst
      rw [h5bd] at hGb ⊢
      have hcc : ((a2.put (some d12) (.tuple #[.bool false])).put (some d13) (.bool false)).eval (.tmp d13) = .bool false := by simp [Act.put, Act.eval, hsz2, i5, hl3]
      refine wp_seq (wp_cond_split (t := false) hcc (fun h => by cases h) (fun _ => wp_exit ?_))
      show (if bid = bid then Lift W0 g0 H0 Q .normal _ W2 else _)
      rw [if_pos rfl]
      have hstb : ({ { τ with H := τ.H }.put (some d12) (.tup [.bool false]) with H := τ.H }.put (some d13) (.bool false) : St) = ⟨(τ.t.set d12 (.tup [.bool false])).set d13 (.bool false), τ.H, [], τ.e0⟩ := by
        simp [St.put, i3]
      have hGb' : GoodSt W2 ((a2.put (some d12) (.tuple #[.bool false])).put (some d13) (.bool false)) g2 ⟨(τ.t.set d12 (.tup [.bool false])).set d13 (.bool false), τ.H, [], τ.e0⟩ := by rw [← hstb]; exact hGb
      obtain ⟨b1, b2⟩ := hback W2 g2 ⟨(τ.t.set d12 (.tup [.bool false])).set d13 (.bool false), τ.H, [], τ.e0⟩ _ (.inr ⟨vis, X⟩) i1 i2 rfl hGb' hS2.2
      exact ⟨g2, ⟨(τ.t.set d12 (.tup [.bool false])).set d13 (.bool false), τ.H.showM i es, [], τ.e0⟩, .normal, .normal, ⟨hS2.1, b2⟩, b1, hend vis τ hIv hnd hlt hall⟩
    · -- one entry
      have he2 : e ∈ en ∧ (vis.map (bornAt en)).contains e.born = false := by
        have he' : e ∈ leftOf en (vis.map (bornAt en)).toArray := by simpa using he
        unfold leftOf at he'
        rw [Array.mem_filter] at he'
        exact ⟨he'.1, by simpa using he'.2⟩
      obtain ⟨j, hjl, hje⟩ := Array.getElem_of_mem he2.1
      have hj : j < es.length := by rw [← m2]; exact hjl
      have hjs : en[j]? = some e := by rw [Array.getElem?_eq_getElem hjl, hje]
      have hbj : bornAt en j = e.born := by simp [bornAt, hjs]
      have hnv : j ∉ vis := fun hm => by
        have : e.born ∈ vis.map (bornAt en) := List.mem_map.2 ⟨j, hm, hbj⟩
        rw [← List.contains_iff_mem, he2.2] at this; cases this
      have hp : es[j]? = some es[j] := List.getElem?_eq_getElem hj
      obtain ⟨e', he', r1, r2⟩ := m5 j _ hp
      obtain rfl : e' = e := by rw [hjs] at he'; injection he' with h; exact h.symm
      have hpm := hes _ (List.mem_of_getElem? hp)
      have hib : W.heap.size < W2.heap.size := (Array.getElem?_eq_some_iff.1 X.ih).1
      have hw1h : w1.heap = W2.heap := by rcases hw1 with rfl | rfl <;> rfl
      generalize hO : Obj.mapIter (some (g.blk σ.H.lv i)) clock ((vis.map (bornAt en)).toArray.push e'.born) clock = O at hr
      have hheap : ∀ q, q ≠ W.heap.size → (Go.ChangeMaps.setBlock w1 W.heap.size O).heap[q]? = W2.heap[q]? := fun q hq => by
        show (w1.heap.setIfInBounds W.heap.size O)[q]? = _
        rw [Array.getElem?_setIfInBounds_ne (fun h => hq h.symm), hw1h]
      have hat : (Go.ChangeMaps.setBlock w1 W.heap.size O).heap[W.heap.size]? = some O := by
        show (w1.heap.setIfInBounds W.heap.size O)[W.heap.size]? = _
        rw [Array.getElem?_setIfInBounds_self_of_lt (by rw [hw1h]; exact hib)]
      have hcell : ∀ q, (Go.ChangeMaps.setBlock w1 W.heap.size O).cell? q = W2.cell? q := fun q => by
        unfold World.cell?
        by_cases hq : q.block = W.heap.size
        · rw [hq, hat, X.ih, ← hO]
        · rw [hheap _ hq]
      have hsize : W2.heap.size ≤ (Go.ChangeMaps.setBlock w1 W.heap.size O).heap.size := by
        show W2.heap.size ≤ (w1.heap.setIfInBounds W.heap.size O).size
        rw [Array.size_setIfInBounds, hw1h]; exact Nat.le_refl _
      have good3 := good_turn hG2.good X.ino hcell hsize hheap
      have st3 := hG2.turn good3 hcell
      have step3 := step_turn hS2.2 hib0 (W' := Go.ChangeMaps.setBlock w1 W.heap.size O) (by rcases hw1 with rfl | rfl <;> rfl) (by rcases hw1 with rfl | rfl <;> rfl) (by rcases hw1 with rfl | rfl <;> rfl) hsize hheap
      have X3 : XI σ.H.lv i σ.H.L.length en clock (g.blk σ.H.lv i) W.heap.size (vis ++ [j]) (Go.ChangeMaps.setBlock w1 W.heap.size O) g2 τ.H :=
        ⟨X.mblk, X.mdom, X.iblk, X.idom, by rw [hheap _ X.ne]; exact X.mh, by rw [hat, ← hO, List.map_append, List.map_singleton, hbj]; simp, X.mno, X.ino⟩
      generalize hW3 : Go.ChangeMaps.setBlock w1 W.heap.size O = W3 at *
      have hex : (execOp a2.eval o5a).run P W2 = .ok (.value (.tuple #[.bool true, e'.key, e'.val])) W3 := by unfold execOp; rw [h5a]; simp [hit, hr]
      refine wpOps_raw hG2 (o := o5a) rfl h5ag hex ?_
      have hrk : Rel W3 g2 τ.H es[j].1 e'.key := (hpm W g σ.H τ.H W3 g2 _).1 r1
      have hrv : Rel W3 g2 τ.H es[j].2 e'.val := (hpm W g σ.H τ.H W3 g2 _).2 r2
      have hGa := st3.next (.refl _ _ _) good3 (v := .tup [.bool true, es[j].1, es[j].2]) (c := .tuple #[.bool true, e'.key, e'.val]) (.tup _ _ rfl (fun q v hq => by
        match q with
        | 0 => simp at hq; subst hq; exact .bool _
        | 1 => simp at hq; subst hq; exact hrk
        | 2 => simp at hq; subst hq; exact hrv
        | q + 3 => simp at hq)) o5a.dst
      rw [h5ad] at hGa ⊢
      have hev : (a2.put (some d12) (.tuple #[.bool true, e'.key, e'.val])).eval (.tmp d12) = .tuple #[.bool true, e'.key, e'.val] := by simp [Act.put, Act.eval, hsz2, i5, hl2]
      refine wpOps_raw hGa (o := o5b) rfl h5bg (c := .bool true) (W' := W3) (by unfold execOp; rw [h5b]; simp [Instr.extract, hev]) ?_
      have hGb := hGa.next (.refl _ _ _) hGa.good (.bool true) o5b.dst
      rw [h5bd] at hGb ⊢
      have hcc : ((a2.put (some d12) (.tuple #[.bool true, e'.key, e'.val])).put (some d13) (.bool true)).eval (.tmp d13) = .bool true := by simp [Act.put, Act.eval, hsz2, i5, hl3]
      refine wp_seq (wp_cond_split (t := true) hcc (fun _ => wp_skip ?_) (fun h => by cases h))
      have hitb : ((a2.put (some d12) (.tuple #[.bool true, e'.key, e'.val])).put (some d13) (.bool true)).eval (.tmp d) = .pointer (some ⟨W.heap.size, 0, none⟩) := by
        rw [← hit]; simp [Act.put, Act.eval, Array.getD_eq_getD_getElem?, Array.getElem?_setIfInBounds_ne, hne1.symm, hne2.symm]
      refine wp_block ?_
      generalize hab : (a2.put (some d12) (.tuple #[.bool true, e'.key, e'.val])).put (some d13) (.bool true) = ab at *
      have hstb : ({ { τ with H := τ.H }.put (some d12) (.tup [.bool true, es[j].1, es[j].2]) with H := τ.H }.put (some d13) (.bool true) : St) = ⟨(τ.t.set d12 (.tup [.bool true, es[j].1, es[j].2])).set d13 (.bool true), τ.H, [], τ.e0⟩ := by
        simp [St.put, i3]
      have hGb' : GoodSt W3 ab g2 ⟨(τ.t.set d12 (.tup [.bool true, es[j].1, es[j].2])).set d13 (.bool true), τ.H, [], τ.e0⟩ := by rw [← hstb]; exact hGb
      have hnb : (en.toList.map (·.born)).Nodup := by
        rw [List.Nodup, List.pairwise_iff_getElem]
        intro q q' hq hq' hlt' heq
        have hq2 : q < en.size := by simpa using hq
        have hq2' : q' < en.size := by simpa using hq'
        have := m4 q q' _ _ (Array.getElem?_eq_getElem hq2) (Array.getElem?_eq_getElem hq2') (by simpa using heq)
        omega
      have hent := run_entry_at (P := P) W3 W.heap.size (g.blk σ.H.lv i) clock (vis.map (bornAt en)).toArray en clock e' (by rw [hat, ← hO]) X3.mh (by simpa using he2.1) hnb
      have hexe : (execOp ab.eval o6).run P W3 = .ok (.value (.tuple #[e'.key, e'.val])) W3 := by unfold execOp; rw [h6a]; simp [hitb, hent]
      have hGc := hGb'.next (.refl _ _ _) good3 (v := .tup [es[j].1, es[j].2]) (c := .tuple #[e'.key, e'.val]) (.tup _ _ rfl (fun q v hq => by
        match q with
        | 0 => simp at hq; subst hq; exact hrk
        | 1 => simp at hq; subst hq; exact hrv
        | q + 2 => simp at hq)) o6.dst
      have hreg := round vis τ j es[j] hIv hp hnv hnd hlt W3 g2 τ.H W3 (ab.put (some d14) (.tuple #[e'.key, e'.val])) g2 ⟨good3⟩ ⟨i6.symm, .refl _ _ _⟩ (by rw [h6d] at hGc; exact hGc)
      have hcode := wp_region (P := P) (id := id6) (ops := ops6) (a := ab) (w := W3) (by
        rw [List.range_eq_range']
        show wpOps P ops6 _ (List.range' 0 (ops6.size - 0)) ab W3
        exact wpOps_raw hGb' h6 h6g hexe (by rw [h6d]; exact hreg))
      have hnorm : ∀ (W5 : World) (a5 : Act) (g5 : Gh) (σ5 : St), (σ5.e0 = τ.H.E ∧ Step W3 g2 τ.H W5 g5 σ5.H) → GoodSt W5 a5 g5 σ5 → (∃ υ, Weak σ5 υ ∧ I (vis ++ [j]) υ) →
          ∃ n', n' < es.length - vis.length ∧ ∃ g' τ' vis', n' = es.length - vis'.length ∧ (τ'.e0 = H0.E ∧ Step W0 g0 H0 W5 g' τ'.H) ∧ GoodSt W5 a5 g' τ' ∧ I vis' τ' ∧ vis'.Nodup ∧ (∀ q ∈ vis', q < es.length) ∧ XI σ.H.lv i σ.H.L.length en clock (g.blk σ.H.lv i) W.heap.size vis' W5 g' τ'.H := fun W5 a5 g5 σ5 hs5 hg5 ⟨υ, hw, hIu⟩ => by
        obtain ⟨g6, w1, w2⟩ := hw W3 g2 τ.H W5 a5 g5 ⟨good3⟩ hs5 hg5
        have hnd' : (vis ++ [j]).Nodup := by
          rw [List.nodup_append]
          exact ⟨hnd, by simp, fun q hq r hr => by simp at hr; subst hr; exact fun e => hnv (e ▸ hq)⟩
        have hlt' : ∀ q ∈ vis ++ [j], q < es.length := fun q hq => by
          rcases List.mem_append.1 hq with h | h
          · exact hlt q h
          · simp at h; omega
        have hle := nodup_lt _ _ hnd' hlt'
        rw [List.length_append, List.length_singleton] at hle
        refine ⟨es.length - (vis ++ [j]).length, by rw [List.length_append, List.length_singleton]; omega, g6, υ, vis ++ [j], rfl, ⟨w1.1.trans (i6.trans hS2.1), step3.trans w1.2⟩, w2, hIu, hnd', hlt', X3.step w1.2⟩
      have hfin : ∀ (e : Exit) (a5 : Act) (W5 : World) (g5 : Gh) (σ5 : St) (e5 : AExit), ERel W5 g5 σ5.H e e5 → (σ5.e0 = τ.H.E ∧ Step W3 g2 τ.H W5 g5 σ5.H) → GoodSt W5 a5 g5 σ5 → (AExit.inBlock bid1 (fun e σ' => match e with
          | .normal => ∃ υ, Weak σ' υ ∧ I (vis ++ [j]) υ
          | .ret => σ'.H.lv = σ.H.lv ∧ σ'.H.L[i]? = some none ∧ σ'.d = [] ∧ Q .ret (σ'.showM i es)
          | _ => False)) e5 σ5 → Exit.inBlock bid1 (Exit.then (fun a' w' => ∃ n', n' < es.length - vis.length ∧ ∃ g' τ' vis', n' = es.length - vis'.length ∧ (τ'.e0 = H0.E ∧ Step W0 g0 H0 w' g' τ'.H) ∧ GoodSt w' a' g' τ' ∧ I vis' τ' ∧ vis'.Nodup ∧ (∀ q ∈ vis', q < es.length) ∧ XI σ.H.lv i σ.H.L.length en clock (g.blk σ.H.lv i) W.heap.size vis' w' g' τ'.H) (Exit.inBlock bid (Lift W0 g0 H0 Q))) e a5 W5 := fun e a5 W5 g5 σ5 e5 hE hs5 hg5 hq => by
        cases hE with
        | normal => exact hnorm W5 a5 g5 σ5 hs5 hg5 hq
        | exit id' =>
          by_cases hid : id' = bid1
          · subst hid
            have hq' : condP (Nat.beq id' id') (∃ υ, Weak σ5 υ ∧ I (vis ++ [j]) υ) False := hq
            rw [Nat.beq_refl] at hq'
            show (if id' = id' then _ else _)
            rw [if_pos rfl]
            exact hnorm W5 a5 g5 σ5 hs5 hg5 hq'
          · have hq' : condP (Nat.beq id' bid1) (∃ υ, Weak σ5 υ ∧ I (vis ++ [j]) υ) False := hq
            have hbf : Nat.beq id' bid1 = false := by
              cases hb : Nat.beq id' bid1
              · rfl
              · exact (hid (Nat.eq_of_beq_eq_true hb)).elim
            rw [hbf] at hq'
            exact hq'.elim
        | ret =>
          obtain ⟨e1, e2, e3, e4⟩ := hq
          obtain ⟨b1, b2⟩ := hback W5 g5 σ5 a5 (.inr ⟨_, X3.step hs5.2⟩) e1 e2 e3 hg5 (step3.trans hs5.2)
          exact ⟨g5, σ5.showM i es, .ret, .ret, ⟨hs5.1.trans (i6.trans hS2.1), b2⟩, b1, e4⟩
        | panic v c hr => exact hq.elim
      refine wp_seq (wp_mono hcode fun e a4 W4 ⟨g4, σ4, e4, l1, l2, l3, l4⟩ => ?_)
      cases l1 with
      | normal =>
        refine wp_mono (l4 W3 g2 τ.H W4 a4 g4 ⟨good3⟩ l2 l3) fun e a5 W5 ⟨g5, σ5, e5, k1, k2, k3, k4⟩ => hfin e a5 W5 g5 σ5 e5 k1 k2 k3 k4
      | exit id' => exact hfin _ a4 W4 g4 σ4 _ (.exit id') l2 l3 l4
      | ret => exact hfin _ a4 W4 g4 σ4 _ .ret l2 l3 l4
      | panic v c hr => exact hfin _ a4 W4 g4 σ4 _ (.panic v c hr) l2 l3 l4
end
end Go.Ab
