/-
  ABSTRACT VALUES AND MEMORY. Values whose memory is read once and for all ('sl', 'ref': rows of cells that nobody writes), and a small heap of objects that the call itself owns, by keys (level, index).
-/
import Derived.Calls
import Derived.Test.YtfhpamcehnfhoaaGreatDoorAbGl
import Derived.Below
namespace Go.Ab

/-- abstract values -/
inductive V : Type where
  | any
  | bool (b : Bool)
  | int (k : IntKind) (n : Int)
  | str (s : List UInt8)
  | nilp
  | ptr (l i off : Nat)
  | ref (cs : List V) (off : Nat)
  | ap (l i ver idx off : Nat)
  | nils
  | sl (sz : Nat) (xs : List V) (full : Bool)
  | hs (l i ver off n : Nat) (full : Bool)
  | mapn
  | map (l i : Nat)
  | fn (f : Nat) (first caps : List V)
  | nilf
  | iface (t : Nat) (v : V)
  | nili
  | agg (cs : List V)
  | tup (vs : List V)
  deriving Inhabited

/-- the cells of a value -/
def V.cells : V → List V
  | .agg cs => cs
  | v => [v]

/-- a value of one cell, of known form -/
def V.leaf : V → Bool
  | .any | .agg _ | .tup _ => false
  | _ => true

/-- objects that are written -/
inductive AObj : Type where
  | cells (cs : List V)
  | arr (ver ty sz : Nat) (xs : List V) (cap : Option Nat)
  | map (es : List (V × V))
  | siter (s : List UInt8) (pos : Nat)

structure Heap where
  lv : Nat
  L : List (Option AObj)
  E : Nat → Nat → Option AObj

def Heap.get (H : Heap) (l i : Nat) : Option AObj := if l = H.lv then (H.L[i]?).join else H.E l i

/-- what of the concrete memory stands behind the keys -/
structure Gh where
  dom : Nat → Nat → Prop
  blk : Nat → Nat → Nat
  ab : Nat → Nat → Nat
  cap : Nat → Nat → Nat

def AObj.blk (g : Gh) (l i : Nat) : AObj → Nat
  | .arr .. => g.ab l i
  | _ => g.blk l i

/-- the blocks that are owned -/
def Own (g : Gh) (H : Heap) (b : Nat) : Prop := ∃ l i o, H.get l i = some o ∧ o.blk g l i = b

inductive Rel (W : World) (g : Gh) (H : Heap) : V → Value → Prop where
  | any (c : Value) : Rel W g H .any c
  | bool (b : Bool) : Rel W g H (.bool b) (.bool b)
  | int (k : IntKind) (n : Int) : Rel W g H (.int k n) (.int k n)
  | str (s : List UInt8) : Rel W g H (.str s) (.string ⟨s.toArray⟩)
  | nilp : Rel W g H .nilp (.pointer none)
  | ptr (l i off : Nat) (hd : g.dom l i) : Rel W g H (.ptr l i off) (.pointer (some ⟨g.blk l i, off, none⟩))
  | ref (cs : List V) (off b o : Nat) (c : Nat → Value) (hb : cs ≠ [] → ¬ Own g H b) (hc : ∀ j v, cs[j]? = some v → W.cell? ⟨b, o + j, none⟩ = some (c j)) (h1 : ∀ j v, cs[j]? = some v → (c j).oneCell' = true) (hr : ∀ j v, cs[j]? = some v → Rel W g H v (c j)) : Rel W g H (.ref cs off) (.pointer (some ⟨b, o + off, none⟩))
  | ap (l i ver idx off : Nat) (a : Addr) (hd : g.dom l i) (hv : ∀ v ty sz xs cp, H.get l i = some (.arr v ty sz xs cp) → ver ≤ v) (ha : ∀ ty sz xs cp, H.get l i = some (.arr ver ty sz xs cp) → a = ⟨g.ab l i, idx * sz + off, none⟩) : Rel W g H (.ap l i ver idx off) (.pointer (some a))
  | nils : Rel W g H .nils (.slice none 0 0)
  | slnil (sz : Nat) (full : Bool) : Rel W g H (.sl sz [] full) (.slice none 0 0)
  | sle (sz : Nat) (full : Bool) (a : Addr) (cap : Nat) (hf : full = true → cap = 0) : Rel W g H (.sl sz [] full) (.slice (some a) 0 cap)
  | sl (sz : Nat) (xs : List V) (full : Bool) (b o cap : Nat) (c : Nat → Nat → Value) (hb : ¬ Own g H b) (hz : 0 < sz) (hcap : xs.length ≤ cap) (hf : full = true → cap = xs.length)
      (hs : ∀ (j : Nat) (x : V), xs[j]? = some x → x.cells.length = sz) (hc : ∀ (j : Nat) (x : V) (t : Nat) (v : V), xs[j]? = some x → x.cells[t]? = some v → W.cell? ⟨b, o + j * sz + t, none⟩ = some (c j t))
      (h1 : ∀ (j : Nat) (x : V) (t : Nat) (v : V), xs[j]? = some x → x.cells[t]? = some v → (c j t).oneCell' = true)
      (hr : ∀ (j : Nat) (x : V) (t : Nat) (v : V), xs[j]? = some x → x.cells[t]? = some v → Rel W g H v (c j t)) : Rel W g H (.sl sz xs full) (.slice (some ⟨b, o, none⟩) xs.length cap)
  | hs (l i ver off n : Nat) (full : Bool) (a : Option Addr) (m cap : Nat) (hd : g.dom l i) (hv : ∀ v ty sz xs cp, H.get l i = some (.arr v ty sz xs cp) → ver ≤ v)
      (ha : ∀ ty sz xs cp, H.get l i = some (.arr ver ty sz xs cp) → a = some ⟨g.ab l i, off * sz, none⟩ ∧ m = n ∧ (n ≤ cap ∧ off + cap ≤ g.cap l i ∧ (full = true → cap = n)) ∧ off + n ≤ xs.length) : Rel W g H (.hs l i ver off n full) (.slice a m cap)
  | mapn : Rel W g H .mapn (.map none)
  | map (l i : Nat) (hd : g.dom l i) : Rel W g H (.map l i) (.map (some (g.blk l i)))
  | fn (f : Nat) (fs cs : List V) (fs' cs' : Array Value) (h1 : fs'.size = fs.length) (h2 : cs'.size = cs.length) (r1 : ∀ j v, fs[j]? = some v → Rel W g H v (fs'.getD j undef)) (r2 : ∀ j v, cs[j]? = some v → Rel W g H v (cs'.getD j undef)) : Rel W g H (.fn f fs cs) (.func (.func f) fs' cs')
  | nilf : Rel W g H .nilf .nilFunc
  | iface (t : Nat) (v : V) (c : Value) (h : Rel W g H v c) : Rel W g H (.iface t v) (.iface t c)
  | nili : Rel W g H .nili .nilIface
  | agg (vs : List V) (cs : Array Value) (hn : cs.size = vs.length) (h1 : ∀ j v, vs[j]? = some v → (cs.getD j undef).oneCell' = true) (hr : ∀ j v, vs[j]? = some v → Rel W g H v (cs.getD j undef)) : Rel W g H (.agg vs) (.agg cs)
  | tup (vs : List V) (cs : Array Value) (hn : cs.size = vs.length) (hr : ∀ j v, vs[j]? = some v → Rel W g H v (cs.getD j undef)) : Rel W g H (.tup vs) (.tuple cs)

/-- the concrete block of an object -/
def ORel (W : World) (g : Gh) (H : Heap) (l i : Nat) : AObj → Prop
  | .cells cs => ∃ c ty, W.heap[g.blk l i]? = some (.cells c ty (0, 0)) ∧ c.size = cs.length ∧ (∀ j v, cs[j]? = some v → (c.getD j undef).oneCell' = true) ∧ ∀ j v, cs[j]? = some v → Rel W g H v (c.getD j undef)
  | .arr _ ty sz xs cp => ∃ c, W.heap[g.ab l i]? = some (.cells c ty (0, 0)) ∧ 0 < sz ∧ c.size = g.cap l i * sz ∧ g.cap l i ≤ maxLen ∧ xs.length ≤ g.cap l i ∧ (∀ n, cp = some n → g.cap l i = n) ∧
      (∀ (j : Nat) (x : V), xs[j]? = some x → x.cells.length = sz) ∧ (∀ (j : Nat) (x : V) (t : Nat) (v : V), xs[j]? = some x → x.cells[t]? = some v → (c.getD (j * sz + t) undef).oneCell' = true) ∧
      ∀ (j : Nat) (x : V) (t : Nat) (v : V), xs[j]? = some x → x.cells[t]? = some v → Rel W g H v (c.getD (j * sz + t) undef)
  | .map es => ∃ en clock, W.heap[g.blk l i]? = some (.map en clock) ∧ en.size = es.length ∧ (∀ e ∈ en, e.born < clock) ∧ (∀ (j k : Nat) (e f : MapEntry), en[j]? = some e → en[k]? = some f → e.born = f.born → j = k) ∧
      (∀ (j : Nat) (p : V × V), es[j]? = some p → ∃ e, en[j]? = some e ∧ Rel W g H p.1 e.key ∧ Rel W g H p.2 e.val)
  | .siter s pos => W.heap[g.blk l i]? = some (.stringIter ⟨s.toArray⟩ pos)

/-- the variables hold what is known of them, and nobody here writes them -/
def GlobOk (W : World) (g : Gh) (H : Heap) : Prop := ∀ k cs, gl k = some cs → ¬ Own g H k ∧ ∃ ty q, W.heap[k]? = some (.cells (cs.map fun p => Value.int p.1 p.2).toArray ty q)
structure Good (W : World) (g : Gh) (H : Heap) : Prop where
  dom : ∀ l i o, H.get l i = some o → g.dom l i
  lt : ∀ l i o, H.get l i = some o → o.blk g l i < W.heap.size
  inj : ∀ l i o l' i' o', H.get l i = some o → H.get l' i' = some o' → o.blk g l i = o'.blk g l' i' → l = l' ∧ i = i'
  fresh : ∀ l i, g.dom l i → l < H.lv ∨ (l = H.lv ∧ i < H.L.length)
  obj : ∀ l i o, H.get l i = some o → ORel W g H l i o
  glob : GlobOk W g H

/-- from one state of memory to a later one -/
structure Step (W : World) (g : Gh) (H : Heap) (W' : World) (g' : Gh) (H' : Heap) : Prop where
  os : W'.os = W.os
  tape : W'.tape = W.tape
  output : W'.output = W.output
  size : W.heap.size ≤ W'.heap.size
  block : ∀ b, b < W.heap.size → ¬ Own g H b → W'.heap[b]? = W.heap[b]?
  own : ∀ b, Own g' H' b → Own g H b ∨ W.heap.size ≤ b
  dom : ∀ l i, g.dom l i → g'.dom l i
  new : ∀ l i, g'.dom l i → g.dom l i ∨ l = H.lv
  blk : ∀ l i, g.dom l i → g'.blk l i = g.blk l i
  arr : ∀ l i ver ty sz xs cp, g.dom l i → H'.get l i = some (.arr ver ty sz xs cp) → ∃ v ys cp', H.get l i = some (.arr v ty sz ys cp') ∧ v ≤ ver ∧ (v = ver → g'.ab l i = g.ab l i ∧ g'.cap l i = g.cap l i ∧ ys.length ≤ xs.length)
  lv : H'.lv = H.lv

theorem GlobOk.step {W : World} {g : Gh} {H : Heap} (h : GlobOk W g H) {W' : World} {g' : Gh} {H' : Heap} (s : Step W g H W' g' H') : GlobOk W' g' H' := fun k cs hk => by
  obtain ⟨h1, ty, q, h2⟩ := h k cs hk
  have hlt : k < W.heap.size := by
    rcases Nat.lt_or_ge k W.heap.size with a | a
    · exact a
    · rw [Array.getElem?_eq_none a] at h2; cases h2
  exact ⟨fun hn => (s.own k hn).elim h1 (fun a => by omega), ty, q, by rw [s.block k hlt h1]; exact h2⟩
theorem GlobOk.fewer {W : World} {g g' : Gh} {H H' : Heap} (h : GlobOk W g H) (hown : ∀ b, Own g' H' b → Own g H b) : GlobOk W g' H' := fun k cs hk => by
  obtain ⟨h1, h2⟩ := h k cs hk
  exact ⟨fun hn => h1 (hown k hn), h2⟩
theorem Step.refl (W : World) (g : Gh) (H : Heap) : Step W g H W g H :=
  ⟨rfl, rfl, rfl, Nat.le_refl _, fun _ _ _ => rfl, fun _ h => .inl h, fun _ _ h => h, fun _ _ h => .inl h, fun _ _ _ => rfl, fun _ _ ver _ _ xs cp _ h => ⟨ver, xs, cp, h, Nat.le_refl _, fun _ => ⟨rfl, rfl, Nat.le_refl _⟩⟩, rfl⟩

theorem Step.trans {W W' W'' : World} {g g' g'' : Gh} {H H' H'' : Heap} (h : Step W g H W' g' H') (k : Step W' g' H' W'' g'' H'') : Step W g H W'' g'' H'' where
  os := k.os.trans h.os
  tape := k.tape.trans h.tape
  output := k.output.trans h.output
  size := Nat.le_trans h.size k.size
  block := fun b hb ho => by
    rw [k.block b (Nat.lt_of_lt_of_le hb h.size) (fun hn => ?_), h.block b hb ho]
    rcases h.own b hn with h1 | h1
    · exact ho h1
    · omega
  own := fun b hb => by
    rcases k.own b hb with h1 | h1
    · rcases h.own b h1 with h2 | h2
      · exact .inl h2
      · exact .inr h2
    · exact .inr (Nat.le_trans h.size h1)
  dom := fun l i hd => k.dom l i (h.dom l i hd)
  new := fun l i hd => by
    rcases k.new l i hd with h1 | h1
    · exact h.new l i h1
    · exact .inr (h1.trans h.lv)
  blk := fun l i hd => (k.blk l i (h.dom l i hd)).trans (h.blk l i hd)
  arr := fun l i ver ty sz xs cp hd hg => by
    obtain ⟨v, ys, cp', h1, h2, h3⟩ := k.arr l i ver ty sz xs cp (h.dom l i hd) hg
    obtain ⟨u, zs, cp'', k1, k2, k3⟩ := h.arr l i v ty sz ys cp' hd h1
    refine ⟨u, zs, cp'', k1, Nat.le_trans k2 h2, fun e => ?_⟩
    have hv : v = ver := by omega
    have hu : u = v := by omega
    obtain ⟨a1, a2, a3⟩ := h3 hv
    obtain ⟨b1, b2, b3⟩ := k3 hu
    exact ⟨a1.trans b1, a2.trans b2, Nat.le_trans b3 a3⟩
  lv := k.lv.trans h.lv

theorem cell_lt {W : World} {b o : Nat} {v : Value} (h : W.cell? ⟨b, o, none⟩ = some v) : b < W.heap.size := by
  unfold World.cell? at h
  rcases Nat.lt_or_ge b W.heap.size with h1 | h1
  · exact h1
  · simp [Array.getElem?_eq_none h1] at h

theorem cell_same {W W' : World} {b o : Nat} (h : W'.heap[b]? = W.heap[b]?) : W'.cell? ⟨b, o, none⟩ = W.cell? ⟨b, o, none⟩ := by
  unfold World.cell?
  simp only [h]

/-- what a value reads as is not turned by what happens to blocks that are owned, and to new ones -/
theorem Rel.mono {W : World} {g : Gh} {H : Heap} {v : V} {c : Value} (h : Rel W g H v c) {W' : World} {g' : Gh} {H' : Heap} (s : Step W g H W' g' H') : Rel W' g' H' v c := by
  induction h with
  | any c => exact .any c
  | bool b => exact .bool b
  | int k n => exact .int k n
  | str s => exact .str s
  | nilp => exact .nilp
  | ptr l i off hd => rw [← s.blk l i hd]; exact .ptr l i off (s.dom l i hd)
  | ref cs off b o c hb hc ho1 hr ih =>
    cases cs with
    | nil => exact .ref [] off b o c (fun h => absurd rfl h) (by simp) (by simp) (by simp)
    | cons x xs =>
      have h1 := cell_lt (hc 0 x rfl)
      exact .ref _ off b o c (fun _ hn => (s.own b hn).elim (hb (by simp)) (by omega)) (fun j v hj => by rw [cell_same (s.block b h1 (hb (by simp)))]; exact hc j v hj) ho1 ih
  | ap l i ver idx off a hd hv ha =>
    refine .ap l i ver idx off a (s.dom l i hd) (fun v ty sz xs cp hg => ?_) fun ty sz xs cp hg => ?_
    · obtain ⟨v', ys, cp', h1, h2, _⟩ := s.arr l i v ty sz xs cp hd hg
      exact Nat.le_trans (hv _ _ _ _ _ h1) h2
    · obtain ⟨v', ys, cp', h1, h2, h3⟩ := s.arr l i ver ty sz xs cp hd hg
      have hle := hv _ _ _ _ _ h1
      obtain rfl : v' = ver := by omega
      rw [(h3 rfl).1]; exact ha _ _ _ _ h1
  | nils => exact .nils
  | slnil sz full => exact .slnil sz full
  | sle sz full a cap hf => exact .sle sz full a cap hf
  | sl sz xs full b o cap c hb hz hcap hf hs hc ho1 hr ih =>
    cases xs with
    | nil => exact .sle sz full _ cap (by simpa using hf)
    | cons x xs =>
      have hx := hs 0 x rfl
      have h1 : b < W.heap.size := by
        cases hcs : x.cells with
        | nil => rw [hcs] at hx; simp at hx; omega
        | cons v vs => exact cell_lt (hc 0 x 0 v rfl (by rw [hcs]; rfl))
      exact .sl sz _ full b o cap c (fun hn => (s.own b hn).elim hb (by omega)) hz hcap hf hs (fun j x t v hj ht => by rw [cell_same (s.block b h1 hb)]; exact hc j x t v hj ht) ho1 ih
  | hs l i ver off n full a m cap hd hv ha =>
    refine .hs l i ver off n full a m cap (s.dom l i hd) (fun v ty sz xs cp hg => ?_) fun ty sz xs cp hg => ?_
    · obtain ⟨v', ys, cp', h1, h2, _⟩ := s.arr l i v ty sz xs cp hd hg
      exact Nat.le_trans (hv _ _ _ _ _ h1) h2
    · obtain ⟨v', ys, cp', h1, h2, h3⟩ := s.arr l i ver ty sz xs cp hd hg
      have hle := hv _ _ _ _ _ h1
      obtain rfl : v' = ver := by omega
      obtain ⟨e1, e2, e3⟩ := h3 rfl
      rw [e1, e2]
      obtain ⟨k1, k2, k3, k4⟩ := ha _ _ _ _ h1
      exact ⟨k1, k2, k3, Nat.le_trans k4 e3⟩
  | mapn => exact .mapn
  | map l i hd => rw [← s.blk l i hd]; exact .map l i (s.dom l i hd)
  | fn f fs cs fs' cs' h1 h2 r1 r2 i1 i2 => exact .fn f fs cs fs' cs' h1 h2 i1 i2
  | nilf => exact .nilf
  | iface t v c h ih => exact .iface t v c ih
  | nili => exact .nili
  | agg vs cs hn ho1 hr ih => exact .agg vs cs hn ho1 ih
  | tup vs cs hn hr ih => exact .tup vs cs hn ih

/-- a later world in which nothing has turned but that there are new blocks, and draws -/
structure Grow (W W' : World) : Prop where
  os : W'.os = W.os
  tape : W'.tape = W.tape
  output : W'.output = W.output
  size : W.heap.size ≤ W'.heap.size
  block : ∀ b, b < W.heap.size → W'.heap[b]? = W.heap[b]?

theorem Grow.refl (W : World) : Grow W W := ⟨rfl, rfl, rfl, Nat.le_refl _, fun _ _ => rfl⟩
theorem Grow.trans {a b c : World} (h : Grow a b) (k : Grow b c) : Grow a c :=
  ⟨k.os.trans h.os, k.tape.trans h.tape, k.output.trans h.output, Nat.le_trans h.size k.size, fun i hi => (k.block i (Nat.lt_of_lt_of_le hi h.size)).trans (h.block i hi)⟩
theorem Grow.alloc (W : World) (o : Obj) : Grow W (W.alloc o) :=
  ⟨rfl, rfl, rfl, by simp, fun b hb => by show (W.heap.push o)[b]? = _; rw [Array.getElem?_push, if_neg (by omega)]⟩
theorem Grow.drawn (W : World) (n : Nat) : Grow W { W with drawn := n } := ⟨rfl, rfl, rfl, Nat.le_refl _, fun _ _ => rfl⟩

theorem Grow.step {W W' : World} {g : Gh} {H : Heap} (h : Grow W W') : Step W g H W' g H :=
  ⟨h.os, h.tape, h.output, h.size, fun b hb _ => h.block b hb, fun _ h => .inl h, fun _ _ h => h, fun _ _ h => .inl h, fun _ _ _ => rfl, fun _ _ ver _ _ xs cp _ h => ⟨ver, xs, cp, h, Nat.le_refl _, fun _ => ⟨rfl, rfl, Nat.le_refl _⟩⟩, rfl⟩

theorem ORel.mono {W : World} {g : Gh} {H : Heap} {l i : Nat} {o : AObj} (h : ORel W g H l i o) {W' : World} {g' : Gh} {H' : Heap} (s : Step W g H W' g' H')
    (hb : W'.heap[o.blk g l i]? = W.heap[o.blk g l i]?) (hk : g'.blk l i = g.blk l i) (ha : g'.ab l i = g.ab l i) (hc : g'.cap l i = g.cap l i) : ORel W' g' H' l i o := by
  cases o with
  | cells cs =>
    obtain ⟨c, ty, h1, h2, h3, h4⟩ := h
    exact ⟨c, ty, by rw [hk]; exact hb.trans h1, h2, h3, fun j v hj => (h4 j v hj).mono s⟩
  | arr ver ty sz xs cp =>
    obtain ⟨c, h1, h3, h4, h4', h5, h6, h7, h8, h9⟩ := h
    exact ⟨c, by rw [ha]; exact hb.trans h1, h3, by rw [hc]; exact h4, by rw [hc]; exact h4', by rw [hc]; exact h5, by rw [hc]; exact h6, h7, h8, fun j x t v hj ht => (h9 j x t v hj ht).mono s⟩
  | map es =>
    obtain ⟨en, clock, h1, h2, h3, h4, h5⟩ := h
    refine ⟨en, clock, by rw [hk]; exact hb.trans h1, h2, h3, h4, fun j p hj => ?_⟩
    obtain ⟨e, he, k1, k2⟩ := h5 j p hj
    exact ⟨e, he, k1.mono s, k2.mono s⟩
  | siter s pos => exact (show W'.heap[g'.blk l i]? = _ by rw [hk]; exact hb.trans h)

theorem Good.grow {W W' : World} {g : Gh} {H : Heap} (h : Good W g H) (k : Grow W W') : Good W' g H :=
  ⟨h.dom, fun l i o ho => Nat.lt_of_lt_of_le (h.lt l i o ho) k.size, h.inj, h.fresh, fun l i o ho => (h.obj l i o ho).mono k.step (k.block _ (h.lt l i o ho)) rfl rfl rfl, h.glob.step k.step⟩

end Go.Ab
