import Derived.Test.YtfhpamcehnfhoaaGreatDoorAbPv
import Derived.Laws.AppendOwn
import Derived.Laws.CopyRow
namespace Go.Ab
open Go
set_option linter.unusedSimpArgs false
set_option linter.unusedVariables false
section
variable {W : World} {g : Gh} {H : Heap} {P : Program}

def Heap.push (H : Heap) (o : AObj) : Heap := { H with L := H.L ++ [some o] }
def Heap.set (H : Heap) (l i : Nat) (o : AObj) : Heap := if l = H.lv then { H with L := H.L.set i (some o) } else { H with E := fun l' i' => if l' = l ∧ i' = i then some o else H.E l' i' }

theorem Heap.get_push (o : AObj) (l i : Nat) : (H.push o).get l i = if l = H.lv ∧ i = H.L.length then some o else H.get l i := by
  unfold Heap.get Heap.push
  dsimp only
  by_cases hl : l = H.lv
  · by_cases hi : i = H.L.length
    · simp [hl, hi]
    · simp only [hl, if_true, hi, and_false, if_false]
      by_cases h2 : i < H.L.length
      · rw [List.getElem?_append_left h2]
      · rw [List.getElem?_eq_none (show (H.L ++ [some o]).length ≤ i by simp; omega), List.getElem?_eq_none (show H.L.length ≤ i by omega)]
  · simp [hl]

theorem Heap.set_lv (o : AObj) (l i : Nat) : (H.set l i o).lv = H.lv := by unfold Heap.set; split <;> rfl
theorem Heap.set_len (o : AObj) (l i : Nat) : (H.set l i o).L.length = H.L.length := by unfold Heap.set; split <;> simp

theorem Heap.get_set {o o' : AObj} {l i : Nat} (h : H.get l i = some o) (l' i' : Nat) : (H.set l i o').get l' i' = if l' = l ∧ i' = i then some o' else H.get l' i' := by
  unfold Heap.set
  by_cases hl : l = H.lv
  · have hlt : i < H.L.length := by
      unfold Heap.get at h
      rw [if_pos hl] at h
      rcases Nat.lt_or_ge i H.L.length with q | q
      · exact q
      · simp [List.getElem?_eq_none q] at h
    rw [if_pos hl]
    subst hl
    unfold Heap.get
    dsimp only
    by_cases h1 : l' = H.lv
    · subst h1
      simp only [if_true, true_and]
      rw [List.getElem?_set]
      by_cases h2 : i = i'
      · subst h2; simp [hlt]
      · rw [if_neg h2, if_neg (fun q => h2 q.symm)]
    · simp [h1]
  · rw [if_neg hl]
    unfold Heap.get
    dsimp only
    by_cases h1 : l' = H.lv
    · subst h1
      simp only [if_true]
      rw [if_neg (fun q => hl q.1.symm)]
    · simp [h1]

def Gh.add (g : Gh) (l i b c : Nat) : Gh where
  dom l' i' := g.dom l' i' ∨ (l' = l ∧ i' = i)
  blk l' i' := if l' = l ∧ i' = i then b else g.blk l' i'
  ab l' i' := if l' = l ∧ i' = i then b else g.ab l' i'
  cap l' i' := if l' = l ∧ i' = i then c else g.cap l' i'

theorem AObj.blk_add {o : AObj} {l i l' i' b c : Nat} (h : ¬ (l' = l ∧ i' = i)) : o.blk (g.add l i b c) l' i' = o.blk g l' i' := by
  cases o <;> simp [AObj.blk, Gh.add, h]
theorem AObj.blk_add_self {o : AObj} {l i b c : Nat} : o.blk (g.add l i b c) l i = b := by
  cases o <;> simp [AObj.blk, Gh.add]

/-- what is said of an operation that may turn objects -/
def Turns (P : Program) (W : World) (g : Gh) (H : Heap) (s : Sem Next) (v : V) (H' : Heap) : Prop :=
  ∃ c W' g', (s.run P W = .ok (.value c) W' ∨ (s.run P W = .ok .skip W' ∧ c = undef)) ∧ Step W g H W' g' H' ∧ Good W' g' H' ∧ Rel W' g' H' v c

theorem YieldsOp.turns {s : Sem Next} {v : V} (hG : Good W g H) (h : YieldsOp P W g H s v) : Turns P W g H s v H := by
  obtain ⟨c, W', h1, h2, h3⟩ := h
  exact ⟨c, W', g, .inl h1, h2.step, hG.grow h2, h3⟩

/-- a new object -/
theorem good_push (hG : Good W g H) {O : Obj} {o : AObj} (c : Nat)
    (ho : ∀ (W' : World) (g' : Gh) (H' : Heap), W' = W.alloc O → g' = g.add H.lv H.L.length W.heap.size c → H' = H.push o → Step W g H W' g' H' → ORel W' g' H' H.lv H.L.length o) :
    Step W g H (W.alloc O) (g.add H.lv H.L.length W.heap.size c) (H.push o) ∧ Good (W.alloc O) (g.add H.lv H.L.length W.heap.size c) (H.push o) := by
  have hnew : ¬ g.dom H.lv H.L.length := fun h => by rcases hG.fresh _ _ h with h | ⟨_, h⟩ <;> omega
  have hne : ∀ l i, g.dom l i → ¬ (l = H.lv ∧ i = H.L.length) := fun l i h q => hnew (by rw [← q.1, ← q.2]; exact h)
  have hgr := Grow.alloc W O
  have hstep : Step W g H (W.alloc O) (g.add H.lv H.L.length W.heap.size c) (H.push o) := by
    refine ⟨rfl, rfl, rfl, hgr.size, fun b hb _ => hgr.block b hb, fun b hb => ?_, fun l i h => .inl h, fun l i h => h.elim .inl (fun q => .inr q.1), fun l i h => by simp [Gh.add, hne l i h], fun l i ver ty sz xs cp hd hg => ?_, rfl⟩
    · obtain ⟨l, i, q, hq, hqb⟩ := hb
      rw [Heap.get_push] at hq
      split at hq
      · rename_i hk
        injection hq with hq; subst hq
        obtain ⟨rfl, rfl⟩ := hk
        rw [AObj.blk_add_self] at hqb
        right; omega
      · rename_i hk
        rw [AObj.blk_add hk] at hqb
        exact .inl ⟨l, i, q, hq, hqb⟩
    · rw [Heap.get_push, if_neg (hne l i hd)] at hg
      exact ⟨ver, xs, cp, hg, Nat.le_refl _, fun _ => ⟨by simp [Gh.add, hne l i hd], by simp [Gh.add, hne l i hd], Nat.le_refl _⟩⟩
  refine ⟨hstep, ?_, ?_, ?_, ?_, ?_, hG.glob.step hstep⟩
  · intro l i q hq
    rw [Heap.get_push] at hq
    split at hq
    · rename_i hk; exact .inr hk
    · exact .inl (hG.dom l i q hq)
  · intro l i q hq
    rw [Heap.get_push] at hq
    split at hq
    · rename_i hk
      obtain ⟨rfl, rfl⟩ := hk
      rw [AObj.blk_add_self]; simp
    · rename_i hk
      rw [AObj.blk_add hk]
      exact Nat.lt_of_lt_of_le (hG.lt l i q hq) hgr.size
  · intro l i q l' i' q' hq hq' hb
    rw [Heap.get_push] at hq hq'
    split at hq
    · rename_i hk
      obtain ⟨rfl, rfl⟩ := hk
      split at hq'
      · rename_i hk'
        exact ⟨hk'.1.symm, hk'.2.symm⟩
      · rename_i hk'
        rw [AObj.blk_add_self, AObj.blk_add hk'] at hb
        have := hG.lt _ _ _ hq'
        omega
    · rename_i hk
      split at hq'
      · rename_i hk'
        obtain ⟨rfl, rfl⟩ := hk'
        rw [AObj.blk_add hk, AObj.blk_add_self] at hb
        have := hG.lt _ _ _ hq
        omega
      · rename_i hk'
        rw [AObj.blk_add hk, AObj.blk_add hk'] at hb
        exact hG.inj _ _ _ _ _ _ hq hq' hb
  · intro l i h
    show l < H.lv ∨ (l = H.lv ∧ i < (H.L ++ [some o]).length)
    rcases h with h | ⟨h1, h2⟩
    · rcases hG.fresh l i h with q | ⟨q1, q2⟩
      · exact .inl q
      · exact .inr ⟨q1, by simp; omega⟩
    · exact .inr ⟨h1, by simp; omega⟩
  · intro l i q hq
    rw [Heap.get_push] at hq
    split at hq
    · rename_i hk
      obtain ⟨rfl, rfl⟩ := hk
      injection hq with hq; subst hq
      exact ho _ _ _ rfl rfl rfl hstep
    · rename_i hk
      have h1 := hG.obj l i q hq
      exact h1.mono hstep (hgr.block _ (hG.lt l i q hq)) (by simp [Gh.add, hk]) (by simp [Gh.add, hk]) (by simp [Gh.add, hk])

/-- an object is turned: the same block, the same keys -/
theorem good_set (hG : Good W g H) {l i : Nat} {o o' : AObj} (ho : H.get l i = some o) (hb : o'.blk g l i = o.blk g l i) {W' : World}
    (hos : W'.os = W.os) (htape : W'.tape = W.tape) (hout : W'.output = W.output) (hsize : W.heap.size ≤ W'.heap.size) (hblock : ∀ b, b < W.heap.size → b ≠ o.blk g l i → W'.heap[b]? = W.heap[b]?)
    (harr : ∀ ver ty sz xs cp, o' = .arr ver ty sz xs cp → ∃ v ys cp', o = .arr v ty sz ys cp' ∧ v ≤ ver ∧ (v = ver → ys.length ≤ xs.length))
    (hrel : Step W g H W' g (H.set l i o') → ORel W' g (H.set l i o') l i o') :
    Step W g H W' g (H.set l i o') ∧ Good W' g (H.set l i o') := by
  have hget := Heap.get_set (o' := o') ho
  have hstep : Step W g H W' g (H.set l i o') := by
    refine ⟨hos, htape, hout, hsize, fun b h1 h2 => hblock b h1 (fun q => h2 ⟨l, i, o, ho, q.symm⟩), fun b hb' => ?_, fun _ _ h => h, fun _ _ h => .inl h, fun _ _ _ => rfl, fun l' i' ver ty sz xs cp hd hg => ?_, Heap.set_lv _ _ _⟩
    · obtain ⟨l', i', q, hq, hqb⟩ := hb'
      rw [hget] at hq
      split at hq
      · rename_i hk; obtain ⟨rfl, rfl⟩ := hk
        injection hq with hq; subst hq
        exact .inl ⟨l', i', o, ho, by rw [← hb]; exact hqb⟩
      · exact .inl ⟨l', i', q, hq, hqb⟩
    · rw [hget] at hg
      split at hg
      · rename_i hk; obtain ⟨rfl, rfl⟩ := hk
        injection hg with hg
        obtain ⟨v, ys, cp', rfl, hle, hl⟩ := harr _ _ _ _ _ hg
        exact ⟨v, ys, cp', ho, hle, fun e => ⟨rfl, rfl, hl e⟩⟩
      · exact ⟨ver, xs, cp, hg, Nat.le_refl _, fun _ => ⟨rfl, rfl, Nat.le_refl _⟩⟩
  refine ⟨hstep, ?_, ?_, ?_, ?_, ?_, hG.glob.step hstep⟩
  · intro l' i' q hq
    rw [hget] at hq
    split at hq
    · rename_i hk; obtain ⟨rfl, rfl⟩ := hk; exact hG.dom _ _ _ ho
    · exact hG.dom _ _ _ hq
  · intro l' i' q hq
    rw [hget] at hq
    split at hq
    · rename_i hk; obtain ⟨rfl, rfl⟩ := hk
      injection hq with hq; subst hq
      rw [hb]; exact Nat.lt_of_lt_of_le (hG.lt _ _ _ ho) hsize
    · exact Nat.lt_of_lt_of_le (hG.lt _ _ _ hq) hsize
  · intro l1 i1 q1 l2 i2 q2 h1 h2 h3
    rw [hget] at h1 h2
    split at h1
    · rename_i hk; obtain ⟨rfl, rfl⟩ := hk
      injection h1 with h1; subst h1
      rw [hb] at h3
      split at h2
      · rename_i hk'; exact ⟨hk'.1.symm, hk'.2.symm⟩
      · exact hG.inj _ _ _ _ _ _ ho h2 h3
    · split at h2
      · rename_i hk'; obtain ⟨rfl, rfl⟩ := hk'
        injection h2 with h2; subst h2
        rw [hb] at h3
        exact hG.inj _ _ _ _ _ _ h1 ho h3
      · exact hG.inj _ _ _ _ _ _ h1 h2 h3
  · intro l' i' h
    rw [Heap.set_lv, Heap.set_len]
    exact hG.fresh l' i' h
  · intro l' i' q hq
    rw [hget] at hq
    split at hq
    · rename_i hk; obtain ⟨rfl, rfl⟩ := hk
      injection hq with hq; subst hq
      exact hrel hstep
    · rename_i hk
      refine (hG.obj l' i' q hq).mono hstep (hblock _ (hG.lt _ _ _ hq) fun e => ?_) rfl rfl rfl
      exact hk (hG.inj _ _ _ _ _ _ hq ho e)

/-! ### new variables, stores -/

theorem orel_cells {W' : World} {g' : Gh} {H' : Heap} {l i : Nat} {cs : List V} {c : Array Value} {ty : TypeId} (h : W'.heap[g'.blk l i]? = some (.cells c ty (0, 0))) (hr : RelL W' g' H' cs c) : ORel W' g' H' l i (.cells cs) :=
  ⟨c, ty, h, hr.1, hr.2.1, hr.2.2⟩

theorem RelL.mono {vs : List V} {cs : Array Value} (h : RelL W g H vs cs) {W' : World} {g' : Gh} {H' : Heap} (s : Step W g H W' g' H') : RelL W' g' H' vs cs := ⟨h.1, h.2.1, fun j v hj => (h.2.2 j v hj).mono s⟩

theorem heap_alloc_new' (W : World) (O : Obj) : (W.alloc O).heap[W.heap.size]? = some O := by
  show (W.heap.push O)[W.heap.size]? = _
  simp

theorem turns_newVar (hG : Good W g H) {t : Nat} {cs : List V} {c : Value} {s : Sem Next} (hr : RelL W g H cs c.cells)
    (hs : s.run P W = .ok (.value (.pointer (some ⟨W.heap.size, 0, none⟩))) (W.alloc (.cells c.cells t))) : Turns P W g H s (.ptr H.lv H.L.length 0) (H.push (.cells cs)) := by
  obtain ⟨h1, h2⟩ := good_push hG (O := .cells c.cells t) (o := .cells cs) 0 (fun W' g' H' hW hg hH hst => by
    refine orel_cells (c := c.cells) (ty := t) ?_ (hr.mono hst)
    rw [hW, hg]
    simp only [Gh.add, and_self, if_true]
    exact heap_alloc_new' _ _)
  refine ⟨_, _, _, .inl hs, h1, h2, ?_⟩
  have := Rel.ptr (W := W.alloc (.cells c.cells t)) (g := g.add H.lv H.L.length W.heap.size 0) (H := H.push (.cells cs)) H.lv H.L.length 0 (.inr ⟨rfl, rfl⟩)
  simpa [Gh.add] using this

def hAlloc (P : Program) (H : Heap) (t : Nat) : Option (V × Heap) :=
  match zeroV P t with
  | some z => if z.solid then some (.ptr H.lv H.L.length 0, H.push (.cells z.cells)) else none
  | none => none

theorem sound_alloc (hG : Good W g H) {t : Nat} {v : V} {H' : Heap} (h : hAlloc P H t = some (v, H')) : Turns P W g H (do pure (.value (← Instr.alloc t true (.tuple #[])))) v H' := by
  unfold hAlloc at h
  split at h
  · rename_i z hz
    split at h
    · rename_i hs
      injection h with h; injection h with h1 h2; subst h1; subst h2
      obtain ⟨zc, hz1, hz2⟩ := run_zero (W := W) (g := g) (H := H) hz
      exact turns_newVar hG (t := t) (c := zc) (rel_cells hs hz2) (by simp [Instr.alloc, hz1, newVar, newRow])
    · cases h
  · cases h

def hBox (H : Heap) (x : V) : Option (V × Heap) := if x.solid then some (.ptr H.lv H.L.length 0, H.push (.cells x.cells)) else none

theorem sound_box (hG : Good W g H) {t : Nat} {x v : V} {c : Value} {H' : Heap} (h : hBox H x = some (v, H')) (hx : Rel W g H x c) : Turns P W g H (do pure (.value (← Instr.box t c))) v H' := by
  unfold hBox at h
  split at h
  · rename_i hs
    injection h with h; injection h with h1 h2; subst h1; subst h2
    exact turns_newVar hG (t := t) (c := c) (rel_cells hs hx) (by simp [Instr.box, newVar, newRow])
  · cases h

theorem setRow_good (W : World) (b : Nat) (cs : Array Value) : (W.setRow b cs).os = W.os ∧ (W.setRow b cs).tape = W.tape ∧ (W.setRow b cs).output = W.output ∧ W.heap.size ≤ (W.setRow b cs).heap.size := ⟨rfl, rfl, rfl, by simp [World.setRow]⟩

theorem list_splice_eq (cur : Array Value) (o : Nat) (vs : Array Value) (h : o + vs.size ≤ cur.size) : (cur.toList.take o ++ vs.toList ++ cur.toList.drop (o + vs.toList.length)).toArray = putCells cur o vs := by
  obtain ⟨h1, h2⟩ := putCells_get cur o vs
  apply Array.ext_getElem?
  intro i
  rw [h2 i]
  simp only [List.getElem?_toArray]
  by_cases a : i < o
  · rw [if_neg (by omega), List.append_assoc, List.getElem?_append_left (by simp; omega), List.getElem?_take, if_pos a, Array.getElem?_toList]
  · by_cases b : i < o + vs.size
    · rw [if_pos ⟨by omega, b, by omega⟩, List.append_assoc, List.getElem?_append_right (by simp; omega), List.getElem?_append_left (by simp; omega), Array.getElem?_toList]
      congr 1; simp; omega
    · rw [if_neg (by omega), List.getElem?_append_right (by simp; omega), List.getElem?_drop, Array.getElem?_toList]
      congr 1; simp; omega

/-- put the cells of an element -/
def withCells (x : V) (cs : List V) : V := match x with
  | .agg _ => .agg cs
  | x => cs.headD x

def fits (y : V) (cs : List V) : Bool := match y with | .agg _ => true | _ => match cs with | [c] => c.leaf | _ => false

theorem fits_cells {x : V} {cs : List V} (h : fits x cs = true) : (withCells x cs).cells = cs := by
  cases x <;> first
    | rfl
    | (match cs, h with
       | [], h => simp [fits] at h
       | [c], h => cases c <;> first | rfl | (simp [fits, V.leaf] at h; done)
       | _ :: _ :: _, h => simp [fits] at h)

def hStore (P : Program) (H : Heap) (t : Nat) (a x : V) : Option (V × Heap) :=
  if x.solid && (P.info? t).isSome && x.cells.length == P.cellsOf t then
    match a with
    | .ptr l i off => match H.get l i with
      | some (.cells cs) => if off + x.cells.length ≤ cs.length then some (.any, H.set l i (.cells (splice cs off x.cells))) else none
      | _ => none
    | .ap l i ver idx off => match H.get l i with
      | some (.arr ver' ty sz xs cp) => if ver' = ver then match xs[idx]? with
        | some y => if off + x.cells.length ≤ y.cells.length ∧ fits y (splice y.cells off x.cells) = true then
            some (.any, H.set l i (.arr ver ty sz (xs.set idx (withCells y (splice y.cells off x.cells))) cp)) else none
        | none => none else none
      | _ => none
    | _ => none
  else none

theorem run_storeAt {t : Nat} {b o : Nat} {cur : Array Value} {ty : TypeId} {c : Value} (hi : (P.info? t).isSome = true) (hc : c.cells.size = P.cellsOf t) (h1 : ∀ v ∈ c.cells.toList, v.oneCell' = true) (hb : W.heap[b]? = some (.cells cur ty (0, 0))) (hle : o + c.cells.size ≤ cur.size) :
    (Instr.storeAt t (.pointer (some ⟨b, o, none⟩)) c).run P W = .ok () (W.setRow b (putCells cur o c.cells)) := by
  obtain ⟨i, hi⟩ := Option.isSome_iff_exists.1 hi
  have hsz : (sizeOf t).run P W = .ok (P.cellsOf t) W := by simp [sizeOf, typeInfo, hi, Program.cellsOf]
  have := run_storeCells_at P b o ty c.cells.toList 0 cur W hb (by simpa using hle) h1
  simp only [Nat.add_zero] at this
  rw [list_splice_eq cur o c.cells hle] at this
  simp [Instr.storeAt, Instr.sureAddr, storeVar, hsz, hc, this]

theorem RelL.one {vs : List V} {cs : Array Value} (h : RelL W g H vs cs) : ∀ v ∈ cs.toList, v.oneCell' = true := fun v hv => by
  obtain ⟨j, hj, rfl⟩ := List.getElem_of_mem hv
  have hj' : j < cs.size := by simpa using hj
  have := h.2.1 j (vs[j]'(by rw [← h.1]; exact hj')) (List.getElem?_eq_getElem _)
  simpa [Array.getD_eq_getD_getElem?, hj'] using this

theorem sound_store (hG : Good W g H) {t : Nat} {a x v : V} {ca c : Value} {H' : Heap} (h : hStore P H t a x = some (v, H')) (ha : Rel W g H a ca) (hx : Rel W g H x c) : Turns P W g H (do Instr.storeAt t ca c; pure .skip) v H' := by
  unfold hStore at h
  split at h
  · rename_i hc
    simp only [Bool.and_eq_true, beq_iff_eq] at hc
    obtain ⟨⟨hs, hi⟩, hn⟩ := hc
    have hrc := rel_cells hs hx
    split at h
    · rename_i l i off
      split at h
      · rename_i cs hg
        split at h
        · rename_i hle
          injection h with h; injection h with h1 h2; subst h1; subst h2
          cases ha with
          | ptr _ _ _ hd =>
            obtain ⟨cur, ty, k1, k2, k3, k4⟩ := hG.obj _ _ _ hg
            have hrun := run_storeAt (P := P) (t := t) (o := off) hi (by rw [hrc.1, hn]) hrc.one k1 (by rw [hrc.1, k2]; exact hle)
            obtain ⟨s1, s2, s3, s4⟩ := setRow_good W (g.blk l i) (putCells cur off c.cells)
            obtain ⟨q1, q2⟩ := good_set hG (o' := .cells (splice cs off x.cells)) hg rfl s1 s2 s3 s4 (fun b _ hb => setRow_other W _ b _ hb) (fun _ _ _ _ _ h => by cases h) (fun hst => by
              refine orel_cells (setRow_heap W _ cur _ ty _ k1) ?_
              exact (relL_splice ⟨k2, k3, k4⟩ hrc hle).mono hst)
            exact ⟨undef, _, g, .inr ⟨by simp [hrun], rfl⟩, q1, q2, .any _⟩
        · cases h
      · cases h
    · rename_i l i ver idx off
      split at h
      · rename_i ver' ty sz xs cp hg
        split at h
        · rename_i hv; subst hv
          split at h
          · rename_i y hy
            split at h
            · rename_i hcond
              obtain ⟨hle, hform⟩ := hcond
              injection h with h; injection h with h1 h2; subst h1; subst h2
              cases ha with
              | ap _ _ _ _ _ ad hd hv had =>
                obtain rfl := had _ _ _ _ hg
                obtain ⟨cur, k1, k2, k3, k3', k4, k5, k6, k7, k8⟩ := hG.obj _ _ _ hg
                have hylen := k6 _ _ hy
                have hidx := (List.getElem?_eq_some_iff.1 hy).1
                have hroom : idx * sz + sz ≤ cur.size := by
                  rw [k3]
                  calc idx * sz + sz = (idx + 1) * sz := by rw [Nat.succ_mul]
                    _ ≤ _ := Nat.mul_le_mul_right _ (by omega)
                have hrun := run_storeAt (P := P) (t := t) (o := idx * sz + off) hi (by rw [hrc.1, hn]) hrc.one k1 (by rw [hrc.1]; omega)
                obtain ⟨s1, s2, s3, s4⟩ := setRow_good W (g.ab l i) (putCells cur (idx * sz + off) c.cells)
                obtain ⟨p1, p2⟩ := putCells_get cur (idx * sz + off) c.cells
                have hwc := fits_cells hform
                obtain ⟨q1, q2⟩ := good_set hG (o' := .arr ver' ty sz (xs.set idx (withCells y (splice y.cells off x.cells))) cp) hg rfl s1 s2 s3 s4 (fun b _ hb => setRow_other W _ b _ hb)
                  (fun _ _ _ _ _ h => by cases h; exact ⟨ver', xs, cp, rfl, Nat.le_refl _, by simp⟩) (fun hst => by
                  have key : ∀ (j : Nat) (z : V) (tt : Nat) (u : V), (xs.set idx (withCells y (splice y.cells off x.cells)))[j]? = some z → z.cells[tt]? = some u →
                      ((putCells cur (idx * sz + off) c.cells).getD (j * sz + tt) undef).oneCell' = true ∧ Rel W g H u ((putCells cur (idx * sz + off) c.cells).getD (j * sz + tt) undef) := fun j z tt u hj ht => by
                    rw [Array.getD_eq_getD_getElem?, p2]
                    rw [List.getElem?_set] at hj
                    split at hj
                    · rename_i hji; subst hji
                      try rw [if_pos hidx] at hj
                      injection hj with hj; subst hj
                      rw [hwc] at ht
                      rcases splice_get hle ht with ⟨a1, a2⟩ | ⟨a1, a2, a3⟩ | ⟨a1, a2⟩
                      · rw [if_neg (by omega), ← Array.getD_eq_getD_getElem?]; exact ⟨k7 _ _ _ _ hy a2, k8 _ _ _ _ hy a2⟩
                      · rw [if_pos ⟨by omega, by rw [hrc.1]; omega, by omega⟩, show idx * sz + tt - (idx * sz + off) = tt - off by omega, ← Array.getD_eq_getD_getElem?]
                        exact ⟨hrc.2.1 _ _ a3, hrc.2.2 _ _ a3⟩
                      · rw [if_neg (by rw [hrc.1]; omega), ← Array.getD_eq_getD_getElem?]; exact ⟨k7 _ _ _ _ hy a2, k8 _ _ _ _ hy a2⟩
                    · rename_i hji
                      have hzl := k6 _ _ hj
                      have htl := (List.getElem?_eq_some_iff.1 ht).1
                      have hout : ¬ (idx * sz + off ≤ j * sz + tt ∧ j * sz + tt < idx * sz + off + c.cells.size ∧ j * sz + tt < cur.size) := by
                        rw [hrc.1]
                        intro hh
                        rcases Nat.lt_or_ge j idx with q | q
                        · have : (j + 1) * sz ≤ idx * sz := Nat.mul_le_mul_right _ q
                          rw [Nat.succ_mul] at this; omega
                        · have : (idx + 1) * sz ≤ j * sz := Nat.mul_le_mul_right _ (by omega)
                          rw [Nat.succ_mul] at this; omega
                      rw [if_neg hout, ← Array.getD_eq_getD_getElem?]
                      exact ⟨k7 _ _ _ _ hj ht, k8 _ _ _ _ hj ht⟩
                  refine ⟨_, setRow_heap W _ cur _ ty _ k1, k2, by rw [p1]; exact k3, k3', by simpa using k4, k5, fun j z hj => ?_, fun j z tt u hj ht => (key j z tt u hj ht).1, fun j z tt u hj ht => (key j z tt u hj ht).2.mono hst⟩
                  rw [List.getElem?_set] at hj
                  split at hj
                  · rename_i hji; subst hji
                    try rw [if_pos hidx] at hj
                    injection hj with hj; subst hj
                    rw [hwc, splice_length hle]; exact hylen
                  · exact k6 _ _ hj)
                exact ⟨undef, _, g, .inr ⟨by simp [hrun], rfl⟩, q1, q2, .any _⟩
            · cases h
          · cases h
        · cases h
      · cases h
    · cases h
  · cases h

end
end Go.Ab
