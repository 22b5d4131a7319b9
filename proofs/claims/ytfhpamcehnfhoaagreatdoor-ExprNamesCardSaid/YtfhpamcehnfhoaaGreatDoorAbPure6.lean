import Derived.Test.YtfhpamcehnfhoaaGreatDoorAbPure5
import Derived.Laws.Tables
namespace Go.Ab
open Go
set_option linter.unusedSimpArgs false
set_option linter.unusedVariables false
section
variable {W : World} {g : Gh} {H : Heap} {P : Program}

/-! ### aggregates -/

/-- of known cells -/
def V.solid : V → Bool
  | .agg _ => true
  | v => v.leaf

/-- pointwise, cell by cell -/
def RelL (W : World) (g : Gh) (H : Heap) (vs : List V) (cs : Array Value) : Prop :=
  cs.size = vs.length ∧ (∀ j v, vs[j]? = some v → (cs.getD j undef).oneCell' = true) ∧ ∀ j v, vs[j]? = some v → Rel W g H v (cs.getD j undef)

/-- pointwise -/
def RelA (W : World) (g : Gh) (H : Heap) (vs : List V) (cs : Array Value) : Prop := cs.size = vs.length ∧ ∀ j v, vs[j]? = some v → Rel W g H v (cs.getD j undef)

theorem rel_cells {x : V} {c : Value} (h : x.solid = true) (hx : Rel W g H x c) : RelL W g H x.cells c.cells := by
  cases hx
  case agg vs cs hn ho1 hr => exact ⟨hn, ho1, hr⟩
  case any => simp [V.solid, V.leaf] at h
  case tup => simp [V.solid, V.leaf] at h
  all_goals
    refine ⟨rfl, fun j v hj => ?_, fun j v hj => ?_⟩
    · match j with
      | 0 => rfl
      | n + 1 => simp [V.cells] at hj
    · match j with
      | 0 =>
        simp only [V.cells, List.getElem?_cons_zero, Option.some.injEq] at hj; subst hj
        first
          | exact .bool _ | exact .int _ _ | exact .str _ | exact .nilp | exact .nils | exact .mapn | exact .nilf | exact .nili
          | (constructor <;> assumption)
      | n + 1 => simp [V.cells] at hj

def splice (cs : List V) (off : Nat) (xs : List V) : List V := cs.take off ++ xs ++ cs.drop (off + xs.length)

theorem splice_length {cs xs : List V} {off : Nat} (h : off + xs.length ≤ cs.length) : (splice cs off xs).length = cs.length := by
  unfold splice; simp; omega

theorem splice_get {cs xs : List V} {off j : Nat} {v : V} (h : off + xs.length ≤ cs.length) (hj : (splice cs off xs)[j]? = some v) :
    (j < off ∧ cs[j]? = some v) ∨ (off ≤ j ∧ j < off + xs.length ∧ xs[j - off]? = some v) ∨ (off + xs.length ≤ j ∧ cs[j]? = some v) := by
  unfold splice at hj
  by_cases h1 : j < off
  · left
    rw [List.append_assoc, List.getElem?_append_left (by simp; omega), List.getElem?_take, if_pos h1] at hj
    exact ⟨h1, hj⟩
  · by_cases h2 : j < off + xs.length
    · right; left
      rw [List.append_assoc, List.getElem?_append_right (by simp; omega), List.getElem?_append_left (by simp; omega)] at hj
      have : (List.take off cs).length = off := by simp; omega
      rw [this] at hj
      exact ⟨by omega, h2, hj⟩
    · right; right
      rw [List.getElem?_append_right (by simp; omega), List.getElem?_drop] at hj
      have : (List.take off cs ++ xs).length = off + xs.length := by simp; omega
      rw [this] at hj
      rw [show off + xs.length + (j - (off + xs.length)) = j by omega] at hj
      exact ⟨by omega, hj⟩

/-- the model's way to lay cells into cells -/
def putCells (cells : Array Value) (off : Nat) (xs : Array Value) : Array Value := xs.zipIdx.foldl (fun cs (c, j) => cs.setIfInBounds (off + j) c) cells

theorem putCells_spec (off : Nat) : ∀ (xs : List Value) (k : Nat) (cells : Array Value), 
    ((xs.zipIdx k).foldl (fun cs (p : Value × Nat) => cs.setIfInBounds (off + p.2) p.1) cells).size = cells.size ∧
    ∀ i, ((xs.zipIdx k).foldl (fun cs (p : Value × Nat) => cs.setIfInBounds (off + p.2) p.1) cells)[i]? = if off + k ≤ i ∧ i < off + k + xs.length ∧ i < cells.size then xs[i - (off + k)]? else cells[i]?
  | [], k, cells => by
    refine ⟨rfl, fun i => ?_⟩
    simp only [List.zipIdx_nil, List.foldl_nil, List.length_nil]
    rw [if_neg (by omega)]
  | x :: xs, k, cells => by
    obtain ⟨h1, h2⟩ := putCells_spec off xs (k + 1) (cells.setIfInBounds (off + k) x)
    simp only [List.zipIdx_cons, List.foldl_cons]
    refine ⟨by rw [h1]; simp, fun i => ?_⟩
    rw [h2 i]
    simp only [Array.size_setIfInBounds, List.length_cons]
    by_cases hi : off + (k + 1) ≤ i ∧ i < off + (k + 1) + xs.length ∧ i < cells.size
    · rw [if_pos hi, if_pos (by omega), show i - (off + k) = (i - (off + (k + 1))) + 1 by omega, List.getElem?_cons_succ]
    · rw [if_neg hi, Array.getElem?_setIfInBounds]
      by_cases hk : off + k = i
      · subst hk
        by_cases hs : off + k < cells.size
        · rw [if_pos rfl, if_pos hs, if_pos (by omega)]; simp
        · rw [if_pos rfl, if_neg hs, if_neg (by omega)]
          simp [hs]
      · rw [if_neg hk, if_neg (by omega)]

theorem putCells_get (cells : Array Value) (off : Nat) (xs : Array Value) : (putCells cells off xs).size = cells.size ∧
    ∀ i, (putCells cells off xs)[i]? = if off ≤ i ∧ i < off + xs.size ∧ i < cells.size then xs[i - off]? else cells[i]? := by
  obtain ⟨h1, h2⟩ := putCells_spec off xs.toList 0 cells
  have e : putCells cells off xs = (xs.toList.zipIdx 0).foldl (fun cs (p : Value × Nat) => cs.setIfInBounds (off + p.2) p.1) cells := by
    unfold putCells
    rw [← Array.foldl_toList, Array.toList_zipIdx]
  rw [e]
  refine ⟨h1, fun i => ?_⟩
  rw [h2 i]
  simp

theorem relL_splice {vs xs : List V} {cs ys : Array Value} {off : Nat} (h : RelL W g H vs cs) (k : RelL W g H xs ys) (hle : off + xs.length ≤ vs.length) : RelL W g H (splice vs off xs) (putCells cs off ys) := by
  obtain ⟨p1, p2⟩ := putCells_get cs off ys
  refine ⟨by rw [p1, splice_length hle, h.1], fun j v hj => ?_, fun j v hj => ?_⟩
  all_goals
    have hlt := (List.getElem?_eq_some_iff.1 hj).1
    rw [splice_length hle] at hlt
    rw [Array.getD_eq_getD_getElem?, p2]
    rcases splice_get hle hj with ⟨a, b⟩ | ⟨a, b, c⟩ | ⟨a, b⟩
    · rw [if_neg (by omega), ← Array.getD_eq_getD_getElem?]; first | exact h.2.1 j v b | exact h.2.2 j v b
    · rw [if_pos ⟨a, by rw [k.1]; omega, by rw [h.1]; omega⟩, ← Array.getD_eq_getD_getElem?]; first | exact k.2.1 _ v c | exact k.2.2 _ v c
    · rw [if_neg (by rw [k.1]; omega), ← Array.getD_eq_getD_getElem?]; first | exact h.2.1 j v b | exact h.2.2 j v b

/-- lay parts at places -/
def fillV (place : Nat → Option (Nat × Nat)) (cells : List V) : List (Nat × V) → Option (List V)
  | [] => some cells
  | (i, x) :: rest => match place i with
    | none => none
    | some (off, size) => if x.solid && x.cells.length == size && decide (off + size ≤ cells.length) then fillV place (splice cells off x.cells) rest else none

theorem fill_sound {place : Nat → Option (Nat × Nat)} : ∀ (ps : List (Nat × V)) (cps : List (Nat × Value)) (cells : List V) (cs : Array Value) (r : List V), fillV place cells ps = some r → RelL W g H cells cs →
    cps.length = ps.length → (∀ (j i : Nat) (x : V), ps[j]? = some (i, x) → ∃ c, cps[j]? = some (i, c) ∧ Rel W g H x c) → ∃ rs, Instr.fill place cs cps = some rs ∧ RelL W g H r rs
  | [], cps, cells, cs, r, h, hc, hl, _ => by
    simp only [fillV, Option.some.injEq] at h; subst h
    cases cps with
    | nil => exact ⟨cs, rfl, hc⟩
    | cons => simp at hl
  | (i, x) :: ps, cps, cells, cs, r, h, hc, hl, hr => by
    cases cps with
    | nil => simp at hl
    | cons q cps =>
      obtain ⟨c, hq, hx⟩ := hr 0 i x rfl
      simp only [List.getElem?_cons_zero, Option.some.injEq] at hq; subst hq
      simp only [fillV] at h
      split at h
      · cases h
      · rename_i off size hp
        split at h
        · rename_i hcond
          simp only [Bool.and_eq_true, beq_iff_eq, decide_eq_true_eq] at hcond
          obtain ⟨⟨h1, h2⟩, h3⟩ := hcond
          have k := rel_cells h1 hx
          have k1 := k.1
          have hsp : RelL W g H (splice cells off x.cells) (putCells cs off c.cells) := relL_splice hc k (by omega)
          obtain ⟨rs, e1, e2⟩ := fill_sound ps cps _ _ r h hsp (by simpa using hl) (fun j i y hj => by simpa using hr (j + 1) i y (by simpa using hj))
          refine ⟨rs, ?_, e2⟩
          have hcond2 : ¬ ((decide (c.cells.size ≠ size) || decide (off + c.cells.size > cs.size)) = true) := by
            have := hc.1
            simp; omega
          simp only [Instr.fill, hp]
          rw [if_neg hcond2]
          exact e1
        · cases h

def fieldPlaces (P : Program) (fs : List Field) : Option (List (Nat × Nat)) := fs.mapM fun f => (P.info? f.type).map fun i => (f.offset, i.size)

def partsOf (ρ : Operand → V) (ps : Array (Nat × Operand)) : List (Nat × V) := ps.toList.map fun p => (p.1, ρ p.2)

def pBuild (P : Program) (t : Nat) (ps : List (Nat × V)) : Option V :=
  match zeroV P t with
  | some (.agg z) => match P.underlying t with
    | some (.struct fs) => match fieldPlaces P fs.toList with
      | some places => (fillV (fun i => places[i]?) z ps).map .agg
      | none => none
    | some (.array _ e) => if (P.info? e).isSome then (fillV (fun i => some (i * P.cellsOf e, P.cellsOf e)) z ps).map .agg else none
    | _ => none
  | _ => none

theorem sound_build {t : Nat} {ps : List (Nat × V)} {v : V} {cps : Array (Nat × Value)} (h : pBuild P t ps = some v) (hl : cps.size = ps.length)
    (hr : ∀ (j i : Nat) (x : V), ps[j]? = some (i, x) → ∃ c, cps[j]? = some (i, c) ∧ Rel W g H x c) : Yields P W g H (Instr.build t cps) v := by
  unfold pBuild at h
  split at h
  · rename_i z hz
    obtain ⟨zc, hz1, hz2⟩ := run_zero (W := W) (g := g) (H := H) hz
    cases hz2 with
    | agg _ cs hn ho1 hrz =>
      split at h
      · rename_i fs hu
        split at h
        · rename_i places hp
          simp only [Option.map_eq_some_iff] at h
          obtain ⟨r, hf, rfl⟩ := h
          obtain ⟨rs, e1, e2⟩ := fill_sound ps cps.toList z cs r hf ⟨hn, ho1, hrz⟩ (by simpa using hl) (fun j i x hj => by simpa using hr j i x hj)
          refine .same (c := .agg rs) ?_ (.agg _ _ e2.1 e2.2.1 e2.2.2)
          have hpl := run_places (P := P) W fs.toList places hp
          simp [Instr.build, hz1, run_underlying' hu, Value.cells, Array.mapM_eq_mapM_toList, hpl, e1]
        · cases h
      · rename_i n e hu
        split at h
        · rename_i he
          obtain ⟨i, hi⟩ := Option.isSome_iff_exists.1 he
          simp only [Option.map_eq_some_iff] at h
          obtain ⟨r, hf, rfl⟩ := h
          obtain ⟨rs, e1, e2⟩ := fill_sound ps cps.toList z cs r hf ⟨hn, ho1, hrz⟩ (by simpa using hl) (fun j i x hj => by simpa using hr j i x hj)
          refine .same (c := .agg rs) ?_ (.agg _ _ e2.1 e2.2.1 e2.2.2)
          have hsz : (sizeOf e).run P W = .ok (P.cellsOf e) W := by simp [sizeOf, typeInfo, hi, Program.cellsOf]
          simp [Instr.build, hz1, run_underlying' hu, Value.cells, hsz, e1]
        · cases h
      · cases h
  · cases h

/-! ### slices written out -/

/-- all the parts in their order -/
def inOrder : Nat → List (Nat × V) → Bool
  | _, [] => true
  | k, (i, _) :: r => i == k && inOrder (k + 1) r

def pBuildSlice (P : Program) (t len : Nat) (ps : List (Nat × V)) : Option V :=
  match P.underlying t with
  | some (.slice e) => match zeroV P e with
    | some z =>
      if z.solid && z.cells.length == P.cellsOf e && decide (0 < P.cellsOf e) && (P.info? e).isSome && ps.length == len && inOrder 0 ps && ps.all (fun p => p.2.solid && p.2.cells.length == P.cellsOf e) && decide (len * P.cellsOf e ≤ 2 ^ 24) then
        some (if len = 0 then .sl (P.cellsOf e) [] true else .sl (P.cellsOf e) (ps.map (·.2)) true)
      else none
    | none => none
  | _ => none

theorem flat_get {sz : Nat} : ∀ (xs : List V), (∀ x ∈ xs, x.cells.length = sz) → ∀ (j t : Nat) (x v : V), xs[j]? = some x → x.cells[t]? = some v → (xs.flatMap V.cells)[j * sz + t]? = some v
  | [], _, j, t, x, v, hj, _ => by simp at hj
  | y :: ys, h, 0, t, x, v, hj, ht => by
    simp only [List.getElem?_cons_zero, Option.some.injEq] at hj; subst hj
    have hlt := (List.getElem?_eq_some_iff.1 ht).1
    simp only [List.flatMap_cons, Nat.zero_mul, Nat.zero_add]
    rw [List.getElem?_append_left hlt]; exact ht
  | y :: ys, h, j + 1, t, x, v, hj, ht => by
    have hy := h y (.head _)
    simp only [List.flatMap_cons]
    rw [List.getElem?_append_right (by rw [hy, Nat.succ_mul]; omega), hy, show (j + 1) * sz + t - sz = j * sz + t by rw [Nat.succ_mul]; omega]
    exact flat_get ys (fun x hx => h x (.tail _ hx)) j t x v (by simpa using hj) ht

theorem fillV_order {sz : Nat} : ∀ (ps : List (Nat × V)) (k : Nat) (cells : List V), inOrder k ps = true → (∀ p ∈ ps, p.2.solid = true ∧ p.2.cells.length = sz) → cells.length = (k + ps.length) * sz →
    fillV (fun i => some (i * sz, sz)) cells ps = some (cells.take (k * sz) ++ (ps.map (·.2)).flatMap V.cells)
  | [], k, cells, _, _, hl => by
    simp only [fillV, List.map_nil, List.flatMap_nil, List.append_nil, Option.some.injEq]
    rw [List.take_of_length_le (by rw [hl]; simp)]
  | (i, x) :: ps, k, cells, ho, hs, hl => by
    simp only [inOrder, Bool.and_eq_true, beq_iff_eq] at ho
    obtain ⟨rfl, ho⟩ := ho
    obtain ⟨h1, h2⟩ := hs (i, x) (.head _)
    simp only at h1 h2
    have hb : i * sz + sz ≤ cells.length := by
      rw [hl, List.length_cons]
      calc i * sz + sz = (i + 1) * sz := by rw [Nat.succ_mul]
        _ ≤ _ := Nat.mul_le_mul_right _ (by omega)
    simp only [fillV, h1, h2, beq_self_eq_true, Bool.true_and, hb, decide_true, if_true]
    have hlen : (splice cells (i * sz) x.cells).length = (i + 1 + ps.length) * sz := by
      rw [splice_length (by omega), hl, List.length_cons]; congr 1; omega
    rw [fillV_order ps (i + 1) _ ho (fun p hp => hs p (.tail _ hp)) hlen]
    simp only [List.map_cons, List.flatMap_cons, Option.some.injEq]
    rw [← List.append_assoc]
    congr 1
    unfold splice
    rw [Nat.succ_mul, List.append_assoc, List.take_append, List.take_append]
    simp only [List.length_take]
    have e1 : min (i * sz) cells.length = i * sz := by omega
    have e2 : i * sz + sz - i * sz = sz := by omega
    have e3 : List.take (i * sz + sz) (List.take (i * sz) cells) = List.take (i * sz) cells := List.take_of_length_le (by rw [List.length_take]; omega)
    have e4 : List.take sz x.cells = x.cells := List.take_of_length_le (by omega)
    rw [e1, e2, e3, e4, h2]
    simp

theorem sound_buildSlice {t len : Nat} {ps : List (Nat × V)} {v : V} {cps : Array (Nat × Value)} (hG : Good W g H) (h : pBuildSlice P t len ps = some v) (hl : cps.size = ps.length)
    (hr : ∀ (j i : Nat) (x : V), ps[j]? = some (i, x) → ∃ c, cps[j]? = some (i, c) ∧ Rel W g H x c) : Yields P W g H (Instr.buildSlice t len cps) v := by
  unfold pBuildSlice at h
  split at h
  · rename_i e hu
    split at h
    · rename_i z hz
      split at h
      · rename_i hc
        simp only [Bool.and_eq_true, beq_iff_eq, decide_eq_true_eq, List.all_eq_true] at hc
        obtain ⟨⟨⟨⟨⟨⟨⟨c1, c2⟩, c3⟩, c4⟩, c5⟩, c6⟩, c7⟩, c8⟩ := hc
        injection h with h
        obtain ⟨inf, hi⟩ := Option.isSome_iff_exists.1 c4
        have hsz : (sizeOf e).run P W = .ok (P.cellsOf e) W := by simp [sizeOf, typeInfo, hi, Program.cellsOf]
        obtain ⟨zc, hz1, hz2⟩ := run_zero (W := W) (g := g) (H := H) hz
        obtain ⟨zs1, zs3, zs2⟩ := rel_cells c1 hz2
        have hbig : ¬ (len * P.cellsOf e > 2 ^ 24) := by omega
        by_cases h0 : len = 0
        · subst h0
          rw [if_pos rfl] at h; subst h
          have hps : ps = [] := List.eq_nil_of_length_eq_zero c5
          subst hps
          have hcps : cps = #[] := by simpa using hl
          subst hcps
          refine ⟨.slice (some ⟨W.heap.size, 0, none⟩) 0 0, W.alloc (.cells (Array.map (fun _ => default) (Array.range 0)) e), ?_, .alloc _ _, .sle _ _ _ _ (fun _ => rfl)⟩
          simp [Instr.buildSlice, run_underlying' hu, hsz, Instr.fill, newRow]
        · rw [if_neg h0] at h; subst h
          have hne : ¬ (len * P.cellsOf e = 0) := by
            intro hm
            rcases Nat.mul_eq_zero.1 hm with q | q <;> omega
          let cells0 : Array Value := (Array.range (len * P.cellsOf e)).map (zc.cells[· % zc.cells.size]!)
          let zl : List V := (List.range (len * P.cellsOf e)).map fun i => z.cells.getD (i % z.cells.length) .any
          have hrel0 : RelL W g H zl cells0 := by
            have key : ∀ j v, zl[j]? = some v → ∃ k, z.cells[k]? = some v ∧ cells0.getD j undef = zc.cells.getD k undef := fun j v hj => by
              have hjl : j < len * P.cellsOf e := by
                have := (List.getElem?_eq_some_iff.1 hj).1
                simpa [zl] using this
              simp only [zl, List.getElem?_map, List.getElem?_range hjl, Option.map_some, Option.some.injEq] at hj
              have hm : j % z.cells.length < z.cells.length := Nat.mod_lt _ (by omega)
              have hv : z.cells[j % z.cells.length]? = some v := by
                rw [List.getD_eq_getElem?_getD, List.getElem?_eq_getElem hm] at hj
                simp only [Option.getD_some] at hj
                rw [List.getElem?_eq_getElem hm, hj]
              have hm2 : j % zc.cells.size < zc.cells.size := by rw [zs1]; exact hm
              refine ⟨_, hv, ?_⟩
              have hr : (Array.range (len * P.cellsOf e))[j]? = some j := by simp [hjl]
              simp only [cells0, Array.getD_eq_getD_getElem?, Array.getElem?_map, hr, Option.map_some, Option.getD_some]
              rw [getElem!_pos zc.cells (j % zc.cells.size) hm2]
              have hz' : (zc.cells)[j % z.cells.length]? = some (zc.cells[j % zc.cells.size]) := by
                rw [← zs1]; exact Array.getElem?_eq_getElem hm2
              rw [hz']; rfl
            refine ⟨by simp [zl, cells0], fun j v hj => ?_, fun j v hj => ?_⟩
            all_goals
              obtain ⟨k, hk1, hk2⟩ := key j v hj
              rw [hk2]
              first | exact zs3 _ _ hk1 | exact zs2 _ _ hk1
          have hfv := fillV_order ps 0 zl c6 c7 (by simp [zl, c5])
          simp only [Nat.zero_mul, List.take_zero, List.nil_append] at hfv
          obtain ⟨rs, e1, e2⟩ := fill_sound ps cps.toList zl cells0 _ hfv hrel0 (by simpa using hl) (fun j i x hj => by simpa using hr j i x hj)
          have hxs : ∀ x ∈ ps.map (·.2), x.cells.length = P.cellsOf e := fun x hx => by
            obtain ⟨p, hp, rfl⟩ := List.mem_map.1 hx
            exact (c7 p hp).2
          refine ⟨.slice (some ⟨W.heap.size, 0, none⟩) len len, W.alloc (.cells rs e), ?_, .alloc _ _, ?_⟩
          · simp only [Instr.buildSlice, Sem.run_bind, run_underlying' hu, Result.andThen_ok, hsz, Sem.run_ite, hbig, hne, if_false, Sem.run_pure, hz1]
            have e1' : Instr.fill (fun i => some (i * P.cellsOf e, P.cellsOf e)) (Array.map (fun x => zc.cells[x % zc.cells.size]!) (Array.range (len * P.cellsOf e))) cps.toList = some rs := e1
            simp [e1', newRow]
          · have hlen : (ps.map (·.2)).length = len := by simp [c5]
            have hgr := (Grow.alloc W (.cells rs e)).step (g := g) (H := H)
            rw [← hlen]
            refine .sl _ _ true W.heap.size 0 _ (fun j t => rs.getD (j * P.cellsOf e + t) undef) (fun hn => ?_) c3 (Nat.le_refl _) (fun _ => rfl) (fun j x hj => hxs x (List.mem_of_getElem? hj)) (fun j x t v hj ht => ?_) (fun j x t v hj ht => e2.2.1 _ _ (flat_get _ hxs j t x v hj ht)) (fun j x t v hj ht => ?_)
            · obtain ⟨l, i, o, ho, hb⟩ := hn
              have := hG.lt l i o ho
              omega
            · have := flat_get _ hxs j t x v hj ht
              have hlt := (List.getElem?_eq_some_iff.1 this).1
              rw [Nat.zero_add]
              rw [World.cell?_alloc_new]
              rw [Array.getElem?_eq_getElem (by rw [e2.1]; exact hlt)]
              simp [Array.getD_eq_getD_getElem?, Array.getElem?_eq_getElem (show j * P.cellsOf e + t < rs.size by rw [e2.1]; exact hlt)]
            · exact (e2.2.2 _ _ (flat_get _ hxs j t x v hj ht)).mono hgr
      · cases h
    · cases h
  · cases h

end
end Go.Ab
