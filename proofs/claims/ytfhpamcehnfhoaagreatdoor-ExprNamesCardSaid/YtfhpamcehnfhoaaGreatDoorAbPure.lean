/-
  OPERATIONS THAT TURN NO OBJECT: what each computes on abstract values, and that the model computes the same.
-/
import Derived.Test.YtfhpamcehnfhoaaGreatDoorAbCore
import Derived.Laws.Slices
import Derived.Laws.Strings
import Derived.Laws.Cells
import Derived.WideLaws
namespace Go.Ab
open Go
set_option linter.unusedSimpArgs false
set_option linter.unusedVariables false

def ofLeaf : Value → V
  | .bool b => .bool b
  | .int k n => .int k n
  | .string s => .str s.data.toList
  | .pointer none => .nilp
  | .slice none 0 0 => .nils
  | .map none => .mapn
  | .nilFunc => .nilf
  | .nilIface => .nili
  | _ => .any

def ofConst : Value → V
  | .agg cs => if cs.toList.all (·.oneCell') then .agg (cs.toList.map ofLeaf) else .any
  | .tuple cs => .tup (cs.toList.map ofLeaf)
  | .iface t v => .iface t (ofLeaf v)
  | v => ofLeaf v

section
variable {W : World} {g : Gh} {H : Heap} {P : Program}

theorem rel_ofLeaf (v : Value) : Rel W g H (ofLeaf v) v := by
  unfold ofLeaf
  split
  · exact .bool _
  · exact .int _ _
  · exact .str _
  · exact .nilp
  · exact .nils
  · exact .mapn
  · exact .nilf
  · exact .nili
  · exact .any _

theorem rel_ofConst (v : Value) : Rel W g H (ofConst v) v := by
  unfold ofConst
  split
  · rename_i cs
    split
    · rename_i h1
      refine .agg _ _ (by simp) (fun j v hj => ?_) fun j v hj => ?_
      all_goals
        simp only [List.getElem?_map, Option.map_eq_some_iff] at hj
        obtain ⟨a, ha, rfl⟩ := hj
        rw [Array.getElem?_toList] at ha
        simp only [Array.getD_eq_getD_getElem?, ha, Option.getD_some]
      · exact List.all_eq_true.1 h1 a (by rw [Array.mem_toList_iff]; exact Array.mem_of_getElem? ha)
      · exact rel_ofLeaf _
    · exact .any _
  · rename_i cs
    refine .tup _ _ (by simp) fun j v hj => ?_
    simp only [List.getElem?_map, Option.map_eq_some_iff] at hj
    obtain ⟨a, ha, rfl⟩ := hj
    rw [Array.getElem?_toList] at ha
    simp only [Array.getD_eq_getD_getElem?, ha, Option.getD_some]
    exact rel_ofLeaf _
  · exact .iface _ _ _ (rel_ofLeaf _)
  · exact rel_ofLeaf _

/-- cells read as a value of a type -/
def rd (P : Program) (t : Nat) (cs : List V) (off : Nat) : Option V :=
  match P.underlying t with
  | none => none
  | some (.struct _) | some (.array _ _) => if off + P.cellsOf t ≤ cs.length then some (.agg ((cs.drop off).take (P.cellsOf t))) else none
  | some _ => cs[off]?

theorem info_of_underlying {t : Nat} {d : TypeDesc} (h : P.underlying t = some d) : ∃ i, P.info? t = some i ∧ P.cellsOf t = i.size := by
  unfold Program.underlying at h
  unfold Program.cellsOf
  cases hi : P.info? t with
  | none => simp [hi] at h
  | some i => exact ⟨i, rfl, by simp⟩

theorem run_underlying' {t : Nat} {d : TypeDesc} (h : P.underlying t = some d) : (underlying t).run P W = .ok d W := by
  simp [underlying, h]

theorem run_sizeOf' {t : Nat} {d : TypeDesc} (h : P.underlying t = some d) : (sizeOf t).run P W = .ok (P.cellsOf t) W := by
  obtain ⟨i, hi, hc⟩ := info_of_underlying h
  simp [sizeOf, typeInfo, hi, hc]

def TypeDesc.isAgg : TypeDesc → Bool
  | .struct _ | .array _ _ => true
  | _ => false

theorem run_isAgg' {t : Nat} {d : TypeDesc} (h : P.underlying t = some d) : (isAgg t).run P W = .ok (TypeDesc.isAgg d) W := by
  simp [isAgg, underlying, h]
  cases d <;> simp [TypeDesc.isAgg]

theorem rd_spec {t : Nat} {cs : List V} {off : Nat} {v : V} (h : rd P t cs off = some v) : ∃ d, P.underlying t = some d ∧
    ((TypeDesc.isAgg d = true ∧ off + P.cellsOf t ≤ cs.length ∧ v = .agg ((cs.drop off).take (P.cellsOf t))) ∨ (TypeDesc.isAgg d = false ∧ cs[off]? = some v)) := by
  unfold rd at h
  split at h
  · cases h
  · rename_i hu
    split at h
    · rename_i hle; injection h with h; exact ⟨_, hu, .inl ⟨rfl, hle, h.symm⟩⟩
    · cases h
  · rename_i hu
    split at h
    · rename_i hle; injection h with h; exact ⟨_, hu, .inl ⟨rfl, hle, h.symm⟩⟩
    · cases h
  · rename_i d hd1 hd2 hu
    refine ⟨d, hu, .inr ⟨?_, h⟩⟩
    cases d <;> first | rfl | (exact (hd1 _ rfl).elim) | (exact (hd2 _ _ rfl).elim)

/-- a variable of a type, read out of memory -/
theorem run_loadVar_rel {t : Nat} {cs : List V} {off : Nat} {v : V} {b o : Nat} {c : Nat → Value} (h : rd P t cs off = some v)
    (hc : ∀ j x, cs[j]? = some x → W.cell? ⟨b, o + j, none⟩ = some (c j)) (h1c : ∀ j x, cs[j]? = some x → (c j).oneCell' = true) (hr : ∀ j x, cs[j]? = some x → Rel W g H x (c j)) :
    ∃ u, (loadVar t ⟨b, o + off, none⟩).run P W = .ok u W ∧ Rel W g H v u := by
  obtain ⟨d, hd, ⟨ha, hle, rfl⟩ | ⟨ha, hv⟩⟩ := rd_spec h
  · have hl : ∀ j, j < P.cellsOf t → W.cell? ((⟨b, o + off, none⟩ : Addr).add j) = some (c (off + j)) := fun j hj => by
      have := hc (off + j) (cs[off + j]'(by omega)) (by rw [List.getElem?_eq_getElem])
      unfold Addr.add
      split
      · rename_i h0; subst h0; simpa using this
      · simpa [Nat.add_assoc] using this
    refine ⟨.agg ((List.range (P.cellsOf t)).map fun j => c (off + j)).toArray, ?_, ?_⟩
    · simp [loadVar, run_isAgg' hd, ha, run_sizeOf' hd, run_loadCells W _ _ _ hl]
    · refine .agg _ _ (by simp; omega) (fun j x hj => ?_) fun j x hj => ?_
      · rw [List.getElem?_take] at hj
        split at hj
        · rename_i hjlt
          rw [List.getElem?_drop] at hj
          have := h1c _ _ hj
          simpa [hjlt] using this
        · cases hj
      · rw [List.getElem?_take] at hj
        split at hj
        · rename_i hjlt
          rw [List.getElem?_drop] at hj
          have := hr _ _ hj
          simpa [hjlt] using this
        · cases hj
  · refine ⟨c off, ?_, hr _ _ hv⟩
    simp [loadVar, run_isAgg' hd, ha, hc _ _ hv]

theorem run_part_rel {t : Nat} {cs : List V} {off : Nat} {v : V} {a : Array Value} (h : rd P t cs off = some v) (hn : a.size = cs.length)
    (h1c : ∀ j x, cs[j]? = some x → (a.getD j undef).oneCell' = true) (hr : ∀ j x, cs[j]? = some x → Rel W g H x (a.getD j undef)) : ∃ u, (part t a off).run P W = .ok u W ∧ Rel W g H v u := by
  obtain ⟨d, hd, ⟨ha, hle, rfl⟩ | ⟨ha, hv⟩⟩ := rd_spec h
  · refine ⟨.agg (a.extract off (off + P.cellsOf t)), by simp [part, run_isAgg' hd, ha, run_sizeOf' hd], ?_⟩
    have h2 : ∀ j, j < P.cellsOf t → (a.extract off (off + P.cellsOf t)).getD j undef = a.getD (off + j) undef := fun j hj => by
      simp only [Array.getD_eq_getD_getElem?]
      rw [Array.getElem?_extract]
      rw [if_pos (by omega)]
    refine .agg _ _ (by simp; omega) (fun j x hj => ?_) fun j x hj => ?_
    all_goals
      rw [List.getElem?_take] at hj
      split at hj
      · rename_i hjlt
        rw [List.getElem?_drop] at hj
        rw [h2 j hjlt]
        first | exact h1c _ _ hj | exact hr _ _ hj
      · cases hj
  · have hlt : off < a.size := by rw [hn]; exact (List.getElem?_eq_some_iff.1 hv).1
    refine ⟨a.getD off undef, ?_, hr _ _ hv⟩
    simp [part, run_isAgg' hd, ha, Array.getElem?_eq_getElem hlt]

/-- what is said of an operation that turns no object -/
def Yields (P : Program) (W : World) (g : Gh) (H : Heap) (s : Sem Value) (v : V) : Prop := ∃ c W', s.run P W = .ok c W' ∧ Grow W W' ∧ Rel W' g H v c

theorem Yields.same {s : Sem Value} {v : V} {c : Value} (h : s.run P W = .ok c W) (hr : Rel W g H v c) : Yields P W g H s v := ⟨c, W, h, .refl W, hr⟩

/-- cells of an array's element -/
def aelem (H : Heap) (l i ver idx : Nat) : Option (Nat × List V) :=
  match H.get l i with
  | some (.arr ver' _ sz xs _) => if ver' = ver then (xs[idx]?).map fun x => (sz, x.cells) else none
  | _ => none

def pLoad (P : Program) (H : Heap) (t : Nat) : V → Option V
  | .ref cs off => rd P t cs off
  | .ptr l i off => match H.get l i with
    | some (.cells cs) => rd P t cs off
    | _ => none
  | .ap l i ver idx off => (aelem H l i ver idx).bind fun p => rd P t p.2 off
  | _ => none

theorem cell_of {b j : Nat} {c : Array Value} {ty : TypeId} {f : Nat × Nat} (h : W.heap[b]? = some (.cells c ty f)) (hj : j < c.size) : W.cell? ⟨b, j, none⟩ = some (c.getD j undef) := by
  simp [World.cell?, h, hj]

theorem aelem_spec (hG : Good W g H) {l i ver idx : Nat} {p : Nat × List V} (h : aelem H l i ver idx = some p) :
    ∃ ty sz xs cp x, H.get l i = some (.arr ver ty sz xs cp) ∧ xs[idx]? = some x ∧ p = (sz, x.cells) ∧ x.cells.length = sz ∧
      ∃ c, W.heap[g.ab l i]? = some (.cells c ty (0, 0)) ∧ idx * sz + sz ≤ c.size ∧ (∀ t v, x.cells[t]? = some v → (c.getD (idx * sz + t) undef).oneCell' = true) ∧ ∀ t v, x.cells[t]? = some v → Rel W g H v (c.getD (idx * sz + t) undef) := by
  unfold aelem at h
  split at h
  · rename_i ver' ty sz xs cp hg
    split at h
    · rename_i hv; subst hv
      simp only [Option.map_eq_some_iff] at h
      obtain ⟨x, hx, rfl⟩ := h
      obtain ⟨c, h1, h3, h4, h4', h5, h6, h7, h8, h9⟩ := hG.obj l i _ hg
      refine ⟨ty, sz, xs, cp, x, hg, hx, rfl, h7 _ _ hx, c, h1, ?_, fun t v ht => h8 _ _ _ _ hx ht, fun t v ht => h9 _ _ _ _ hx ht⟩
      have := (List.getElem?_eq_some_iff.1 hx).1
      rw [h4]
      calc idx * sz + sz = (idx + 1) * sz := by rw [Nat.succ_mul]
        _ ≤ _ := Nat.mul_le_mul_right _ (by omega)
    · cases h
  · cases h

theorem sound_load' (hG : Good W g H) {t : Nat} {x v : V} {c : Value} (h : pLoad P H t x = some v) (hx : Rel W g H x c) : ∃ a u, c = .pointer (some a) ∧ (loadVar t a).run P W = .ok u W ∧ Rel W g H v u := by
  unfold pLoad at h
  split at h
  · cases hx with
    | ref cs off b o c hb hc ho1 hr =>
      obtain ⟨u, h1, h2⟩ := run_loadVar_rel h hc ho1 hr
      exact ⟨_, u, rfl, h1, h2⟩
  · rename_i l i off
    split at h
    · rename_i cs hg
      cases hx with
      | ptr _ _ _ hd =>
        obtain ⟨a, ty, h1, h3, h3', h4⟩ := hG.obj l i _ hg
        obtain ⟨u, k1, k2⟩ := run_loadVar_rel (b := g.blk l i) (o := 0) (c := fun j => a.getD j undef) h (fun j y hj => by
          have := (List.getElem?_eq_some_iff.1 hj).1
          simpa using cell_of h1 (by omega)) (fun j y hj => h3' _ _ hj) (fun j y hj => h4 _ _ hj)
        rw [Nat.zero_add] at k1
        exact ⟨_, u, rfl, k1, k2⟩
    · cases h
  · rename_i l i ver idx off
    simp only [Option.bind_eq_some_iff] at h
    obtain ⟨p, hp, h⟩ := h
    obtain ⟨ty, sz, xs, cp, y, hg, hy, rfl, hl, a, h1, h3, h3', h4⟩ := aelem_spec hG hp
    cases hx with
    | ap _ _ _ _ _ ad hd hv ha =>
      obtain rfl := ha _ _ _ _ hg
      obtain ⟨u, k1, k2⟩ := run_loadVar_rel (b := g.ab l i) (o := idx * sz) (c := fun j => a.getD (idx * sz + j) undef) h (fun j z hj => by
        have := (List.getElem?_eq_some_iff.1 hj).1
        simp only at this
        exact cell_of h1 (by omega)) (fun j z hj => h3' _ _ hj) (fun j z hj => h4 _ _ hj)
      exact ⟨_, u, rfl, k1, k2⟩
  · cases h

theorem sound_load (hG : Good W g H) {t : Nat} {x v : V} {c : Value} (h : pLoad P H t x = some v) (hx : Rel W g H x c) : Yields P W g H (Instr.loadAt t c) v := by
  obtain ⟨a, u, rfl, h1, h2⟩ := sound_load' hG h hx
  exact .same (c := u) (by simp [Instr.loadAt, Instr.sureAddr, h1]) h2

/-- the offset of a field, if it is not empty -/
def fieldOff (P : Program) (s f : Nat) : Option Nat :=
  match P.underlying s with
  | some (.struct fs) => match fs[f]? with
    | some x => if (P.underlying x.type).isSome && P.cellsOf x.type != 0 then some x.offset else none
    | none => none
  | _ => none

def pFieldAddr (P : Program) (s f : Nat) (x : V) : Option V :=
  match fieldOff P s f with
  | none => none
  | some o => match x with
    | .ref cs off => some (.ref cs (off + o))
    | .ptr l i off => some (.ptr l i (off + o))
    | .ap l i ver idx off => some (.ap l i ver idx (off + o))
    | _ => none

theorem add_eq (b o n : Nat) : (⟨b, o, none⟩ : Addr).add n = ⟨b, o + n, none⟩ := by
  unfold Addr.add; split
  · rename_i h; subst h; rfl
  · rfl

theorem run_fieldAt {s f : Nat} {o : Nat} {a : Addr} (h : fieldOff P s f = some o) : (Instr.fieldAt s (.pointer (some a)) f).run P W = .ok (.pointer (some (a.add o))) W := by
  unfold fieldOff at h
  split at h
  · rename_i fs hu
    split at h
    · rename_i x hx
      split at h
      · rename_i hc
        simp only [Bool.and_eq_true, bne_iff_ne, ne_eq] at hc
        injection h with h; subst h
        obtain ⟨d, hd⟩ := Option.isSome_iff_exists.1 hc.1
        simp [Instr.fieldAt, run_underlying' hu, hx, Instr.sureAddr, fieldPlace, run_sizeOf' hd, hc.2]
      · cases h
    · cases h
  · cases h

theorem sound_fieldAddr {s f : Nat} {x v : V} {c : Value} (h : pFieldAddr P s f x = some v) (hx : Rel W g H x c) : Yields P W g H (Instr.fieldAt s c f) v := by
  unfold pFieldAddr at h
  split at h
  · cases h
  · rename_i o ho
    split at h
    · injection h with h; subst h
      cases hx with
      | ref _ _ b q c hb hc ho1 hr =>
        refine .same (run_fieldAt ho) ?_
        rw [add_eq, Nat.add_assoc]
        exact .ref _ _ b q c hb hc ho1 hr
    · injection h with h; subst h
      cases hx with
      | ptr _ _ _ hd =>
        refine .same (run_fieldAt ho) ?_
        rw [add_eq]
        exact .ptr _ _ _ hd
    · rename_i l i ver idx off
      injection h with h; subst h
      cases hx with
      | ap _ _ _ _ _ ad hd hv ha =>
        refine .same (run_fieldAt ho) (.ap l i ver idx (off + o) _ hd hv fun ty sz xs cp hg => ?_)
        rw [ha _ _ _ _ hg, add_eq, Nat.add_assoc]
    · cases h

end
end Go.Ab
