/-
  RANGES OVER STRINGS.
-/
import Derived.Test.YtfhpamcehnfhoaaGreatDoorAbHeap4
namespace Go.Ab
open Go
set_option linter.unusedSimpArgs false
set_option linter.unusedVariables false
section
variable {W : World} {g : Gh} {H : Heap} {P : Program}

/-- the rune at a place, and its width -/
def decL (s : List UInt8) (pos : Nat) : Nat × Nat := Utf8.decode ⟨s.toArray⟩ pos

def hRange (P : Program) (H : Heap) (t : Nat) (x : V) : Option (V × Heap) :=
  match x with
  | .str s => match P.underlying t with
    | some .string => some (.ptr H.lv H.L.length 0, H.push (.siter s 0))
    | _ => none
  | _ => none

theorem sound_range (hG : Good W g H) {t : Nat} {x v : V} {c : Value} {H' : Heap} (h : hRange P H t x = some (v, H')) (hx : Rel W g H x c) : Turns P W g H (do pure (.value (← Instr.range t c))) v H' := by
  unfold hRange at h
  split at h
  · rename_i s
    split at h
    · rename_i hu
      injection h with h; injection h with h1 h2; subst h1; subst h2
      cases hx
      obtain ⟨h1, h2⟩ := good_push hG (O := .stringIter ⟨s.toArray⟩ 0) (o := .siter s 0) 0 (fun W' g' H' hW hg hH hst => by
        show W'.heap[g'.blk H.lv H.L.length]? = _
        rw [hW, hg]
        simp only [Gh.add, and_self, if_true]
        exact heap_alloc_new' _ _)
      refine ⟨.pointer (some ⟨W.heap.size, 0, none⟩), _, _, .inl ?_, h1, h2, ?_⟩
      · simp [Instr.range, run_underlying' hu]
      · have := Rel.ptr (W := W.alloc (.stringIter ⟨s.toArray⟩ 0)) (g := g.add H.lv H.L.length W.heap.size 0) (H := H.push (.siter s 0)) H.lv H.L.length 0 (.inr ⟨rfl, rfl⟩)
        simpa [Gh.add] using this
    · cases h
  · cases h

def hNext (H : Heap) (x : V) (str : Bool) : Option (V × Heap) :=
  match x, str with
  | .ptr l i 0, true => match H.get l i with
    | some (.siter s pos) => if pos < s.length then some (.tup [.bool true, .int .i64 pos, .int .i32 (decL s pos).1], H.set l i (.siter s (pos + (decL s pos).2))) else some (.tup [.bool false], H)
    | _ => none
  | _, _ => none

theorem sound_next (hG : Good W g H) {ty : Nat} {x v : V} {c : Value} {str : Bool} {H' : Heap} (h : hNext H x str = some (v, H')) (hx : Rel W g H x c) : Turns P W g H (do pure (.value (← Instr.next c str ty))) v H' := by
  unfold hNext at h
  split at h
  · rename_i l i
    split at h
    · rename_i s pos hg
      cases hx with
      | ptr _ _ _ hd =>
        have ho := hG.obj _ _ _ hg
        have hob : W.heap[g.blk l i]? = some (.stringIter ⟨s.toArray⟩ pos) := ho
        have hlt : g.blk l i < W.heap.size := hG.lt _ _ _ hg
        split at h
        · rename_i hp
          injection h with h; injection h with h1 h2; subst h1; subst h2
          have hrun : (do pure (.value (← Instr.next (.pointer (some ⟨g.blk l i, 0, none⟩)) true ty)) : Sem Next).run P W =
              .ok (.value (.tuple #[.bool true, .int .i64 pos, .int .i32 (decL s pos).1])) { W with heap := W.heap.setIfInBounds (g.blk l i) (.stringIter ⟨s.toArray⟩ (pos + (decL s pos).2)) } := by
            have hp' : pos < ByteArray.size ⟨s.toArray⟩ := by simpa [ByteArray.size] using hp
            simp [Instr.next, getObj, Sem.run, hob, hp', setObj, goInt, decL]
          obtain ⟨h1, h2⟩ := good_set hG (o' := .siter s (pos + (decL s pos).2)) hg rfl (W' := { W with heap := W.heap.setIfInBounds (g.blk l i) (.stringIter ⟨s.toArray⟩ (pos + (decL s pos).2)) }) rfl rfl rfl (by simp)
            (fun b hb hne => by
              have hne' : g.blk l i ≠ b := fun e => hne e.symm
              simp [Array.getElem?_setIfInBounds, hne']) (fun ver ty sz xs cp he => by cases he) (fun hst => by
              show (Array.setIfInBounds _ _ _)[g.blk l i]? = _
              simp [Array.getElem?_setIfInBounds, hlt])
          refine ⟨_, _, _, .inl hrun, h1, h2, .tup _ _ rfl fun j v hj => ?_⟩
          match j with
          | 0 => simp at hj; subst hj; exact .bool true
          | 1 => simp at hj; subst hj; exact .int .i64 _
          | 2 => simp at hj; subst hj; exact .int .i32 _
          | j + 3 => simp at hj
        · rename_i hp
          injection h with h; injection h with h1 h2; subst h1; subst h2
          refine ⟨.tuple #[.bool false], W, g, .inl ?_, .refl _ _ _, hG, .tup _ _ rfl fun j v hj => ?_⟩
          · have hp' : ¬ pos < ByteArray.size ⟨s.toArray⟩ := by simpa [ByteArray.size] using hp
            simp [Instr.next, getObj, Sem.run, hob, hp']
          · match j with
            | 0 => simp at hj; subst hj; exact .bool false
            | j + 1 => simp at hj
    · cases h
  · cases h
end
end Go.Ab
