/-
  copy(l[a:], l[b:]) ON A SLICE OF OURS; ARRAYS OF SLICES.
-/
import Derived.Test.YtoimblncdeimoaaAbFlat
namespace Go.Ab
open Go
set_option linter.unusedSimpArgs false
set_option linter.unusedVariables false

theorem ix_sl {T : Type} {f : T → V} {sz : Nat} {xs : List (List T)} {k : Nat} {x : List T} (h : xs[k]? = some x) : (xs.map fun x => V.sl sz (x.map f) false)[k]? = some (V.sl sz (x.map f) false) := by
  rw [List.getElem?_map, h]; rfl

/-- the part from b on, laid over the part from a on -/
def shiftO {α : Type} (xs : List α) (a b : Int) : Option (List α) :=
  if 0 ≤ a ∧ a ≤ xs.length ∧ 0 ≤ b ∧ b < xs.length then
    some (xs.take a.toNat ++ ((xs.drop b.toNat).take (min (xs.length - b.toNat) (xs.length - a.toNat)) ++ xs.drop (a.toNat + min (xs.length - b.toNat) (xs.length - a.toNat)))) else none
theorem shiftO_map {α β : Type} {f : α → β} {xs ys : List α} {a b : Int} (h : shiftO xs a b = some ys) : shiftO (xs.map f) a b = some (ys.map f) := by
  unfold shiftO at h ⊢
  split at h
  · rename_i hc
    injection h with h; subst h
    rw [if_pos (by simpa using hc)]
    simp
  · cases h

section
variable {P : Program}
theorem slice_part {t e sz : Nat} {H : Heap} {l i ver n : Nat} {ty : Nat} {xs : List V} {cp : Option Nat} (ht : P.underlying t = some (.slice e)) (hz : sz = P.cellsOf e) (he : (P.underlying e).isSome = true) (hg : H.get l i = some (.arr ver ty sz xs cp)) {a : Int} (h0 : 0 ≤ a) (h1 : a.toNat ≤ n) :
    pSlice P H t (.hs l i ver 0 n false) (some (.int .i64 a)) none none = some (if a.toNat = 0 ∨ a.toNat < n then .hs l i ver a.toNat (n - a.toNat) false else .sl sz [] false) := by
  have hb : bounds3 n (some (.int .i64 a)) none none = some (a.toNat, n, none) := by
    have h2 : a ≤ (n : Int) := by omega
    simp [bounds3, bnd, h0, h2]
  simp only [pSlice, ht, hg]
  rw [if_pos ⟨trivial, hz, he⟩, hb]
  simp only [Option.bind_some, Nat.zero_add, Bool.false_and]
  split <;> rfl

theorem AccG.shift {lv : Nat} {L : List (Option AObj)} {al : List AccE} {ol : List (Nat × AObj)} (h : AccG lv L al ol) {j ty sz : Nat} {v : V} {xs : List V} (hj : al[j]? = some ⟨ty, sz, v, xs, true⟩) {t e : Nat} (ht : P.underlying t = some (.slice e))
    (hz : sz = P.cellsOf e) (he : (P.underlying e).isSome = true) (hi : (P.info? e).isSome = true) {a b : Int} {ys : List V} (hs : shiftO xs a b = some ys) (E : Nat → Nat → Option AObj) :
    ∃ (q1 q2 : V) (L' : List (Option AObj)) (m : Int), pSlice P ⟨lv, L, E⟩ t v (some (.int .i64 a)) none none = some q1 ∧ pSlice P ⟨lv, L, E⟩ t v (some (.int .i64 b)) none none = some q2 ∧
      hCopy P ⟨lv, L, E⟩ t q1 q2 = some (.int .i64 m, ⟨lv, L', E⟩) ∧ AccG lv L' (al.set j ⟨ty, sz, v, ys, true⟩) ol := by
  unfold shiftO at hs
  split at hs
  · rename_i hc
    injection hs with hs
    obtain ⟨c1, c2, c3, c4⟩ := hc
    have hne : xs ≠ [] := fun hh => by subst hh; simp at c4; omega
    rcases h.form hj with ⟨rfl, rfl⟩ | ⟨rfl, hw⟩ | ⟨k, ver, cp, rfl, hL⟩
    · exact (hne rfl).elim
    · exact (hne (hw rfl)).elim
    · have hg : (⟨lv, L, E⟩ : Heap).get lv k = some (.arr ver ty sz xs cp) := by simp [Heap.get, hL]
      have s1 := slice_part (n := xs.length) ht hz he hg c1 (by omega)
      have s2 := slice_part (n := xs.length) ht hz he hg c3 (by omega)
      rw [if_pos (show b.toNat = 0 ∨ b.toNat < xs.length by omega)] at s2
      by_cases hlt : a.toNat = 0 ∨ a.toNat < xs.length
      · rw [if_pos hlt] at s1
        refine ⟨_, _, L.set k (some (.arr ver ty sz ys cp)), (min (xs.length - b.toNat) (xs.length - a.toNat) : Nat), s1, s2, ?_, h.accs.setAt hj rfl hL hne ?_, h.nodup⟩
        · simp only [hCopy, ht, hg]
          rw [if_pos hi, if_pos ⟨trivial, trivial, trivial⟩, if_pos ⟨trivial, hz⟩]
          rw [hs]
          simp [Heap.set]
        · rw [← hs]; simp; omega
      · rw [if_neg hlt] at s1
        have e1 : xs.length - a.toNat = 0 := by omega
        have hys : ys = xs := by
          rw [← hs, e1, Nat.min_zero, List.take_zero, List.nil_append, Nat.add_zero, List.take_append_drop]
        refine ⟨_, _, L, 0, s1, s2, ?_, ?_⟩
        · simp only [hCopy, ht, hg]
          rw [if_pos hi, if_pos trivial]
        · rw [hys]
          have : al.set j ⟨ty, sz, .hs lv k ver 0 xs.length false, xs, true⟩ = al := by
            refine List.ext_getElem? fun q => ?_
            rw [List.getElem?_set]
            split
            · rename_i hq; subst hq
              rw [hj, if_pos (List.getElem?_eq_some_iff.1 hj).1]
            · rfl
          rw [this]; exact h
  · cases hs
end
end Go.Ab
