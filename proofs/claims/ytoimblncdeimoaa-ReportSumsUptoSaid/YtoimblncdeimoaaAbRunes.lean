/-
  RUNES OF A STRING, AND WHAT CUTTING IT AT A BYTE COMES TO.
-/
import Derived.Test.YtoimblncdeimoaaAbEv
import Derived.Test.YtoimblncdeimoaaAbIter
import Derived.Test.YtoimblncdeimoaaAbLabel
import Derived.Lib.Bytealg
import Derived.Laws.RangeAny
namespace Go.Ab
open Go
set_option linter.unusedVariables false
set_option linter.unusedSimpArgs false

theorem decL_low {s : List UInt8} {k : Nat} (h : k < s.length) (ha : s[k].toNat < 128) : decL s k = (s[k].toNat, 1) := by
  have h' : k < (ByteArray.mk s.toArray).size := by simpa [ByteArray.size] using h
  have e : (ByteArray.mk s.toArray)[k] = s[k] := rfl
  have := decode_ascii ⟨s.toArray⟩ k h' (by rw [e]; exact ha)
  rw [e] at this
  exact this
theorem decL_high {s : List UInt8} {k : Nat} (h : k < s.length) (ha : 128 ≤ s[k].toNat) : 128 ≤ (decL s k).1 ∧ 1 ≤ (decL s k).2 := by
  have h' : k < (ByteArray.mk s.toArray).size := by simpa [ByteArray.size] using h
  have e : (ByteArray.mk s.toArray)[k] = s[k] := rfl
  exact decode_high ⟨s.toArray⟩ k h' (by rw [e]; exact ha)

theorem sub_nat {α : Type} {l : List α} {lo hi : Nat} (h1 : lo ≤ hi) (h2 : hi ≤ l.length) : sub l (lo : Int) (hi : Int) = some ((l.take hi).drop lo) := by
  unfold sub; rw [if_pos ⟨by omega, by omega, by omega⟩]; simp

theorem sub_front {α : Type} {l : List α} {hi : Nat} (h2 : hi ≤ l.length) : sub l 0 (hi : Int) = some (l.take hi) := by
  unfold sub; rw [if_pos ⟨by omega, by omega, by omega⟩]; simp

theorem index_at (b : UInt8) : ∀ s : List UInt8, Lib.indexByte s b = if s.any (· == b) then ((s.takeWhile (· != b)).length : Int) else -1
  | [] => rfl
  | c :: t => by
    rw [Lib.indexByte, index_at b t]
    cases h : c == b
    · simp only [List.any_cons, h, Bool.false_or, List.takeWhile_cons, bne, Bool.not_false, if_true, List.length_cons]
      cases t.any (· == b)
      · simp
      · simp only [if_true, beq_iff_eq]
        rw [if_neg (by simp), if_neg (by omega)]
        simp
    · simp [h, bne]
theorem cut_idx {b : UInt8} : ∀ {s : List UInt8}, s.any (· == b) = true → (s.takeWhile (· != b)).length < s.length ∧ s.take (s.takeWhile (· != b)).length = s.takeWhile (· != b) ∧ s.drop ((s.takeWhile (· != b)).length + 1) = (s.dropWhile (· != b)).tail
  | [], h => by simp at h
  | c :: t, h => by
    cases hc : c == b
    · have ih := cut_idx (b := b) (s := t) (by simpa [hc] using h)
      simp only [bne] at ih ⊢
      simp [List.takeWhile_cons, List.dropWhile_cons, hc]
      exact ⟨ih.1, ih.2.1, by simpa using ih.2.2⟩
    · simp [List.takeWhile_cons, List.dropWhile_cons, hc, bne]
theorem cut_no {b : UInt8} : ∀ {s : List UInt8}, s.any (· == b) = false → cutAt b s = (s, [], false)
  | [], h => rfl
  | c :: t, h => by
    simp only [List.any_cons, Bool.or_eq_false_iff] at h
    have ih := cut_no (b := b) (s := t) h.2
    simp only [cutAt, bne] at ih ⊢
    simp [List.takeWhile_cons, List.dropWhile_cons, h.1]
    simpa using ih
end Go.Ab
