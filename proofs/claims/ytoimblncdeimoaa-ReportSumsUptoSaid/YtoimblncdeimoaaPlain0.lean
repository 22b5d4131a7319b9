/-
  THE ORDER OF NAMES; SORTED LISTS OF LINES.
-/
import Derived.Test.YtoimblncdeimoaaBook
import Derived.Lib.Bytealg
import Derived.Sort.Walk0
namespace Go.Ab
open Go
set_option linter.unusedVariables false
set_option linter.unusedSimpArgs false

theorem bl_irrefl : ∀ a : List UInt8, Op.bytesLess a a = false
  | [] => rfl
  | x :: a => by simp [Op.bytesLess, bl_irrefl a]
theorem bl_trans : ∀ {a b c : List UInt8}, Op.bytesLess a b = true → Op.bytesLess b c = true → Op.bytesLess a c = true
  | _, [], _, h, _ => by simp [Op.bytesLess] at h
  | _, _ :: _, [], _, h => by simp [Op.bytesLess] at h
  | [], _ :: _, _ :: _, _, _ => by simp [Op.bytesLess]
  | x :: a, y :: b, z :: c, h1, h2 => by
    simp only [Op.bytesLess, Bool.or_eq_true, decide_eq_true_eq, Bool.and_eq_true, beq_iff_eq] at h1 h2 ⊢
    rcases h1 with h1 | ⟨rfl, h1⟩
    · rcases h2 with h2 | ⟨rfl, h2⟩
      · exact .inl (by rw [UInt8.lt_iff_toNat_lt] at *; omega)
      · exact .inl h1
    · rcases h2 with h2 | ⟨rfl, h2⟩
      · exact .inl h2
      · exact .inr ⟨rfl, bl_trans h1 h2⟩
theorem bl_total : ∀ {a b : List UInt8}, Op.bytesLess a b = false → Op.bytesLess b a = false → a = b
  | [], [], _, _ => rfl
  | [], _ :: _, h, _ => by simp [Op.bytesLess] at h
  | _ :: _, [], _, h => by simp [Op.bytesLess] at h
  | x :: a, y :: b, h1, h2 => by
    simp only [Op.bytesLess, Bool.or_eq_false_iff, decide_eq_false_iff_not, Bool.and_eq_false_iff, beq_eq_false_iff_ne] at h1 h2
    have hxy : x = y := UInt8.toNat_inj.1 (by have := h1.1; have := h2.1; simp only [UInt8.lt_iff_toNat_lt] at *; omega)
    subst hxy
    have e1 : Op.bytesLess a b = false := by rcases h1.2 with h | h; exact absurd rfl h; exact h
    have e2 : Op.bytesLess b a = false := by rcases h2.2 with h | h; exact absurd rfl h; exact h
    rw [bl_total e1 e2]
theorem bl_asymm {a b : List UInt8} (h : Op.bytesLess a b = true) : Op.bytesLess b a = false := by
  cases h2 : Op.bytesLess b a
  · rfl
  · have := bl_trans h h2; rw [bl_irrefl] at this; cases this
theorem bl_ntrans {a b c : List UInt8} (h1 : Op.bytesLess a b = false) (h2 : Op.bytesLess b c = false) : Op.bytesLess a c = false := by
  cases h : Op.bytesLess a c
  · rfl
  · cases h3 : Op.bytesLess b a
    · rw [bl_total h1 h3] at h; rw [h] at h2; cases h2
    · rw [bl_trans h3 h] at h2; cases h2
theorem cmp_bl : ∀ a b : List UInt8, decide (Lib.compareBytes a b < 0) = Op.bytesLess a b
  | [], [] => rfl
  | [], _ :: _ => rfl
  | _ :: _, [] => rfl
  | x :: a, y :: b => by
    simp only [Lib.compareBytes, Op.bytesLess]
    by_cases h1 : x < y
    · simp [h1]
    · by_cases h2 : y < x
      · have : (x == y) = false := by
          rw [beq_eq_false_iff_ne]; intro e; subst e; exact h1 h2
        simp [h1, h2, this]
      · have hxy : x = y := UInt8.toNat_inj.1 (by simp only [UInt8.lt_iff_toNat_lt] at *; omega)
        subst hxy
        simp [h1, cmp_bl a b]

theorem nodup_inj : ∀ {l : List GTally}, (l.map (·.name)).Nodup → ∀ {a b : GTally}, a ∈ l → b ∈ l → a.name = b.name → a = b
  | x :: l, hn, a, b, ha, hb, e => by
    rw [List.map_cons, List.nodup_cons] at hn
    rcases List.mem_cons.1 ha with rfl | ha'
    · rcases List.mem_cons.1 hb with rfl | hb'
      · rfl
      · exact (hn.1 (List.mem_map.2 ⟨b, hb', e.symm⟩)).elim
    · rcases List.mem_cons.1 hb with rfl | hb'
      · exact (hn.1 (List.mem_map.2 ⟨a, ha', e⟩)).elim
      · exact nodup_inj hn.2 ha' hb' e
/-- no later line is less than an earlier one -/
def Asc (l : List GTally) : Prop := l.Pairwise fun x y => ltT y x = false
theorem asc_unique {l m : List GTally} (hp : l.Perm m) (hl : Asc l) (hm : Asc m) (hn : (l.map (·.name)).Nodup) : l = m := by
  refine List.Perm.eq_of_pairwise (le := fun x y => ltT y x = false) (fun a b ha hb h1 h2 => ?_) hl hm hp
  have e : a.name = b.name := bl_total h2 h1
  have hb' : b ∈ l := hp.mem_iff.2 hb
  exact nodup_inj hn ha hb' e
def sortT (l : List GTally) : List GTally := l.mergeSort fun x y => !(ltT y x)
theorem sortT_perm (l : List GTally) : (sortT l).Perm l := List.mergeSort_perm _ _
theorem sortT_asc (l : List GTally) : Asc (sortT l) := by
  have := List.pairwise_mergeSort (le := fun x y => !(ltT y x)) (fun a b c h1 h2 => by
    simp only [Bool.not_eq_true'] at *
    exact bl_ntrans h2 h1) (fun a b => by
    cases h : ltT b a
    · simp
    · simp [show ltT a b = false from bl_asymm h]) l
  exact this.imp fun h => by simpa using h
end Go.Ab
