/-
  slices.Sort OF STRINGS ON A SLICE OF OURS, out of a contract of the kit's kind.
-/
import Derived.Test.YtagebdhlgnlcnaaGreatDoorLib5
import Derived.Shelf.Sort.Plain
import Derived.Sort.Walk0
namespace Go.Ab
open Go Go.RowKit Go.Sort Go.Proofs
set_option linter.unusedVariables false
set_option linter.unusedSimpArgs false
def sortS (ss : List (List UInt8)) : List (List UInt8) := ss.mergeSort fun x y => decide (x ≤ y)
theorem sortS_perm (ss : List (List UInt8)) : (sortS ss).Perm ss := List.mergeSort_perm _ _
end Go.Ab


namespace Go.Ab
open Go
set_option linter.unusedVariables false
set_option linter.unusedSimpArgs false
theorem bl_irrefl : ∀ a : List UInt8, Op.bytesLess a a = false
 | [] => rfl
 | x :: a => by simp [Op.bytesLess, bl_irrefl a]
theorem bl_trans : ∀ {a b c : List UInt8}, Op.bytesLess a b = true → Op.bytesLess b c = true → Op.bytesLess a c = true
 | _, [], _, h, _ => by simp [Op.bytesLess] at h
 | _, _ :: _, [], _, h => by simp [Op.bytesLess] at h
 | [], _ :: _, _ :: _, _, _ => by simp [Op.bytesLess]
 | x :: a, y :: b, z :: c, h1, h2 => by
   simp only [Op.bytesLess, Bool.or_eq_true, decide_eq_true_eq, Bool.and_eq_true, beq_iff_eq] at h1 h2 ⊢
   rcases h1 with h1 | ⟨rfl, h1⟩
   · rcases h2 with h2 | ⟨rfl, h2⟩
     · exact .inl (by rw [UInt8.lt_iff_toNat_lt] at *; omega)
     · exact .inl h1
   · rcases h2 with h2 | ⟨rfl, h2⟩
     · exact .inl h2
     · exact .inr ⟨rfl, bl_trans h1 h2⟩
theorem bl_total : ∀ {a b : List UInt8}, Op.bytesLess a b = false → Op.bytesLess b a = false → a = b
 | [], [], _, _ => rfl
 | [], _ :: _, h, _ => by simp [Op.bytesLess] at h
 | _ :: _, [], _, h => by simp [Op.bytesLess] at h
 | x :: a, y :: b, h1, h2 => by
   simp only [Op.bytesLess, Bool.or_eq_false_iff, decide_eq_false_iff_not, Bool.and_eq_false_iff, beq_eq_false_iff_ne] at h1 h2
   have hxy : x = y := UInt8.toNat_inj.1 (by have := h1.1; have := h2.1; simp only [UInt8.lt_iff_toNat_lt] at *; omega)
   subst hxy
   have e1 : Op.bytesLess a b = false := by rcases h1.2 with h | h; exact absurd rfl h; exact h
   have e2 : Op.bytesLess b a = false := by rcases h2.2 with h | h; exact absurd rfl h; exact h
   rw [bl_total e1 e2]
theorem bl_asymm {a b : List UInt8} (h : Op.bytesLess a b = true) : Op.bytesLess b a = false := by
 cases h2 : Op.bytesLess b a
 ·rfl
 ·have := bl_trans h h2; rw [bl_irrefl] at this; cases this
theorem bl_ntrans {a b c : List UInt8} (h1 : Op.bytesLess a b = false) (h2 : Op.bytesLess b c = false) : Op.bytesLess a c = false := by
 cases h : Op.bytesLess a c
 ·rfl
 ·cases h3 : Op.bytesLess b a
  ·rw [bl_total h1 h3] at h; rw [h] at h2; cases h2
  ·rw [bl_trans h3 h] at h2; cases h2
theorem le_bl (x y : List UInt8) : decide (x ≤ y) = !Op.bytesLess y x := by
 rw [Go.Proofs.bytesLess_eq]
 by_cases h : y < x
 ·have : ¬ x ≤ y := List.not_le.2 h
  simp [h, this]
 ·have : x ≤ y := List.not_lt.1 h
  simp [h, this]
def Strict (l : List (List UInt8)) : Prop := l.Pairwise fun x y => Op.bytesLess x y = true
theorem strict_unique : ∀ {l m : List (List UInt8)}, Strict l → Strict m → (∀ x, x ∈ l ↔ x ∈ m) → l = m
 | [], [], _, _, _ => rfl
 | [], y :: m, _, _, h => by have := (h y).2 List.mem_cons_self; cases this
 | x :: l, [], _, _, h => by have := (h x).1 List.mem_cons_self; cases this
 | x :: l, y :: m, h1, h2, h => by
   have a1 := List.pairwise_cons.1 h1
   have a2 := List.pairwise_cons.1 h2
   have hxy : x = y := by
     rcases List.mem_cons.1 ((h x).1 List.mem_cons_self) with e | e
     · exact e
     · rcases List.mem_cons.1 ((h y).2 List.mem_cons_self) with e' | e'
       · exact e'.symm
       · have b1 := a2.1 x e; have b2 := a1.1 y e'
         rw [bl_asymm b1] at b2; cases b2
   subst hxy
   refine congrArg (x :: ·) (strict_unique a1.2 a2.2 fun z => ⟨fun hz => ?_, fun hz => ?_⟩)
   · rcases List.mem_cons.1 ((h z).1 (List.mem_cons_of_mem _ hz)) with e | e
     · subst e; have := a1.1 z hz; rw [bl_irrefl] at this; cases this
     · exact e
   · rcases List.mem_cons.1 ((h z).2 (List.mem_cons_of_mem _ hz)) with e | e
     · subst e; have := a2.1 z hz; rw [bl_irrefl] at this; cases this
     · exact e
theorem sortS_strict {l : List (List UInt8)} (h : l.Nodup) : Strict (sortS l) := by
 have hp : (sortS l).Pairwise fun x y => decide (x ≤ y) = true := List.pairwise_mergeSort (fun a b c h1 h2 => by
  rw [le_bl, Bool.not_eq_true'] at *
  exact bl_ntrans h2 h1) (fun a b => by
  rw [le_bl, le_bl]
  cases h : Op.bytesLess b a
  ·rfl
  ·rw [bl_asymm h]; rfl) l
 have hn : (sortS l).Nodup := (sortS_perm l).nodup_iff.2 h
 unfold Strict
 refine List.Pairwise.imp₂ (R := fun x y => decide (x ≤ y) = true) (S := (· ≠ ·)) (fun x y h1 h2 => ?_) hp hn
 rw [le_bl, Bool.not_eq_true'] at h1
 cases h3 : Op.bytesLess x y
 ·exact (h2 (bl_total h3 h1)).elim
 ·rfl
def ins : List (List UInt8) → List UInt8 → List (List UInt8)
 | [], s => [s]
 | x :: l, s => if Op.bytesLess x s then x :: ins l s else if x = s then x :: l else s :: x :: l
theorem mem_ins (s : List UInt8) : ∀ (l : List (List UInt8)) (z : List UInt8), z ∈ ins l s ↔ z ∈ l ∨ z = s
 | [], z => by simp [ins]
 | x :: l, z => by
   rw [ins]
   split
   · rw [List.mem_cons, List.mem_cons, mem_ins s l z, or_assoc]
   · split
     · rename_i h; subst h
       constructor
       · exact .inl
       · rintro (h | rfl)
         · exact h
         · exact List.mem_cons_self
     · rw [List.mem_cons, or_comm]
theorem ins_strict {s : List UInt8} : ∀ {l : List (List UInt8)}, Strict l → Strict (ins l s)
 | [], _ => by simp [ins, Strict]
 | x :: l, h => by
   have a := List.pairwise_cons.1 h
   rw [ins]
   split
   · rename_i hx
     refine List.pairwise_cons.2 ⟨fun z hz => ?_, ins_strict a.2⟩
     rcases (mem_ins s l z).1 hz with hz | rfl
     · exact a.1 z hz
     · exact hx
   · split
     · exact h
     · rename_i h1 h2
       have h1 : Op.bytesLess x s = false := by simpa using h1
       have hs : Op.bytesLess s x = true := by
         cases h3 : Op.bytesLess s x
         · exact (h2 (bl_total h1 h3)).elim
         · rfl
       refine List.pairwise_cons.2 ⟨fun z hz => ?_, h⟩
       rcases List.mem_cons.1 hz with rfl | hz
       · exact hs
       · exact bl_trans hs (a.1 z hz)
theorem ins_len (s : List UInt8) : ∀ l : List (List UInt8), (ins l s).length ≤ l.length + 1
 | [] => by simp [ins]
 | x :: l => by
   have := ins_len s l
   rw [ins]; split
   · simp; omega
   · split <;> simp
theorem ins_at (s : List UInt8) : ∀ l : List (List UInt8), ins l s = if (l.dropWhile (fun x => Op.bytesLess x s)).head? = some s then l else l.takeWhile (fun x => Op.bytesLess x s) ++ s :: l.dropWhile (fun x => Op.bytesLess x s)
 | [] => by simp [ins]
 | x :: l => by
   rw [ins]
   cases h : Op.bytesLess x s
   · rw [List.dropWhile_cons_of_neg (by simp [h]), List.takeWhile_cons_of_neg (by simp [h])]
     by_cases hx : x = s
     · simp [hx]
     · simp [hx]
   · rw [List.dropWhile_cons_of_pos (by simp [h]), List.takeWhile_cons_of_pos (by simp [h]), if_pos rfl, ins_at s l]
     split <;> rfl
end Go.Ab

