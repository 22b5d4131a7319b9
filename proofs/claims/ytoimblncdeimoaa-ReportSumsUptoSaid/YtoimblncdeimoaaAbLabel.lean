/-
  NAMES, STEPS AND PATHS: WHAT THEY ARE, in plain Lean.
-/
import Derived.Test.YtoimblncdeimoaaAbGen
namespace Go.Ab
open Go
set_option linter.unusedVariables false
set_option linter.unusedSimpArgs false

def isLet (c : UInt8) : Bool := decide (97 ≤ c.toNat) && decide (c.toNat ≤ 122)
def isDig (c : UInt8) : Bool := decide (48 ≤ c.toNat) && decide (c.toNat ≤ 57)
def isMid (c : UInt8) : Bool := isLet c || c == 45 || isDig c
def nameOk (s : List UInt8) : Bool := match s with
  | [] => false
  | c :: t => isLet c && t.all isMid && decide (s.length ≤ 40)

def cutAt (b : UInt8) (s : List UInt8) : List UInt8 × List UInt8 × Bool := (s.takeWhile (· != b), (s.dropWhile (· != b)).tail, s.any (· == b))

def digsOk (d : List UInt8) : Bool := decide (1 ≤ d.length) && decide (d.length ≤ 4) && !(d.head? == some 48 && decide (1 < d.length)) && d.all isDig
def readOk (s : List UInt8) : Bool :=
  nameOk (cutAt 91 s).1 && (!(cutAt 91 s).2.2 || ((cutAt 91 s).2.1.getLast? == some 93 && digsOk (cutAt 91 s).2.1.dropLast))

def parts (b : UInt8) : List UInt8 → List (List UInt8)
  | [] => [[]]
  | c :: t => if c == b then [] :: parts b t else match parts b t with
    | h :: r => (c :: h) :: r
    | [] => [[c]]
def steps (s : List UInt8) : List (List UInt8) := if s == [] then [] else parts 47 s

def labelCheck (s : List UInt8) : Int :=
  if 4000 < s.length then 4 else if 40 < (steps s).length then 4 else if (steps s).all readOk then 0 else 12

theorem parts_eq (b : UInt8) : ∀ s : List UInt8, parts b s = (cutAt b s).1 :: (if (cutAt b s).2.2 then parts b (cutAt b s).2.1 else [])
  | [] => by simp [parts, cutAt]
  | c :: t => by
    rw [parts]
    by_cases h : c = b
    · subst h; simp [cutAt]
    · have h' : (c == b) = false := by simpa using h
      rw [h', parts_eq b t]
      simp [cutAt, h', bne, List.takeWhile_cons, List.dropWhile_cons]
theorem parts_ne (b : UInt8) (s : List UInt8) : parts b s ≠ [] := by rw [parts_eq]; simp
theorem parts_count (b : UInt8) : ∀ s : List UInt8, (parts b s).length = s.countP (· == b) + 1
  | [] => by simp [parts]
  | c :: t => by
    rw [parts]
    have ih := parts_count b t
    split
    · rename_i h; simp [ih, List.countP_cons, h]
    · rename_i h
      cases hp : parts b t with
      | nil => exact (parts_ne b t hp).elim
      | cons a r => rw [hp] at ih; simp [List.countP_cons, h] at ih ⊢; omega
theorem cutAt_rest (b : UInt8) (s : List UInt8) : (cutAt b s).2.1.length ≤ s.length := by
  have := (List.dropWhile_sublist (l := s) (· != b)).length_le
  simp only [cutAt, List.length_tail]; omega
theorem cutAt_one (b : UInt8) (s : List UInt8) : (cutAt b s).1.length ≤ s.length := (List.takeWhile_sublist (l := s) (· != b)).length_le
theorem cutAt_less {b : UInt8} : ∀ {s : List UInt8}, (cutAt b s).2.2 = true → (cutAt b s).2.1.length < s.length
  | [], h => by simp [cutAt] at h
  | c :: t, h => by
    by_cases hc : c = b
    · subst hc; simp [cutAt]
    · have h' : (c == b) = false := by simpa using hc
      have := cutAt_less (b := b) (s := t) (by simpa [cutAt, h'] using h)
      simp only [cutAt, List.dropWhile_cons, bne, h', Bool.not_false, if_true, List.length_cons] at this ⊢
      omega
theorem parts_len {b : UInt8} : ∀ {s : List UInt8} {x : List UInt8}, x ∈ parts b s → x.length ≤ s.length
  | [], x, h => by simp [parts] at h; simp [h]
  | c :: t, x, h => by
    rw [parts] at h
    split at h
    · rcases List.mem_cons.1 h with rfl | h
      · simp
      · have := parts_len h; simp; omega
    · cases hp : parts b t with
      | nil => exact (parts_ne b t hp).elim
      | cons a r =>
        rw [hp] at h
        rcases List.mem_cons.1 h with rfl | h
        · have := parts_len (b := b) (s := t) (x := a) (by rw [hp]; simp); simp; omega
        · have := parts_len (b := b) (s := t) (x := x) (by rw [hp]; simp [h]); simp; omega
theorem steps_len {s x : List UInt8} (h : x ∈ steps s) : x.length ≤ s.length := by
  unfold steps at h
  split at h
  · cases h
  · exact parts_len h
end Go.Ab
