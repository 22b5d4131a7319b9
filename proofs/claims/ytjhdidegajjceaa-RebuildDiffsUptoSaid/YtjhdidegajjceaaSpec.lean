/-
  WHAT THE FUNCTIONS COMPUTE, in plain Lean.
-/
import Derived.Test.YtjhdidegajjceaaTypes
namespace Go.Ab
open Go

/-- gambrelref03.great -/
def great03 : Nat → GValue → Bool
  | 0, _ => true
  | n + 1, v => decide (200 < v.str.length) || decide (150 < v.list.length) || v.list.any (great03 n)

/-- gambrelref03.Parts -/
def parts03 (v : GValue) : Nat := 1 + if v.kind = 4 then (v.list.map parts03).sum else 0
  termination_by v
  decreasing_by exact GValue.lt_list ‹_›

theorem sum_le_sum {α : Type} {f g : α → Nat} : ∀ {l : List α}, (∀ x ∈ l, f x ≤ g x) → (l.map f).sum ≤ (l.map g).sum
  | [], _ => Nat.le_refl _
  | x :: l, h => by
    simp only [List.map_cons, List.sum_cons]
    exact Nat.add_le_add (h x (by simp)) (sum_le_sum fun y hy => h y (by simp [hy]))

theorem size_mem {l : List GValue} {x : GValue} (h : x ∈ l) : x.size ≤ (l.map GValue.size).sum := by
  induction l with
  | nil => cases h
  | cons y l ih =>
    simp only [List.map_cons, List.sum_cons]
    rcases List.mem_cons.1 h with rfl | h
    · omega
    · have := ih h; omega

def sum03 (l : List GValue) : Nat := (l.map parts03).sum
theorem parts03_eq (v : GValue) : parts03 v = 1 + if v.kind = 4 then sum03 v.list else 0 := by rw [parts03, sum03]
theorem sum03_succ {l : List GValue} {k : Nat} {x : GValue} (h : l[k]? = some x) : sum03 (l.take (k + 1)) = sum03 (l.take k) + parts03 x := by
  unfold sum03; rw [List.take_add_one, h]; simp [List.map_append, List.sum_append]
theorem parts03_le (v : GValue) : parts03 v ≤ v.size := by
  rw [parts03, GValue.size_eq]
  have : (v.list.map parts03).sum ≤ (v.list.map GValue.size).sum := sum_le_sum fun x hx => parts03_le x
  split <;> omega
  termination_by v
  decreasing_by exact GValue.lt_list ‹_›

theorem sum03_le (l : List GValue) (k : Nat) : sum03 (l.take k) ≤ (l.map GValue.size).sum :=
  Nat.le_trans (sum_le_sum fun x _ => parts03_le x) (by
    have : (l.map GValue.size).sum = ((l.take k).map GValue.size).sum + ((l.drop k).map GValue.size).sum := by rw [← List.sum_append, ← List.map_append, List.take_append_drop]
    omega)

def great03' (v : GValue) : Bool := great03 10 v || decide (150 < parts03 v)

theorem len_le_sum {α : Type} {f : α → Nat} : ∀ {l : List α}, (∀ x ∈ l, 1 ≤ f x) → l.length ≤ (l.map f).sum
  | [], _ => Nat.le_refl _
  | x :: l, h => by
    simp only [List.length_cons, List.map_cons, List.sum_cons]
    have := len_le_sum (l := l) (f := f) fun y hy => h y (by simp [hy])
    have := h x (by simp); omega

theorem GValue.size_pos (v : GValue) : 1 ≤ v.size := by rw [GValue.size_eq]; omega
theorem GValue.len_le (v : GValue) : v.list.length ≤ v.size := by
  have := len_le_sum (l := v.list) (f := GValue.size) fun x _ => x.size_pos
  rw [GValue.size_eq]; omega
theorem GValue.str_le (v : GValue) : v.str.length ≤ v.size := by rw [GValue.size_eq]; omega

theorem any_take {α : Type} {p : α → Bool} {l : List α} {k : Nat} (h : ∀ j x, j < k → l[j]? = some x → p x = false) (hk : l.length ≤ k) : l.any p = false := by
  rw [List.any_eq_false]
  intro x hx
  obtain ⟨j, hj⟩ := List.mem_iff_getElem?.1 hx
  have := (List.getElem?_eq_some_iff.1 hj).1
  rw [h j x (by omega) hj]; simp

/-- equality, as a bool -/
noncomputable def eqB {α : Type} (a b : α) : Bool := @decide (a = b) (Classical.propDecidable _)
theorem eqB_true {α : Type} {a b : α} : eqB a b = true ↔ a = b := @decide_eq_true_iff _ (Classical.propDecidable _)
theorem eqB_false {α : Type} {a b : α} : eqB a b = false ↔ a ≠ b := @decide_eq_false_iff_not _ (Classical.propDecidable _)
theorem eqB_rfl {α : Type} (a : α) : eqB a a = true := eqB_true.2 rfl

theorem GValue.ext' {a b : GValue} (h1 : (a.kind == b.kind) = true) (h2 : (a.num.num == b.num.num && a.num.den == b.num.den) = true) (h3 : (a.truth == b.truth) = true) (h4 : (a.str == b.str) = true) (h5 : a.list = b.list) : a = b := by
  obtain ⟨k, ⟨n, d⟩, t, s, l⟩ := a
  obtain ⟨k', ⟨n', d'⟩, t', s', l'⟩ := b
  simp at h1 h2 h3 h4 h5
  simp [*]

theorem list_ext {α : Type} {xs ys : List α} (hl : xs.length = ys.length) (h : ∀ j x y, j < xs.length → xs[j]? = some x → ys[j]? = some y → x = y) : xs = ys := by
  apply List.ext_getElem? 
  intro j
  rcases Nat.lt_or_ge j xs.length with q | q
  · rw [List.getElem?_eq_getElem q, List.getElem?_eq_getElem (show j < ys.length by omega)]
    exact congrArg some (h j _ _ q (List.getElem?_eq_getElem q) (List.getElem?_eq_getElem _))
  · rw [List.getElem?_eq_none q, List.getElem?_eq_none (by omega)]

def greatArgs (l : List GValue) : Bool := l.any great03' || decide (10 < l.length)
def greatNode (n : GNode) : Bool := decide (5000 < n.path.length) || decide (100 < n.rule_.length) || decide (200 < n.leaf.length) || greatArgs n.args
def greatNodes (t : List GNode) : Bool := t.any greatNode || decide (2100 < t.length)

theorem size_memN {l : List GNode} {x : GNode} (h : x ∈ l) : x.size ≤ (l.map GNode.size).sum := by
  induction l with
  | nil => cases h
  | cons y l ih =>
    simp only [List.map_cons, List.sum_cons]
    rcases List.mem_cons.1 h with rfl | h
    · omega
    · have := ih h; omega
theorem GNode.size_pos (v : GNode) : 1 ≤ v.size := by rw [GNode.size_eq]; omega
theorem lenN_le (l : List GNode) : l.length ≤ (l.map GNode.size).sum := len_le_sum fun x _ => x.size_pos
theorem lenV_le (l : List GValue) : l.length ≤ (l.map GValue.size).sum := len_le_sum fun x _ => x.size_pos

theorem GNode.ext' {a b : GNode} (h1 : (a.path == b.path) = true) (h2 : (a.rule_ == b.rule_) = true)
    (h3 : (a.scope.frame.turn == b.scope.frame.turn && (a.scope.frame.at_.x == b.scope.frame.at_.x && (a.scope.frame.at_.y == b.scope.frame.at_.y && (a.scope.frame.at_.z == b.scope.frame.at_.z && (a.scope.size_.x == b.scope.size_.x && (a.scope.size_.y == b.scope.size_.y && a.scope.size_.z == b.scope.size_.z)))))) = true)
    (h4 : (a.leaf == b.leaf) = true) (h5 : (a.fault == b.fault) = true) (h6 : (a.open_ == b.open_) = true) (h7 : a.args = b.args) : a = b := by
  obtain ⟨p, r, l, ⟨⟨t, ⟨x, y, z⟩⟩, ⟨sx, sy, sz⟩⟩, f, e, o⟩ := a
  obtain ⟨p', r', l', ⟨⟨t', ⟨x', y', z'⟩⟩, ⟨sx', sy', sz'⟩⟩, f', e', o'⟩ := b
  simp at h1 h2 h3 h4 h5 h6 h7
  simp [*]

/-- slices of values and of nodes -/
def encVs (l : List GValue) : V := .sl 6 (l.map GValue.el) false
def encNs (l : List GNode) : V := .sl 13 (l.map GNode.el) false
def encSs (l : List (List UInt8)) : V := .sl 1 (l.map V.str) false

/-- gambrelref27.Find -/
def find27 (t : List GNode) (p : List UInt8) : Option Nat := t.findIdx? (fun n => n.path == p)
end Go.Ab
