/-
  LOOPS OF THE LEAN FUNCTIONS: what they come to.
-/
import Derived.Test.YtoimblncdeimoaaAbGen
namespace Go.Ab
open Go
set_option linter.unusedVariables false

theorem ix_nat {α : Type} (l : List α) (k : Nat) : ix l (k : Int) = l[k]? := by simp [ix]
theorem wrk {k : Nat} (h : k ≤ 4611686018427387904) : IntKind.i64.wrap ((k : Int) + 1) = ((k + 1 : Nat) : Int) := by rw [wr1 h]; rfl
theorem ix_lt {α : Type} {l : List α} {k : Nat} (h : k < l.length) : ix l (k : Int) = some l[k] := by rw [ix_nat, List.getElem?_eq_getElem h]
theorem dec_lt {k n : Nat} : decide ((k : Int) < (n : Int)) = decide (k < n) := by simp
theorem ext_ok {α : Type} {x y : List α} (h : x.length + y.length ≤ 1048576) : ext x y = some (x ++ y) := by unfold ext; rw [if_pos]; simp [roomB]; omega
theorem cat_ok {x y : List UInt8} (h : x.length + y.length ≤ 16777216) : cat x y = some (x ++ y) := by unfold cat; rw [if_pos]; simp [maxLen]; omega

/-- equality, as a bool -/
noncomputable def eqB {α : Type} (a b : α) : Bool := @decide (a = b) (Classical.propDecidable _)
theorem eqB_true {α : Type} {a b : α} : eqB a b = true ↔ a = b := @decide_eq_true_iff _ (Classical.propDecidable _)
theorem eqB_false {α : Type} {a b : α} : eqB a b = false ↔ a ≠ b := @decide_eq_false_iff_not _ (Classical.propDecidable _)
@[simp] theorem eqB_rfl {α : Type} (a : α) : eqB a a = true := eqB_true.2 rfl

/-- what a list's elements need together, from a place on -/
def needs {α : Type} (f : α → Nat) (xs : List α) (k : Nat) : Nat := ((xs.drop k).map f).sum + (xs.length - k) + 1
theorem needs_step {α : Type} {f : α → Nat} {xs : List α} {k : Nat} (h : k < xs.length) : needs f xs k = f xs[k] + needs f xs (k + 1) + 1 := by
  unfold needs
  rw [← List.getElem_cons_drop (h := h)]
  simp only [List.map_cons, List.sum_cons]
  have : (List.drop (k + 1) xs) = (List.drop (k + 1) xs) := rfl
  omega
theorem needs_zero {α : Type} {f : α → Nat} {xs : List α} : needs f xs 0 = (xs.map f).sum + xs.length + 1 := by simp [needs]
theorem needs_pos {α : Type} {f : α → Nat} {xs : List α} {k : Nat} : 1 ≤ needs f xs k := by unfold needs; omega

/-- from the end to the front -/
theorem down {len : Nat} {Q : Nat → Prop} (h0 : Q len) (hs : ∀ k, k < len → Q (k + 1) → Q k) : ∀ k, k ≤ len → Q k := by
  intro k hk
  obtain ⟨m, rfl⟩ : ∃ m, k = len - m := ⟨len - k, by omega⟩
  induction m with
  | zero => exact h0
  | succ m ih =>
    by_cases h : m < len
    · refine hs _ (by omega) ?_
      rw [show len - (m + 1) + 1 = len - m by omega]
      exact ih (by omega)
    · rw [show len - (m + 1) = len - m by omega]; exact ih (by omega)

/-- a loop that compares two lists of one length -/
theorem same_loop {α : Type} {S : Nat → α → α → Option Bool} {L : Nat → Int → Option Bool} {xs ys : List α} {need : α → Nat} (hlen : xs.length = ys.length) (hb : xs.length ≤ 1048576)
    (hL : ∀ n k, L (n + 1) k = if decide (k < (xs.length : Int)) then (ix xs k).bind fun x => (ix ys k).bind fun y => (S n x y).bind fun r => if !r then some false else L n (IntKind.i64.wrap (k + 1)) else some true)
    (hS : ∀ n x y, x ∈ xs → need x ≤ n → S n x y = some (eqB x y)) : ∀ (m k n : Nat), xs.length - k = m → k ≤ xs.length → needs need xs k ≤ n → (∀ j : Nat, j < k → xs[j]? = ys[j]?) → L n k = some (eqB xs ys) := by
  intro m
  induction m with
  | zero =>
    intro k n hm hk hn hall
    obtain ⟨n, rfl⟩ : ∃ q, n = q + 1 := ⟨n - 1, by have := @needs_pos _ need xs k; omega⟩
    rw [hL, dec_lt, if_neg (by simp; omega)]
    congr 1; symm; rw [eqB_true]
    apply List.ext_getElem?
    intro j
    rcases Nat.lt_or_ge j k with q | q
    · exact hall j q
    · rw [List.getElem?_eq_none (by omega), List.getElem?_eq_none (by omega)]
  | succ m ih =>
    intro k n hm hk hn hall
    obtain ⟨n, rfl⟩ : ∃ q, n = q + 1 := ⟨n - 1, by have := @needs_pos _ need xs k; omega⟩
    have hlt : k < xs.length := by omega
    have hst := needs_step (f := need) hlt
    have hp := @needs_pos _ need xs (k + 1)
    rw [hL, dec_lt, if_pos (by simpa using hlt), ix_lt hlt, ix_lt (show k < ys.length by omega)]
    simp only [Option.bind_some]
    rw [hS n _ _ (List.getElem_mem hlt) (by omega)]
    simp only [Option.bind_some]
    by_cases he : xs[k] = ys[k]'(by omega)
    · rw [he, eqB_rfl, if_neg (by simp), wrk (by omega)]
      refine ih (k + 1) n (by omega) hlt (by omega) fun j hj => ?_
      by_cases hjk : j = k
      · subst hjk; rw [List.getElem?_eq_getElem hlt, List.getElem?_eq_getElem (show j < ys.length by omega), he]
      · exact hall j (by omega)
    · rw [eqB_false.2 he, if_pos (by simp), eqB_false.2 (fun h => he (by subst h; rfl))]

/-- a loop that puts what each element gives behind the others -/
theorem map_loop {α β γ : Type} {T : Nat → α → Option β} {L : Nat → List β → Int → Option γ} {fin : List β → Option γ} {xs : List α} {need : α → Nat} {f : α → β} {c : Nat} (hb : xs.length ≤ 1048576)
    (hL : ∀ n l k, L (n + 1) l k = if decide (k < (xs.length : Int)) then (ix xs k).bind fun x => (T n x).bind fun y => (ext l [y]).bind fun l' => L n l' (IntKind.i64.wrap (k + 1)) else fin l)
    (hT : ∀ n x, x ∈ xs → need x ≤ n → T n x = some (f x)) : ∀ (m k n : Nat), xs.length - k = m → k ≤ xs.length → needs need xs k ≤ n → L n ((xs.take k).map f) k = fin (xs.map f) := by
  intro m
  induction m with
  | zero =>
    intro k n hm hk hn
    obtain ⟨n, rfl⟩ : ∃ q, n = q + 1 := ⟨n - 1, by have := @needs_pos _ need xs k; omega⟩
    rw [hL, dec_lt, if_neg (by simp; omega), List.take_of_length_le (by omega)]
  | succ m ih =>
    intro k n hm hk hn
    obtain ⟨n, rfl⟩ : ∃ q, n = q + 1 := ⟨n - 1, by have := @needs_pos _ need xs k; omega⟩
    have hlt : k < xs.length := by omega
    have hst := needs_step (f := need) hlt
    have hp := @needs_pos _ need xs (k + 1)
    rw [hL, dec_lt, if_pos (by simpa using hlt), ix_lt hlt]
    simp only [Option.bind_some]
    rw [hT n _ (List.getElem_mem hlt) (by omega)]
    simp only [Option.bind_some]
    rw [ext_ok (by simp; omega)]
    simp only [Option.bind_some]
    have ht : (xs.take (k + 1)).map f = (xs.take k).map f ++ [f xs[k]] := by
      rw [List.take_add_one, List.getElem?_eq_getElem hlt, List.map_append]; rfl
    rw [wrk (by omega), ← ht]
    exact ih (k + 1) n (by omega) hlt (by omega)

/-- a loop that ends with 'true' at the first element of a kind -/
theorem any_loop {α : Type} {T : Nat → α → Option Bool} {L : Nat → Int → Option Bool} {fin : Bool} {xs : List α} {need : α → Nat} {p : α → Bool} (hb : xs.length ≤ 1048576)
    (hL : ∀ n k, L (n + 1) k = if decide (k < (xs.length : Int)) then (ix xs k).bind fun x => (T n x).bind fun y => if y then some true else L n (IntKind.i64.wrap (k + 1)) else some fin)
    (hT : ∀ n x, x ∈ xs → need x ≤ n → T n x = some (p x)) : ∀ (m k n : Nat), xs.length - k = m → k ≤ xs.length → needs need xs k ≤ n → L n k = some ((xs.drop k).any p || fin) := by
  intro m
  induction m with
  | zero =>
    intro k n hm hk hn
    obtain ⟨n, rfl⟩ : ∃ q, n = q + 1 := ⟨n - 1, by have := @needs_pos _ need xs k; omega⟩
    rw [hL, dec_lt, if_neg (by simp; omega), List.drop_eq_nil_of_le (by omega)]; simp
  | succ m ih =>
    intro k n hm hk hn
    obtain ⟨n, rfl⟩ : ∃ q, n = q + 1 := ⟨n - 1, by have := @needs_pos _ need xs k; omega⟩
    have hlt : k < xs.length := by omega
    have hst := needs_step (f := need) hlt
    have hp := @needs_pos _ need xs (k + 1)
    rw [hL, dec_lt, if_pos (by simpa using hlt), ix_lt hlt]
    simp only [Option.bind_some]
    rw [hT n _ (List.getElem_mem hlt) (by omega)]
    simp only [Option.bind_some]
    rw [← List.getElem_cons_drop (h := hlt), List.any_cons]
    cases hpx : p xs[k] with
    | true => simp
    | false => rw [if_neg (by simp), wrk (by omega), ih (k + 1) n (by omega) hlt (by omega)]; simp

/-- a loop that ends at the first element of a kind, with its place -/
theorem find_loop {α γ : Type} {T : Nat → α → Option Bool} {L : Nat → Int → Option γ} {got : Nat → Option γ} {fin : Option γ} {xs : List α} {need : α → Nat} {p : α → Bool} (hb : xs.length ≤ 1048576)
    (hL : ∀ n (k : Nat), L (n + 1) k = if decide ((k : Int) < (xs.length : Int)) then (ix xs k).bind fun x => (T n x).bind fun y => if y then got k else L n (IntKind.i64.wrap ((k : Int) + 1)) else fin)
    (hT : ∀ n x, x ∈ xs → need x ≤ n → T n x = some (p x)) : ∀ (m k n : Nat), xs.length - k = m → k ≤ xs.length → needs need xs k ≤ n → (∀ (j : Nat) x, j < k → xs[j]? = some x → p x = false) → L n k = match xs.findIdx? p with | some i => got i | none => fin := by
  intro m
  induction m with
  | zero =>
    intro k n hm hk hn hall
    obtain ⟨n, rfl⟩ : ∃ q, n = q + 1 := ⟨n - 1, by have := @needs_pos _ need xs k; omega⟩
    rw [hL, dec_lt, if_neg (by simp; omega)]
    have : xs.findIdx? p = none := by
      rw [List.findIdx?_eq_none_iff]
      intro x hx
      obtain ⟨j, hj⟩ := List.mem_iff_getElem?.1 hx
      exact hall j x (by have := (List.getElem?_eq_some_iff.1 hj).1; omega) hj
    rw [this]
  | succ m ih =>
    intro k n hm hk hn hall
    obtain ⟨n, rfl⟩ : ∃ q, n = q + 1 := ⟨n - 1, by have := @needs_pos _ need xs k; omega⟩
    have hlt : k < xs.length := by omega
    have hst := needs_step (f := need) hlt
    have hp := @needs_pos _ need xs (k + 1)
    rw [hL, dec_lt, if_pos (by simpa using hlt), ix_lt hlt]
    simp only [Option.bind_some]
    rw [hT n _ (List.getElem_mem hlt) (by omega)]
    simp only [Option.bind_some]
    cases hpx : p xs[k] with
    | true =>
      rw [if_pos rfl]
      have : xs.findIdx? p = some k := by
        rw [List.findIdx?_eq_some_iff_getElem]
        exact ⟨hlt, hpx, fun j hj => by rw [hall j _ hj (List.getElem?_eq_getElem (by omega))]; simp⟩
      rw [this]
    | false =>
      rw [if_neg (by simp), wrk (by omega)]
      refine ih (k + 1) n (by omega) hlt (by omega) fun j x hj hx => ?_
      by_cases hjk : j = k
      · subst hjk; rw [List.getElem?_eq_getElem hlt] at hx; injection hx with hx; subst hx; exact hpx
      · exact hall j x (by omega) hx

/-- sums -/
theorem sum_le_sum' {α : Type} {f g : α → Nat} : ∀ {l : List α}, (∀ x ∈ l, f x ≤ g x) → (l.map f).sum ≤ (l.map g).sum
  | [], _ => Nat.le_refl _
  | x :: l, h => by
    simp only [List.map_cons, List.sum_cons]
    exact Nat.add_le_add (h x (by simp)) (sum_le_sum' fun y hy => h y (by simp [hy]))
theorem len_le_sum' {α : Type} {f : α → Nat} : ∀ {l : List α}, (∀ x ∈ l, 1 ≤ f x) → l.length ≤ (l.map f).sum
  | [], _ => Nat.le_refl _
  | x :: l, h => by
    simp only [List.length_cons, List.map_cons, List.sum_cons]
    have := len_le_sum' (l := l) (f := f) fun y hy => h y (by simp [hy])
    have := h x (by simp); omega
theorem mem_le_sum' {α : Type} {f : α → Nat} : ∀ {l : List α} {x : α}, x ∈ l → f x ≤ (l.map f).sum
  | y :: l, x, h => by
    simp only [List.map_cons, List.sum_cons]
    rcases List.mem_cons.1 h with rfl | h
    · omega
    · have := mem_le_sum' (f := f) h; omega
theorem sum_four {α : Type} {f : α → Nat} : ∀ {l : List α}, (∀ x ∈ l, 1 ≤ f x) → (l.map fun x => 4 * f x - 2).sum + 2 * l.length = 4 * (l.map f).sum
  | [], _ => rfl
  | x :: l, h => by
    simp only [List.map_cons, List.sum_cons, List.length_cons]
    have := sum_four (l := l) (f := f) fun y hy => h y (by simp [hy])
    have := h x (by simp); omega
end Go.Ab
