/-
  WHAT A FUNCTION WITH FUEL COMES TO, WHEN THERE IS ENOUGH OF IT.
-/
import Derived.Test.YtoimblncdeimoaaAbLoops
namespace Go.Ab
open Go
set_option linter.unusedVariables false
set_option linter.unusedSimpArgs false

/-- from some fuel on, the answer is r -/
def Ev {α : Type} (f : Nat → Option α) (r : α) : Prop := ∃ n, ∀ m, n ≤ m → f m = some r
section
variable {α β : Type} {r : α}
theorem Ev.get {f : Nat → Option α} (h : Ev f r) : ∃ n, f n = some r := by obtain ⟨n, hn⟩ := h; exact ⟨n, hn n (Nat.le_refl _)⟩
theorem Ev.succ {f g : Nat → Option α} (h : ∀ n, f (n + 1) = g n) (hg : Ev g r) : Ev f r := by
  obtain ⟨n, hn⟩ := hg
  refine ⟨n + 1, fun m hm => ?_⟩
  obtain ⟨q, rfl⟩ : ∃ q, m = q + 1 := ⟨m - 1, by omega⟩
  rw [h]; exact hn q (by omega)
theorem Ev.same {f g : Nat → Option α} (h : ∀ n, f n = g n) (hg : Ev g r) : Ev f r := by
  obtain ⟨n, hn⟩ := hg
  exact ⟨n, fun m hm => by rw [h]; exact hn m hm⟩
theorem Ev.pure {o : Option α} (h : o = some r) : Ev (fun _ => o) r := ⟨0, fun _ _ => h⟩
theorem Ev.bind {a : Nat → Option β} {k : Nat → β → Option α} {y : β} (ha : Ev a y) (hk : Ev (fun n => k n y) r) : Ev (fun n => (a n).bind (k n)) r := by
  obtain ⟨n, hn⟩ := ha
  obtain ⟨q, hq⟩ := hk
  exact ⟨max n q, fun m hm => by show (a m).bind (k m) = _; rw [hn m (by omega)]; exact hq m (by omega)⟩
theorem Ev.opt {o : Option β} {k : Nat → β → Option α} {y : β} (ho : o = some y) (hk : Ev (fun n => k n y) r) : Ev (fun n => o.bind (k n)) r := .bind (.pure ho) hk
theorem Ev.t {c : Bool} {a b : Nat → Option α} (hc : c = true) (ha : Ev a r) : Ev (fun n => if c = true then a n else b n) r := by subst hc; exact ha
theorem Ev.f {c : Bool} {a b : Nat → Option α} (hc : c = false) (ha : Ev b r) : Ev (fun n => if c = true then a n else b n) r := by subst hc; exact ha
theorem Ev.cond {c : Bool} {a b : Nat → Option α} (ht : c = true → Ev a r) (hf : c = false → Ev b r) : Ev (fun n => if c = true then a n else b n) r := by
  cases c
  · exact hf rfl
  · exact ht rfl
theorem Ev.to {f : Nat → Option α} {r' : α} (h : Ev f r') (e : r' = r) : Ev f r := e ▸ h
end

/-! ### loops over a list by its indexes -/
section
variable {α β γ : Type} {xs : List α}
/-- every step goes on with one element -/
theorem ev_any {S : Nat → α → Option Bool} {L : Nat → Int → Option γ} {p : α → Bool} {y z : γ} (hb : xs.length ≤ 1048576)
    (hL : ∀ n (k : Int), L (n + 1) k = if decide (k < (xs.length : Int)) then (ix xs k).bind fun x => (S n x).bind fun b => if b then some y else L n (IntKind.i64.wrap (k + 1)) else some z)
    (hS : ∀ x, x ∈ xs → Ev (fun n => S n x) (p x)) : ∀ k, k ≤ xs.length → Ev (fun n => L n (k : Int)) (if (xs.drop k).any p then y else z) :=
  down (by
    refine .succ (fun n => by rw [hL]) ?_
    refine .f (by simp) ?_
    simpa using Ev.pure rfl) fun k hk ih => by
    refine .succ (fun n => by rw [hL]) ?_
    refine .t (by simpa using hk) ?_
    refine .opt (ix_lt hk) ?_
    refine .bind (hS _ (List.getElem_mem hk)) ?_
    rw [← List.getElem_cons_drop (h := hk)]
    refine .cond (fun h => ?_) fun h => ?_
    · simp only [List.any_cons, h, Bool.true_or, if_true]; exact .pure rfl
    · rw [wrk (by omega)]; simp only [List.any_cons, h, Bool.false_or]; exact ih
end
end Go.Ab
