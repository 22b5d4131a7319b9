/-
  A MACHINE THAT RUNS CLOSED CALLS BY RECKONING: its temporaries and its memory, in trees.
-/
import Derived.Test.YtfhpamcehnfhoaaGreatDoorAbMore
import Derived.Test.YtfhpamcehnfhoaaGreatDoorAbRec
import Derived.Test.YtfhpamcehnfhoaaGreatDoorAbComm
namespace Go.Ab
open Go
set_option linter.unusedVariables false
set_option linter.unusedSimpArgs false

/-! ### rows of things, by paths in a tree -/
inductive BT (α : Type) where
  | leaf
  | node (v : α) (l r : BT α)
section
variable {α : Type} (d : α)
def BT.val : BT α → α
  | .leaf => d
  | .node v _ _ => v
def BT.lt : BT α → BT α
  | .leaf => .leaf
  | .node _ l _ => l
def BT.rt : BT α → BT α
  | .leaf => .leaf
  | .node _ _ r => r
noncomputable def BT.get (p : List Bool) : BT α → α := @List.rec Bool (fun _ => BT α → α) (fun t => t.val d) (fun b _ ih t => @Bool.rec (fun _ => α) (ih t.lt) (ih t.rt) b) p
noncomputable def BT.put (x : α) (p : List Bool) : BT α → BT α := @List.rec Bool (fun _ => BT α → BT α) (fun t => .node x t.lt t.rt) (fun b _ ih t => @Bool.rec (fun _ => BT α) (.node (t.val d) (ih t.lt) t.rt) (.node (t.val d) t.lt (ih t.rt)) b) p
@[simp] theorem BT.get_nil (t : BT α) : BT.get d [] t = t.val d := rfl
@[simp] theorem BT.get_t (p : List Bool) (t : BT α) : BT.get d (true :: p) t = BT.get d p t.rt := rfl
@[simp] theorem BT.get_f (p : List Bool) (t : BT α) : BT.get d (false :: p) t = BT.get d p t.lt := rfl
@[simp] theorem BT.put_nil (x : α) (t : BT α) : BT.put d x [] t = .node x t.lt t.rt := rfl
@[simp] theorem BT.put_t (x : α) (p : List Bool) (t : BT α) : BT.put d x (true :: p) t = .node (t.val d) t.lt (BT.put d x p t.rt) := rfl
@[simp] theorem BT.put_f (x : α) (p : List Bool) (t : BT α) : BT.put d x (false :: p) t = .node (t.val d) (BT.put d x p t.lt) t.rt := rfl
theorem BT.get_leaf : ∀ p : List Bool, BT.get d p .leaf = d
  | [] => rfl
  | true :: p => BT.get_leaf p
  | false :: p => BT.get_leaf p
theorem BT.get_put (x : α) : ∀ (q p : List Bool) (t : BT α), BT.get d p (BT.put d x q t) = if p = q then x else BT.get d p t
  | [], [], t => by simp [BT.val]
  | [], true :: p, t => by simp [BT.rt]
  | [], false :: p, t => by simp [BT.lt]
  | true :: q, [], t => by simp [BT.val]
  | false :: q, [], t => by simp [BT.val]
  | true :: q, true :: p, t => by simp [BT.rt, BT.get_put x q p]
  | false :: q, false :: p, t => by simp [BT.lt, BT.get_put x q p]
  | true :: q, false :: p, t => by simp [BT.lt]
  | false :: q, true :: p, t => by simp [BT.rt]
end
def pathF : Nat → Nat → List Bool
  | 0, _ => []
  | f + 1, n => match Nat.beq n 0 with
    | true => []
    | false => Nat.beq (Nat.mod n 2) 1 :: pathF f (Nat.div n 2)
def path (n : Nat) : List Bool := pathF n n
def unpath : List Bool → Nat
  | [] => 0
  | b :: p => (match b with | true => 1 | false => 0) + 2 * unpath p
theorem unpathF : ∀ (f n : Nat), n ≤ f → unpath (pathF f n) = n
  | 0, n, h => by
    have : n = 0 := by omega
    subst this; rfl
  | f + 1, n, h => by
    unfold pathF
    cases e : Nat.beq n 0
    · have hn : n ≠ 0 := fun hh => by subst hh; cases e
      simp only [unpath]
      have hd : Nat.div n 2 = n / 2 := rfl
      have hm : Nat.mod n 2 = n % 2 := rfl
      rw [unpathF f (Nat.div n 2) (by rw [hd]; omega), hd, hm]
      cases e2 : Nat.beq (n % 2) 1
      · have : n % 2 ≠ 1 := fun hh => by rw [hh] at e2; cases e2
        show 0 + 2 * (n / 2) = n
        omega
      · have : n % 2 = 1 := Nat.eq_of_beq_eq_true e2
        show 1 + 2 * (n / 2) = n
        omega
    · have : n = 0 := Nat.eq_of_beq_eq_true e
      subst this; rfl
theorem path_inj {m n : Nat} (h : path m = path n) : m = n := by
  have h1 := unpathF m m (Nat.le_refl _)
  have h2 := unpathF n n (Nat.le_refl _)
  rw [show pathF m m = path m from rfl, h] at h1
  rw [← h1]; exact h2

/-! ### memory -/
structure XH where
  n : Nat
  t : BT (Option AObj)
noncomputable def xg (lv : Nat) (h : XH) (l i : Nat) : Option AObj := match Nat.beq l lv with
  | true => BT.get none (path i) h.t
  | false => none
structure XHR (lv : Nat) (E : Nat → Nat → Option AObj) (h : XH) (H : Heap) : Prop where
  lv : H.lv = lv
  out : H.E = E
  len : H.L.length = h.n
  get : ∀ i, (H.L[i]?).join = BT.get none (path i) h.t
theorem XHR.xg {lv : Nat} {E : Nat → Nat → Option AObj} {h : XH} {H : Heap} (k : XHR lv E h H) {l i : Nat} {o : AObj} (hg : xg lv h l i = some o) : H.get l i = some o := by
  unfold Go.Ab.xg at hg
  split at hg
  · rename_i hl
    have : l = lv := Nat.eq_of_beq_eq_true hl
    unfold Heap.get
    rw [if_pos (by rw [this, k.lv]), k.get, hg]
  · cases hg

/-- what an operation does -/
inductive Eff where
  | keep (v : V)
  | push (mk : Nat → Nat → V) (o : AObj)
  | set (l i : Nat) (o : AObj) (v : V)
  | hide (i : Nat) (v : V)
def Eff.on (H : Heap) : Eff → V × Heap
  | .keep v => (v, H)
  | .push mk o => (mk H.lv H.L.length, H.push o)
  | .set l i o v => (v, H.set l i o)
  | .hide i v => (v, H.hide i)
noncomputable def Eff.onX (lv : Nat) (h : XH) : Eff → Option (V × XH)
  | .keep v => some (v, h)
  | .push mk o => some (mk lv h.n, ⟨Nat.succ h.n, BT.put none (some o) (path h.n) h.t⟩)
  | .set l i o v => match Nat.beq l lv with
    | true => match Nat.blt i h.n with
      | true => some (v, ⟨h.n, BT.put none (some o) (path i) h.t⟩)
      | false => none
    | false => none
  | .hide i v => match Nat.blt i h.n with
    | true => some (v, ⟨h.n, BT.put none none (path i) h.t⟩)
    | false => none
theorem blt_lt {a b : Nat} (h : Nat.blt a b = true) : a < b := by
  unfold Nat.blt at h
  exact Nat.le_of_ble_eq_true h
theorem Eff.onX_on {lv : Nat} {E : Nat → Nat → Option AObj} {h h' : XH} {H : Heap} {v : V} (k : XHR lv E h H) {e : Eff} (he : e.onX lv h = some (v, h')) : (e.on H).1 = v ∧ XHR lv E h' (e.on H).2 := by
  cases e with
  | keep u =>
    simp only [Eff.onX, Option.some.injEq, Prod.mk.injEq] at he
    obtain ⟨rfl, rfl⟩ := he
    exact ⟨rfl, k⟩
  | push mk o =>
    simp only [Eff.onX, Option.some.injEq, Prod.mk.injEq] at he
    obtain ⟨rfl, rfl⟩ := he
    refine ⟨by simp only [Eff.on, k.lv, k.len], k.lv, k.out, by simp [Eff.on, Heap.push, k.len], fun i => ?_⟩
    simp only [Eff.on, Heap.push]
    rw [BT.get_put]
    by_cases hi : i = h.n
    · subst hi
      rw [if_pos rfl, ← k.len]; simp
    · rw [if_neg (fun hh => hi (path_inj hh)), ← k.get]
      by_cases h2 : i < H.L.length
      · rw [List.getElem?_append_left h2]
      · rw [List.getElem?_eq_none (show (H.L ++ [some o]).length ≤ i by have := k.len; simp; omega), List.getElem?_eq_none (show H.L.length ≤ i by omega)]
  | set l i o u =>
    simp only [Eff.onX] at he
    split at he
    · rename_i hl
      split at he
      · rename_i hi
        simp only [Option.some.injEq, Prod.mk.injEq] at he
        obtain ⟨rfl, rfl⟩ := he
        have hl' : l = lv := Nat.eq_of_beq_eq_true hl
        have hi' : i < H.L.length := by rw [k.len]; exact blt_lt hi
        have hs : H.set l i o = { H with L := H.L.set i (some o) } := by unfold Heap.set; rw [if_pos (by rw [hl', k.lv])]
        refine ⟨rfl, ?_, ?_, ?_, fun j => ?_⟩
        · simp only [Eff.on, hs]; exact k.lv
        · simp only [Eff.on, hs]; exact k.out
        · simp only [Eff.on, hs, List.length_set]; exact k.len
        · simp only [Eff.on, hs]
          rw [BT.get_put, List.getElem?_set]
          by_cases hj : i = j
          · subst hj; rw [if_pos rfl, if_pos rfl, if_pos hi']; rfl
          · rw [if_neg hj, if_neg (fun hh => hj (path_inj hh).symm)]; exact k.get j
      · cases he
    · cases he
  | hide i u =>
    simp only [Eff.onX] at he
    split at he
    · rename_i hi
      simp only [Option.some.injEq, Prod.mk.injEq] at he
      obtain ⟨rfl, rfl⟩ := he
      have hi' : i < H.L.length := by rw [k.len]; exact blt_lt hi
      refine ⟨rfl, k.lv, k.out, by simp only [Eff.on, Heap.hide, List.length_set]; exact k.len, fun j => ?_⟩
      simp only [Eff.on, Heap.hide]
      rw [BT.get_put, List.getElem?_set]
      by_cases hj : i = j
      · subst hj; rw [if_pos rfl, if_pos rfl, if_pos hi']; rfl
      · rw [if_neg hj, if_neg (fun hh => hj (path_inj hh).symm)]; exact k.get j
    · cases he

/-! ### temporaries -/
noncomputable def evT (T : BT V) : Operand → V
  | .tmp j => BT.get .any (path j) T
  | .const v => ofConst v
  | .global k => gv k
  | .func f => .fn f [] []
noncomputable def tput (n : Nat) (T : BT V) (dst : Option Nat) (v : V) : Option (BT V) :=
  match dst with
  | none => some T
  | some d => match Nat.blt d n with
    | true => some (BT.put .any v (path d) T)
    | false => none
noncomputable def wantedX (ops : Array Oper) (T : BT V) (o : Oper) : Option Bool :=
  match o.guard with
  | none => some true
  | some (j, want) => match (ops[j]?).bind (·.dst) with
    | some d => match BT.get .any (path d) T with
      | .bool b => some (b == want)
      | .tup _ => some false
      | _ => none
    | none => none

abbrev DL := List (Nat × List V)
structure XR (n lv : Nat) (E : Nat → Nat → Option AObj) (T : BT V) (h : XH) (D : DL) (σ : St) : Prop where
  heap : XHR lv E h σ.H
  defers : σ.d = D
  e0 : σ.e0 = E
  len : σ.t.length = n
  get : ∀ j, σ.t.getD j .any = BT.get .any (path j) T
section
variable {n lv : Nat} {E : Nat → Nat → Option AObj} {T T' : BT V} {h h' : XH} {σ : St} {D : DL}
theorem XR.ev (k : XR n lv E T h D σ) : σ.ev = evT T := by
  funext o
  cases o with
  | tmp j => exact k.get j
  | const v => rfl
  | global g => rfl
  | func f => rfl
theorem XR.wanted (k : XR n lv E T h D σ) (ops : Array Oper) (o : Oper) : wantedV ops σ o = wantedX ops T o := by
  unfold wantedV wantedX
  simp only [k.get]
  cases o.guard with
  | none => rfl
  | some p =>
    obtain ⟨j, w⟩ := p
    simp only
    cases (ops[j]?).bind (fun x => x.dst) with
    | none => rfl
    | some d =>
      simp only
      cases BT.get V.any (path d) T <;> rfl
theorem XR.put (k : XR n lv E T h D σ) {H' : Heap} (hh : XHR lv E h' H') {dst : Option Nat} {v : V} (hp : tput n T dst v = some T') : XR n lv E T' h' D ({ σ with H := H' }.put dst v) := by
  unfold tput at hp
  split at hp
  · injection hp with hp; subst hp
    exact ⟨hh, k.defers, k.e0, k.len, k.get⟩
  · rename_i d
    split at hp
    · rename_i hd
      injection hp with hp; subst hp
      have hd' : d < n := blt_lt hd
      refine ⟨hh, k.defers, k.e0, by simp [St.put, k.len], fun j => ?_⟩
      rw [BT.get_put]
      simp only [St.put]
      rw [List.getD_eq_getElem?_getD, List.getElem?_set]
      by_cases e : d = j
      · subst e
        rw [if_pos rfl, if_pos rfl, if_pos (by rw [k.len]; exact hd')]
        rfl
      · rw [if_neg e, if_neg (fun hh => e (path_inj hh).symm), ← List.getD_eq_getElem?_getD]
        exact k.get j
    · cases hp
theorem XR.put' (k : XR n lv E T h D σ) {dst : Option Nat} {v : V} (hp : tput n T dst v = some T') : XR n lv E T' h D (σ.put dst v) := by
  have := k.put (H' := σ.H) k.heap hp
  exact this
end

/-! ### the arguments of a call -/
noncomputable def enterT (j : Nat) (vs : List V) : BT V → BT V := @List.rec V (fun _ => Nat → BT V → BT V) (fun _ T => T) (fun v _ ih j T => ih (Nat.succ j) (BT.put .any v (path j) T)) vs j
theorem enterT_nil (j : Nat) (T : BT V) : enterT j [] T = T := rfl
theorem enterT_cons (j : Nat) (v : V) (vs : List V) (T : BT V) : enterT j (v :: vs) T = enterT (Nat.succ j) vs (BT.put .any v (path j) T) := rfl
theorem enterT_get : ∀ (vs : List V) (j k : Nat) (T : BT V), BT.get .any (path k) (enterT j vs T) = if j ≤ k ∧ k < j + vs.length then vs.getD (k - j) .any else BT.get .any (path k) T
  | [], j, k, T => by
    rw [enterT_nil, if_neg (by simp only [List.length_nil]; omega)]
  | v :: vs, j, k, T => by
    rw [enterT_cons, enterT_get vs, BT.get_put]
    simp only [Nat.succ_eq_add_one, List.length_cons]
    by_cases h1 : j = k
    · subst h1
      rw [if_neg (by omega), if_pos rfl, if_pos (by omega)]; simp
    · rw [if_neg (fun hh => h1 (path_inj hh).symm)]
      by_cases h2 : j + 1 ≤ k ∧ k < j + 1 + vs.length
      · rw [if_pos h2, if_pos (by omega), show k - j = (k - (j + 1)) + 1 by omega]; rfl
      · rw [if_neg h2, if_neg (by omega)]
theorem xr_enter {n lv : Nat} {E : Nat → Nat → Option AObj} {args : List V} {h : XH} {H : Heap} (hl : Nat.ble args.length n = true) (hh : XHR lv E h H) : XR n lv E (enterT 0 args .leaf) h [] ⟨args ++ List.replicate (n - args.length) .any, H, [], E⟩ := by
  have hl' := Nat.le_of_ble_eq_true hl
  refine ⟨hh, rfl, rfl, by simp; omega, fun j => ?_⟩
  rw [enterT_get, BT.get_leaf]
  simp only [Nat.zero_le, true_and, Nat.zero_add, Nat.sub_zero]
  rw [List.getD_eq_getElem?_getD, List.getElem?_append]
  split
  · rw [List.getD_eq_getElem?_getD]
  · rw [List.getElem?_replicate]
    split <;> simp
end Go.Ab
