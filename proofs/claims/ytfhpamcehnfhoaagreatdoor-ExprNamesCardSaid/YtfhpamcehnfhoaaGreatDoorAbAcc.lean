/-
  WORDS FOR PROOFS: loops that count up, slices that grow.
-/
import Derived.Test.YtfhpamcehnfhoaaGreatDoorAbBack
namespace Go.Ab
open Go
set_option linter.unusedSimpArgs false
set_option linter.unusedVariables false
section
variable {P : Program}

/-- a loop that counts up to N: the state at the head of round k is one of S k -/
theorem sat_upto {c : Code} {σ : St} {Q : AExit → St → Prop} (N : Nat) (S : Nat → St → Prop) (σ0 : St) (hw : Weak σ σ0) (h0 : S 0 σ0)
    (round : ∀ k σ, k ≤ N → S k σ → Sat P c σ (AExit.then (fun σ' => k < N ∧ ∃ τ, Weak σ' τ ∧ S (k + 1) τ) Q)) : Sat P (.loop c) σ Q :=
  sat_loop (fun n σ => ∃ k, n = N - k ∧ k ≤ N ∧ S k σ) N σ0 hw ⟨0, rfl, Nat.zero_le _, h0⟩ fun n σ ⟨k, hn, hk, hS⟩ =>
    (round k σ hk hS).mono fun e σ' hq => by
      cases e with
      | normal => obtain ⟨h1, τ, h2, h3⟩ := hq; exact ⟨N - (k + 1), τ, h2, ⟨k + 1, rfl, h1, h3⟩, by omega⟩
      | exit id => exact hq
      | ret => exact hq
      | panic v => exact hq

/-- a slice that grows: none yet, or an array of ours -/
structure AccE where
  ty : Nat
  sz : Nat
  v : V
  xs : List V
  w : Bool

def AccAt (lv : Nat) (L : List (Option AObj)) (k : Option Nat) (a : AccE) : Prop :=
  match k with
  | none => (a.v = .nils ∧ a.xs = []) ∨ (a.v = .sl a.sz a.xs true ∧ (a.w = true → a.xs = []))
  | some i => ∃ ver cp, a.v = .hs lv i ver 0 a.xs.length false ∧ L[i]? = some (some (.arr ver a.ty a.sz a.xs cp))

/-- slices that grow, and other objects, in one list -/
def Accs (lv : Nat) (L : List (Option AObj)) (as : List AccE) (os : List (Nat × AObj)) : Prop :=
  ∃ ks : List (Option Nat), ks.length = as.length ∧ (∀ (j : Nat) (k : Option Nat) (a : AccE), ks[j]? = some k → as[j]? = some a → AccAt lv L k a) ∧
    (∀ (i j : Nat) (n : Nat), ks[i]? = some (some n) → ks[j]? = some (some n) → i = j) ∧ (∀ p ∈ os, L[p.1]? = some (some p.2) ∧ ∀ j : Nat, ks[j]? ≠ some (some p.1))

theorem AccAt.lt {lv : Nat} {L : List (Option AObj)} {i : Nat} {a : AccE} (h : AccAt lv L (some i) a) : i < L.length := by
  obtain ⟨ver, cp, _, h⟩ := h
  exact (List.getElem?_eq_some_iff.1 h).1

theorem Accs.nil (lv : Nat) (L : List (Option AObj)) : Accs lv L [] [] := ⟨[], rfl, by simp, by simp, by simp⟩

/-- a slice that is nil -/
theorem Accs.cons {lv : Nat} {L : List (Option AObj)} {as : List AccE} {os : List (Nat × AObj)} (h : Accs lv L as os) (ty sz : Nat) (w : Bool) : Accs lv L (⟨ty, sz, .nils, [], w⟩ :: as) os := by
  obtain ⟨ks, h1, h2, h3, h4⟩ := h
  refine ⟨none :: ks, by simp [h1], fun j k a hk ha => ?_, fun i j n hi hj => ?_, fun p hp => ⟨(h4 p hp).1, fun j hj => ?_⟩⟩
  · cases j with
    | zero => simp at hk ha; subst hk; subst ha; exact .inl ⟨rfl, rfl⟩
    | succ j => exact h2 j k a (by simpa using hk) (by simpa using ha)
  · cases i with
    | zero => simp at hi
    | succ i => cases j with
      | zero => simp at hj
      | succ j => rw [h3 i j n (by simpa using hi) (by simpa using hj)]
  · cases j with
    | zero => simp at hj
    | succ j => exact (h4 p hp).2 j (by simpa using hj)

/-- a slice that is full -/
theorem Accs.consS {lv : Nat} {L : List (Option AObj)} {as : List AccE} {os : List (Nat × AObj)} (h : Accs lv L as os) (ty sz : Nat) (xs : List V) (w : Bool) (hw : w = true → xs = []) : Accs lv L (⟨ty, sz, .sl sz xs true, xs, w⟩ :: as) os := by
  obtain ⟨ks, h1, h2, h3, h4⟩ := h
  refine ⟨none :: ks, by simp [h1], fun j k a hk ha => ?_, fun i j n hi hj => ?_, fun p hp => ⟨(h4 p hp).1, fun j hj => ?_⟩⟩
  · cases j with
    | zero => simp at hk ha; subst hk; subst ha; exact .inr ⟨rfl, hw⟩
    | succ j => exact h2 j k a (by simpa using hk) (by simpa using ha)
  · cases i with
    | zero => simp at hi
    | succ i => cases j with
      | zero => simp at hj
      | succ j => rw [h3 i j n (by simpa using hi) (by simpa using hj)]
  · cases j with
    | zero => simp at hj
    | succ j => exact (h4 p hp).2 j (by simpa using hj)

theorem Accs.grow {lv : Nat} {L : List (Option AObj)} {as : List AccE} {os : List (Nat × AObj)} (h : Accs lv L as os) (x : Option AObj) : Accs lv (L ++ [x]) as os := by
  obtain ⟨ks, h1, h2, h3, h4⟩ := h
  refine ⟨ks, h1, fun j k a hk ha => ?_, h3, fun p hp => ⟨?_, (h4 p hp).2⟩⟩
  · have := h2 j k a hk ha
    cases k with
    | none => exact this
    | some i => obtain ⟨ver, cp, q1, q2⟩ := this; exact ⟨ver, cp, q1, by rw [List.getElem?_append_left (List.getElem?_eq_some_iff.1 q2).1]; exact q2⟩
  · rw [List.getElem?_append_left (List.getElem?_eq_some_iff.1 (h4 p hp).1).1]; exact (h4 p hp).1

/-- an object more -/
theorem Accs.obj {lv : Nat} {L : List (Option AObj)} {as : List AccE} {os : List (Nat × AObj)} (h : Accs lv L as os) (o : AObj) : Accs lv (L ++ [some o]) as ((L.length, o) :: os) := by
  obtain ⟨ks, h1, h2, h3, h4⟩ := h
  refine ⟨ks, h1, fun j k a hk ha => ?_, h3, fun p hp => ?_⟩
  · have := h2 j k a hk ha
    cases k with
    | none => exact this
    | some i => obtain ⟨ver, cp, q1, q2⟩ := this; exact ⟨ver, cp, q1, by rw [List.getElem?_append_left (List.getElem?_eq_some_iff.1 q2).1]; exact q2⟩
  · rcases List.mem_cons.1 hp with rfl | hp
    · refine ⟨by simp, fun j hj => ?_⟩
      have hl := (List.getElem?_eq_some_iff.1 hj).1
      have ha : as[j]? = some (as[j]'(by omega)) := List.getElem?_eq_getElem _
      have := (h2 j _ _ hj ha).lt
      simp at this
    · exact ⟨by rw [List.getElem?_append_left (List.getElem?_eq_some_iff.1 (h4 p hp).1).1]; exact (h4 p hp).1, (h4 p hp).2⟩

theorem Accs.get {lv : Nat} {L : List (Option AObj)} {as : List AccE} {os : List (Nat × AObj)} (h : Accs lv L as os) {i : Nat} {o : AObj} (hm : (i, o) ∈ os) : L[i]? = some (some o) := by
  obtain ⟨ks, h1, h2, h3, h4⟩ := h
  exact (h4 _ hm).1

/-- fewer are told of -/
theorem Accs.sub {lv : Nat} {L : List (Option AObj)} {as : List AccE} {os os' : List (Nat × AObj)} (h : Accs lv L as os) (hs : ∀ p ∈ os', p ∈ os) : Accs lv L as os' := by
  obtain ⟨ks, h1, h2, h3, h4⟩ := h
  exact ⟨ks, h1, h2, h3, fun p hp => h4 p (hs p hp)⟩

/-- an object turns -/
theorem Accs.setObj {lv : Nat} {L : List (Option AObj)} {as : List AccE} {os : List (Nat × AObj)} (h : Accs lv L as os) {i : Nat} {o : AObj} (hm : (i, o) ∈ os) (o' : AObj) : Accs lv (L.set i (some o')) as (os.map fun p => if p.1 = i then (i, o') else p) := by
  obtain ⟨ks, h1, h2, h3, h4⟩ := h
  have hi := (List.getElem?_eq_some_iff.1 (h4 _ hm).1).1
  refine ⟨ks, h1, fun j k a hk ha => ?_, h3, fun p hp => ?_⟩
  · have := h2 j k a hk ha
    cases k with
    | none => exact this
    | some n =>
      obtain ⟨ver, cp, q1, q2⟩ := this
      refine ⟨ver, cp, q1, ?_⟩
      have : n ≠ i := fun he => (h4 _ hm).2 j (by rw [hk, he])
      rw [List.getElem?_set_ne (Ne.symm this)]; exact q2
  · rw [List.mem_map] at hp
    obtain ⟨q, hq, rfl⟩ := hp
    split
    · rename_i he
      refine ⟨by simp [hi], fun j hj => ?_⟩
      exact (h4 q hq).2 j (by rw [hj, he])
    · rename_i he
      exact ⟨by rw [List.getElem?_set_ne (fun h => he h.symm)]; exact (h4 q hq).1, (h4 q hq).2⟩

/-- a slice grows -/
theorem Accs.push {lv : Nat} {L : List (Option AObj)} {as : List AccE} {os : List (Nat × AObj)} (h : Accs lv L as os) {j : Nat} {ty sz : Nat} {v : V} {xs : List V} {w : Bool} (hj : as[j]? = some ⟨ty, sz, v, xs, w⟩) (ys : List V) (hr : xs.length + ys.length ≤ roomB) (E : Nat → Nat → Option AObj) :
    ∃ v' L', appendTo ⟨lv, L, E⟩ ty sz v ys = some (v', ⟨lv, L', E⟩) ∧ Accs lv L' (as.set j ⟨ty, sz, v', xs ++ ys, w⟩) os := by
  obtain ⟨ks, h1, h2, h3, h4⟩ := h
  have hjl := (List.getElem?_eq_some_iff.1 hj).1
  have hk : ks[j]? = some (ks[j]'(by omega)) := List.getElem?_eq_getElem _
  generalize ks[j]'(by omega) = k at hk
  have hA := h2 j k _ hk hj
  have hset : ∀ (i : Nat) (a : AccE) (b : AccE), (as.set j b)[i]? = some a → (i = j ∧ a = b) ∨ (i ≠ j ∧ as[i]? = some a) := fun i a b hi => by
    by_cases he : i = j
    · subst he; rw [List.getElem?_set_self (by omega)] at hi; injection hi with hi; exact .inl ⟨rfl, hi.symm⟩
    · rw [List.getElem?_set_ne (Ne.symm he)] at hi; exact .inr ⟨he, hi⟩
  cases k with
  | none =>
    cases ys with
    | nil =>
      rcases hA with ⟨hv, hx⟩ | hv
      · simp only at hv hx
        subst hv; subst hx
        refine ⟨.nils, L, rfl, ks, by simp [h1], fun i k a hk' ha => ?_, h3, h4⟩
        rcases hset i a _ ha with ⟨rfl, rfl⟩ | ⟨_, ha⟩
        · rw [hk] at hk'; injection hk' with hk'; subst hk'; exact .inl ⟨rfl, rfl⟩
        · exact h2 i k a hk' ha
      · obtain ⟨hv, hw⟩ := hv
        simp only at hv hw
        subst hv
        refine ⟨.sl sz xs true, L, by simp [appendTo], ks, by simp [h1], fun i k a hk' ha => ?_, h3, h4⟩
        rcases hset i a _ ha with ⟨rfl, rfl⟩ | ⟨_, ha⟩
        · rw [hk] at hk'; injection hk' with hk'; subst hk'; exact .inr ⟨by simp, by simpa using hw⟩
        · exact h2 i k a hk' ha
    | cons y r =>
      have happ : appendTo ⟨lv, L, E⟩ ty sz v (y :: r) = some (.hs lv L.length 0 0 (xs.length + (y :: r).length) false, ⟨lv, L ++ [some (.arr 0 ty sz (xs ++ y :: r) none)], E⟩) := by
        rcases hA with ⟨hv, hx⟩ | hv
        · simp only at hv hx
          subst hv; subst hx
          simp only [appendTo, Heap.push]; rw [if_pos (by simpa using hr)]; simp
        · obtain ⟨hv, hw⟩ := hv
          simp only at hv hw
          subst hv
          simp only [appendTo, Heap.push, if_true]; rw [if_pos (by simpa using hr)]
      refine ⟨_, _, happ, ks.set j (some L.length), by simp [h1], fun i k a hk' ha => ?_, fun i i' n hi hi' => ?_, fun p hp => ⟨?_, fun i hi => ?_⟩⟩
      · rcases hset i a _ ha with ⟨rfl, rfl⟩ | ⟨hne, ha⟩
        · rw [List.getElem?_set_self (by omega)] at hk'; injection hk' with hk'; subst hk'
          exact ⟨0, none, by simp, by simp⟩
        · rw [List.getElem?_set_ne (Ne.symm hne)] at hk'
          have := h2 i k a hk' ha
          cases k with
          | none => exact this
          | some n => obtain ⟨ver, cp, q1, q2⟩ := this; exact ⟨ver, cp, q1, by rw [List.getElem?_append_left (List.getElem?_eq_some_iff.1 q2).1]; exact q2⟩
      · have low : ∀ i n, i ≠ j → (ks.set j (some L.length))[i]? = some (some n) → n < L.length := fun i n hne hi => by
          rw [List.getElem?_set_ne (Ne.symm hne)] at hi
          have hl := (List.getElem?_eq_some_iff.1 hi).1
          exact (h2 i _ (as[i]'(by omega)) hi (List.getElem?_eq_getElem _)).lt
        by_cases e1 : i = j <;> by_cases e2 : i' = j
        · rw [e1, e2]
        · subst e1; rw [List.getElem?_set_self (by omega)] at hi; injection hi with hi; injection hi with hi
          have := low i' n e2 hi'; omega
        · subst e2; rw [List.getElem?_set_self (by omega)] at hi'; injection hi' with hi'; injection hi' with hi'
          have := low i n e1 hi; omega
        · rw [List.getElem?_set_ne (Ne.symm e1)] at hi; rw [List.getElem?_set_ne (Ne.symm e2)] at hi'
          exact h3 i i' n hi hi'
      · rw [List.getElem?_append_left (List.getElem?_eq_some_iff.1 (h4 p hp).1).1]; exact (h4 p hp).1
      · have hlt := (List.getElem?_eq_some_iff.1 (h4 p hp).1).1
        by_cases e1 : i = j
        · subst e1; rw [List.getElem?_set_self (by omega)] at hi; injection hi with hi; injection hi with hi; omega
        · rw [List.getElem?_set_ne (Ne.symm e1)] at hi; exact (h4 p hp).2 i hi
  | some n =>
    obtain ⟨ver, cp, hv, hL⟩ := hA
    simp only at hv hL
    subst hv
    have hn := (List.getElem?_eq_some_iff.1 hL).1
    refine ⟨.hs lv n (ver + 1) 0 (xs.length + ys.length) false, L.set n (some (.arr (ver + 1) ty sz (xs ++ ys) none)), ?_, ks, by simp [h1], fun i k a hk' ha => ?_, h3, fun p hp => ⟨?_, (h4 p hp).2⟩⟩
    · simp only [appendTo, Heap.get, Heap.set, if_true, hL, Option.join_some]
      rw [if_pos (by simpa using hr)]
    · rcases hset i a _ ha with ⟨rfl, rfl⟩ | ⟨hne, ha⟩
      · rw [hk] at hk'; injection hk' with hk'; subst hk'
        exact ⟨ver + 1, none, by simp, by simp [hn]⟩
      · have := h2 i k a hk' ha
        cases k with
        | none => exact this
        | some n' =>
          obtain ⟨ver', cp', q1, q2⟩ := this
          refine ⟨ver', cp', q1, ?_⟩
          have : n' ≠ n := fun he => hne (h3 i j n (by rw [hk', he]) hk)
          rw [List.getElem?_set_ne (Ne.symm this)]; exact q2
    · have hlt := (List.getElem?_eq_some_iff.1 (h4 p hp).1).1
      have : p.1 ≠ n := fun he => (h4 p hp).2 j (by rw [hk, he])
      rw [List.getElem?_set_ne (Ne.symm this)]; exact (h4 p hp).1

/-- a slice that grew, told to the caller -/
theorem Accs.shut {lv0 lv : Nat} {L : List (Option AObj)} {E : Nat → Nat → Option AObj} {as : List AccE} {os : List (Nat × AObj)} (h : Accs lv L as os) {j : Nat} {ty sz : Nat} {v : V} {xs ys : List V} {w : Bool} (hj : as[j]? = some ⟨ty, sz, v, xs, w⟩)
    (hl : xs.length = ys.length) (h1 : ∀ (j : Nat) (x y : V), xs[j]? = some x → ys[j]? = some y → x.cells.length = y.cells.length)
    (h2 : ∀ (j : Nat) (x y : V) (t : Nat) (v u : V), xs[j]? = some x → ys[j]? = some y → x.cells[t]? = some v → y.cells[t]? = some u → VS ⟨lv, L, E⟩ (outer lv0) v u) : VS ⟨lv, L, E⟩ (outer lv0) v (.sl sz ys false) := by
  obtain ⟨ks, k1, k2, k3, k4⟩ := h
  have hjl := (List.getElem?_eq_some_iff.1 hj).1
  have hk : ks[j]? = some (ks[j]'(by omega)) := List.getElem?_eq_getElem _
  generalize ks[j]'(by omega) = k at hk
  have hA := k2 j k _ hk hj
  cases k with
  | none =>
    rcases hA with ⟨hv, hx⟩ | hv
    · simp only at hv hx
      subst hv; subst hx
      have : ys = [] := List.eq_nil_of_length_eq_zero (by simpa using hl.symm)
      subst this
      exact .nil _ _
    · obtain ⟨hv, hw⟩ := hv
      simp only at hv hw
      subst hv
      exact .sl _ _ _ _ hl h1 h2
  | some n =>
    obtain ⟨ver, cp, hv, hL⟩ := hA
    simp only at hv hL
    subst hv
    refine .hs lv n ver ty sz 0 xs.length false xs ys cp rfl ?_ hl.symm (fun j x y hx hy => h1 j x y (by simpa using hx) hy) fun j x y t v u hx hy hv hu => h2 j x y t v u (by simpa using hx) hy hv hu
    unfold Heap.get; rw [if_pos rfl, hL]; rfl

/-- .. of values that name no own object -/
theorem Accs.sealed {lv0 lv : Nat} {L : List (Option AObj)} {E : Nat → Nat → Option AObj} {as : List AccE} {os : List (Nat × AObj)} (h : Accs lv L as os) {j : Nat} {ty sz : Nat} {v : V} {xs : List V} {w : Bool} (hj : as[j]? = some ⟨ty, sz, v, xs, w⟩)
    (hk : ∀ x ∈ xs, V.kin (outer lv0) x) : VS ⟨lv, L, E⟩ (outer lv0) v (.sl sz xs false) :=
  h.shut hj rfl (fun j x y hx hy => by rw [hx] at hy; injection hy with hy; rw [hy]) fun j x y t v u hx hy hv hu => by
    rw [hx] at hy; injection hy with hy; subst hy
    rw [hv] at hu; injection hu with hu; subst hu
    exact .keep _ (kinL_get (kin_cells (hk x (List.mem_of_getElem? hx))) t v hv)

theorem vs_eq {H : Heap} {D : Nat → Nat → Prop} {v r : V} (h : v = r) (hk : V.kin D r) : VS H D v r := by subst h; exact .keep _ hk
theorem kinL_map {D : Nat → Nat → Prop} {α : Type} {f : α → V} {l : List α} (h : ∀ x ∈ l, V.kin D (f x)) : V.kinL D (l.map f) :=
  kinL_of fun v hv => by obtain ⟨y, hy, rfl⟩ := List.mem_map.1 hv; exact h y hy
@[simp] theorem kinL_str {D : Nat → Nat → Prop} (l : List (List UInt8)) : V.kinL D (l.map V.str) ↔ True := iff_true_intro (kinL_map fun _ _ => by simp [V.kin])
theorem i64_eq {x y : Int} (h : x = y) : V.int .i64 x = V.int .i64 y := by rw [h]
theorem bool_eq {x y : Bool} (h : x = y) : V.bool x = V.bool y := by rw [h]
end
end Go.Ab
