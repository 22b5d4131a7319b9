/-
  WORDS FOR PROOFS THAT ARE WRITTEN BY A PROGRAM (gen.py).
-/
import Derived.Test.YtfhpamcehnfhoaaGreatDoorAbBin
namespace Go.Ab
open Go
set_option linter.unusedSimpArgs false
set_option linter.unusedVariables false

/-! ### what functions compute: steps that may fail -/
def ix {α : Type} (l : List α) (i : Int) : Option α := if 0 ≤ i then l[i.toNat]? else none
def sub {α : Type} (l : List α) (lo hi : Int) : Option (List α) := if 0 ≤ lo ∧ lo ≤ hi ∧ hi ≤ l.length then some ((l.take hi.toNat).drop lo.toNat) else none
def cat (x y : List UInt8) : Option (List UInt8) := if x.length + y.length ≤ maxLen then some (x ++ y) else none
def ext {α : Type} (x y : List α) : Option (List α) := if x.length + y.length ≤ roomB then some (x ++ y) else none
/-- maps by strings, as lists of their entries in order -/
def mget {T : Type} (m : List (List UInt8 × T)) (k : List UInt8) : Option T := (m.find? fun p => k == p.1).map (·.2)
def mput {T : Type} (m : List (List UInt8 × T)) (k : List UInt8) (x : T) : List (List UInt8 × T) := match m.findIdx? (fun p => k == p.1) with | none => m ++ [(k, x)] | some j => m.set j (k, x)
def quo (k : IntKind) (x y : Int) : Option Int := if y = 0 then none else some (k.wrap (x.tdiv y))
def rem (k : IntKind) (x y : Int) : Option Int := if y = 0 then none else some (x.tmod y)
def idiv (k : IntKind) (x y : Int) : Option Int := quo k x y

theorem ix_some {α : Type} {l : List α} {i : Int} {x : α} (h : ix l i = some x) : 0 ≤ i ∧ l[i.toNat]? = some x := by
  unfold ix at h; split at h
  · exact ⟨‹_›, h⟩
  · cases h
theorem sub_some {α : Type} {l y : List α} {lo hi : Int} (h : sub l lo hi = some y) : 0 ≤ lo ∧ lo ≤ hi ∧ hi ≤ l.length ∧ y = (l.take hi.toNat).drop lo.toNat ∧ 0 ≤ hi ∧ lo ≤ (hi.toNat : Int) := by
  unfold sub at h; split at h
  · rename_i q; injection h with h; exact ⟨q.1, q.2.1, q.2.2, h.symm, by omega, by omega⟩
  · cases h
theorem cat_some {x y z : List UInt8} (h : cat x y = some z) : x.length + y.length ≤ maxLen ∧ z = x ++ y := by
  unfold cat at h; split at h
  · injection h with h; exact ⟨‹_›, h.symm⟩
  · cases h
theorem ext_some {α : Type} {x y z : List α} (h : ext x y = some z) : x.length + y.length ≤ roomB ∧ z = x ++ y := by
  unfold ext at h; split at h
  · injection h with h; exact ⟨‹_›, h.symm⟩
  · cases h
theorem quo_some {k : IntKind} {x y z : Int} (h : quo k x y = some z) : y ≠ 0 ∧ z = k.wrap (x.tdiv y) := by
  unfold quo at h; split at h
  · cases h
  · injection h with h; exact ⟨‹_›, h.symm⟩
theorem rem_some {k : IntKind} {x y z : Int} (h : rem k x y = some z) : y ≠ 0 ∧ z = x.tmod y := by
  unfold rem at h; split at h
  · cases h
  · injection h with h; exact ⟨‹_›, h.symm⟩

theorem bnd_hi {α : Type} {o : Option α} {β : Type} {f : α → Option β} {r : β} (h : o.bind f = some r) : ∃ x, o = some x ∧ f x = some r := by
  cases o with
  | none => cases h
  | some x => exact ⟨x, rfl, h⟩
theorem ite_t {c : Bool} {α : Type} {x y : α} {r : α} (hc : c = true) (h : (if c = true then x else y) = r) : x = r := by rw [if_pos hc] at h; exact h
theorem ite_f {c : Bool} {α : Type} {x y : α} {r : α} (hc : c = false) (h : (if c = true then x else y) = r) : y = r := by rw [if_neg (by simp [hc])] at h; exact h

/-- slots of which nothing is told -/
def an : Nat → List V → List V
  | 0, l => l
  | n + 1, l => .any :: an n l

/-! ### own objects by name -/
structure AccG (lv : Nat) (L : List (Option AObj)) (as : List AccE) (os : List (Nat × AObj)) : Prop where
  accs : Accs lv L as os
  nodup : (os.map (·.1)).Nodup

theorem AccG.nil (lv : Nat) : AccG lv [] [] [] := ⟨Accs.nil _ _, by simp⟩

theorem AccG.get {lv : Nat} {L : List (Option AObj)} {as : List AccE} {os : List (Nat × AObj)} (h : AccG lv L as os) {k i : Nat} {o : AObj} (hk : os[k]? = some (i, o)) : L[i]? = some (some o) :=
  h.accs.get (List.mem_of_getElem? hk)

theorem Accs.perm {lv : Nat} {L : List (Option AObj)} {as : List AccE} {os os' : List (Nat × AObj)} (h : Accs lv L as os) (hs : ∀ p ∈ os', p ∈ os) : Accs lv L as os' := h.sub hs

theorem AccG.obj {lv : Nat} {L : List (Option AObj)} {as : List AccE} {os : List (Nat × AObj)} (h : AccG lv L as os) (o : AObj) : AccG lv (L ++ [some o]) as ((L.length, o) :: os) := by
  refine ⟨h.accs.obj o, ?_⟩
  rw [List.map_cons, List.nodup_cons]
  refine ⟨fun ha => ?_, h.nodup⟩
  obtain ⟨p, hp, hq⟩ := List.mem_map.1 ha
  have := (List.getElem?_eq_some_iff.1 (h.accs.get (show (p.1, p.2) ∈ os from hp))).1
  omega

theorem AccG.upd {lv : Nat} {L : List (Option AObj)} {as : List AccE} {os : List (Nat × AObj)} (h : AccG lv L as os) {k i : Nat} {o : AObj} (hk : os[k]? = some (i, o)) (o' : AObj) : AccG lv (L.set i (some o')) as (os.set k (i, o')) := by
  have hm := List.mem_of_getElem? hk
  have hmap : os.map (fun p => if p.1 = i then (i, o') else p) = os.set k (i, o') := by
    apply List.ext_getElem?
    intro j
    rw [List.getElem?_map, List.getElem?_set]
    by_cases hj : k = j
    · subst hj; rw [if_pos rfl, hk, if_pos (List.getElem?_eq_some_iff.1 hk).1]; simp
    · rw [if_neg hj]
      cases hq : os[j]? with
      | none => rfl
      | some p =>
        simp only [Option.map_some]
        rw [if_neg]
        intro he
        have h1 : (os.map (·.1))[j]? = some i := by rw [List.getElem?_map, hq]; simp [he]
        have h2 : (os.map (·.1))[k]? = some i := by rw [List.getElem?_map, hk]; rfl
        have hlt := (List.getElem?_eq_some_iff.1 h1).1
        exact hj (((List.getElem?_inj hlt h.nodup).1 (h1.trans h2.symm)).symm)
  refine ⟨?_, ?_⟩
  · rw [← hmap]; exact h.accs.setObj hm o'
  · have : (os.set k (i, o')).map (·.1) = os.map (·.1) := by
      rw [List.map_set]
      apply List.ext_getElem?
      intro j
      rw [List.getElem?_set]
      split
      · rename_i hj; subst hj
        have h2 : (os.map (·.1))[k]? = some i := by rw [List.getElem?_map, hk]; rfl
        rw [if_pos (List.getElem?_eq_some_iff.1 h2).1, h2]
      · rfl
    rw [this]; exact h.nodup

/-- fewer objects are told of: those at the places ks -/
theorem AccG.pick {lv : Nat} {L : List (Option AObj)} {as : List AccE} {os os' : List (Nat × AObj)} (h : AccG lv L as os) (hs : os'.Sublist os) : AccG lv L as os' :=
  ⟨h.accs.sub fun p hp => hs.subset hp, h.nodup.sublist (hs.map _)⟩

/-- some slices are told of: those at the places js -/
theorem AccG.sel {lv : Nat} {L : List (Option AObj)} {as as' : List AccE} {os os' : List (Nat × AObj)} (h : AccG lv L as os) (js : List Nat) (hn : js.Nodup) (ha : js.map (as[·]?) = as'.map some) (hs : os'.Sublist os) : AccG lv L as' os' := by
  obtain ⟨⟨ks, h1, h2, h3, h4⟩, h5⟩ := h.pick hs
  have hl : js.length = as'.length := by have := congrArg List.length ha; simpa using this
  have get : ∀ (t : Nat) (a : AccE), as'[t]? = some a → ∃ j, js[t]? = some j ∧ as[j]? = some a := fun t a ht => by
    have h6 : (as'.map some)[t]? = some (some a) := by simp [ht]
    rw [← ha, List.getElem?_map] at h6
    cases hj : js[t]? with
    | none => rw [hj] at h6; simp at h6
    | some j => rw [hj] at h6; simp at h6; exact ⟨j, rfl, h6⟩
  have kget : ∀ (t : Nat) (k : Option Nat), (js.map fun j => (ks[j]?).getD none)[t]? = some k → ∃ j, js[t]? = some j ∧ (ks[j]?).getD none = k := fun t k ht => by
    rw [List.getElem?_map] at ht
    cases hj : js[t]? with
    | none => rw [hj] at ht; simp at ht
    | some j => rw [hj] at ht; simp at ht; exact ⟨j, rfl, ht⟩
  have some_of : ∀ (j n : Nat), (ks[j]?).getD none = some n → ks[j]? = some (some n) := fun j n hj => by
    cases hq : ks[j]? with
    | none => rw [hq] at hj; simp at hj
    | some q => rw [hq] at hj; simp at hj; rw [hj]
  refine ⟨⟨js.map fun j => (ks[j]?).getD none, by simp [hl], fun t k a hk ha' => ?_, fun t t' n ht ht' => ?_, fun p hp => ⟨(h4 p hp).1, fun t ht => ?_⟩⟩, h5⟩
  · obtain ⟨j, q1, q2⟩ := get t a ha'
    obtain ⟨j', q3, q4⟩ := kget t k hk
    rw [q1] at q3; injection q3 with q3; subst q3
    have hjl : j < ks.length := by rw [h1]; exact (List.getElem?_eq_some_iff.1 q2).1
    have hk2 : ks[j]? = some ks[j] := List.getElem?_eq_getElem hjl
    rw [hk2] at q4; simp at q4; subst q4
    exact h2 j _ a hk2 q2
  · obtain ⟨j, q1, q2⟩ := kget t _ ht
    obtain ⟨j', q3, q4⟩ := kget t' _ ht'
    have := h3 j j' n (some_of _ _ q2) (some_of _ _ q4)
    subst this
    have hlt := (List.getElem?_eq_some_iff.1 q1).1
    exact (List.getElem?_inj hlt hn).1 (q1.trans q3.symm)
  · obtain ⟨j, q1, q2⟩ := kget t _ ht
    exact (h4 p hp).2 j (some_of _ _ q2)

/-- told of in another order, or not at all -/
theorem AccG.pick2 {lv : Nat} {L : List (Option AObj)} {as as' : List AccE} {os os' : List (Nat × AObj)} (h : AccG lv L as os) (fa fo : Nat → Nat) (ha : ∀ t, t < as'.length → as[fa t]? = as'[t]?) (hai : ∀ t u, t < as'.length → u < as'.length → fa t = fa u → t = u)
    (ho : ∀ t, t < os'.length → os[fo t]? = os'[t]?) (hoi : ∀ t u, t < os'.length → u < os'.length → fo t = fo u → t = u) : AccG lv L as' os' := by
  obtain ⟨⟨ks, h1, h2, h3, h4⟩, h5⟩ := h
  have kget : ∀ (t : Nat) (k : Option Nat), ((List.range as'.length).map fun t => (ks[fa t]?).getD none)[t]? = some k → t < as'.length ∧ ks[fa t]? = some k := fun t k ht => by
    rw [List.getElem?_map] at ht
    have hlt : t < as'.length := by
      rcases Nat.lt_or_ge t as'.length with q | q
      · exact q
      · rw [List.getElem?_eq_none (by simpa using q)] at ht; simp at ht
    rw [List.getElem?_range hlt] at ht
    simp only [Option.map_some, Option.some.injEq] at ht
    have h6 := ha t hlt
    rw [List.getElem?_eq_getElem hlt] at h6
    have hl2 := (List.getElem?_eq_some_iff.1 h6).1
    rw [List.getElem?_eq_getElem (show fa t < ks.length by omega)] at ht ⊢
    simp at ht; exact ⟨hlt, by rw [ht]⟩
  have oget : ∀ p ∈ os', p ∈ os := fun p hp => by
    obtain ⟨t, ht⟩ := List.mem_iff_getElem?.1 hp
    have hlt := (List.getElem?_eq_some_iff.1 ht).1
    exact List.mem_of_getElem? ((ho t hlt).trans ht)
  refine ⟨⟨(List.range as'.length).map fun t => (ks[fa t]?).getD none, by simp, fun t k a hk ha' => ?_, fun t u n ht hu => ?_, fun p hp => ⟨(h4 p (oget p hp)).1, fun t ht => ?_⟩⟩, ?_⟩
  · obtain ⟨hlt, hk'⟩ := kget t k hk
    exact h2 _ k a hk' ((ha t hlt).trans ha')
  · obtain ⟨l1, e1⟩ := kget t _ ht
    obtain ⟨l2, e2⟩ := kget u _ hu
    exact hai t u l1 l2 (h3 _ _ n e1 e2)
  · obtain ⟨l1, e1⟩ := kget t _ ht
    exact (h4 p (oget p hp)).2 _ e1
  · refine List.pairwise_iff_getElem.2 fun i j hi hj hij he => ?_
    have hi' : i < os'.length := by simpa using hi
    have hj' : j < os'.length := by simpa using hj
    have e1 : (os.map (·.1))[fo i]? = some (os'[i].1) := by rw [List.getElem?_map, ho i hi', List.getElem?_eq_getElem hi']; rfl
    have e2 : (os.map (·.1))[fo j]? = some (os'[j].1) := by rw [List.getElem?_map, ho j hj', List.getElem?_eq_getElem hj']; rfl
    have he' : os'[i].1 = os'[j].1 := by simpa using he
    rw [he'] at e1
    have hlt := (List.getElem?_eq_some_iff.1 e1).1
    have := hoi i j hi' hj' ((List.getElem?_inj hlt h5).1 (e1.trans e2.symm))
    omega

theorem sel_aux {α : Type} {pre pre' tl : List α} {js : List Nat} (hn : js.Nodup) (hj : js.map (pre[·]?) = pre'.map some) :
    (∀ t, t < (pre' ++ tl).length → (pre ++ tl)[if t < js.length then js.getD t 0 else t - js.length + pre.length]? = (pre' ++ tl)[t]?) ∧
    (∀ t u, t < (pre' ++ tl).length → u < (pre' ++ tl).length → (if t < js.length then js.getD t 0 else t - js.length + pre.length) = (if u < js.length then js.getD u 0 else u - js.length + pre.length) → t = u) := by
  have hl : js.length = pre'.length := by have := congrArg List.length hj; simpa using this
  have get : ∀ (t : Nat) (h : t < js.length), js[t] < pre.length ∧ pre[js[t]]? = pre'[t]? := fun t h => by
    have h6 : (js.map (pre[·]?))[t]? = (pre'.map some)[t]? := by rw [hj]
    rw [List.getElem?_map, List.getElem?_map, List.getElem?_eq_getElem h, List.getElem?_eq_getElem (show t < pre'.length by omega)] at h6
    simp only [Option.map_some, Option.some.injEq] at h6
    exact ⟨(List.getElem?_eq_some_iff.1 h6).1, by rw [h6, List.getElem?_eq_getElem (show t < pre'.length by omega)]⟩
  have gd : ∀ (t : Nat) (h : t < js.length), js.getD t 0 = js[t] := fun t h => by simp [List.getD_eq_getElem?_getD, h]
  refine ⟨fun t ht => ?_, fun t u ht hu he => ?_⟩
  · by_cases h : t < js.length
    · rw [if_pos h, gd t h, List.getElem?_append_left (get t h).1, List.getElem?_append_left (by omega)]; exact (get t h).2
    · rw [if_neg h, List.getElem?_append_right (by omega), List.getElem?_append_right (by omega)]
      congr 1; omega
  · by_cases h : t < js.length <;> by_cases h' : u < js.length
    · rw [if_pos h, if_pos h', gd t h, gd u h'] at he
      have e1 : js[t]? = some js[t] := List.getElem?_eq_getElem h
      have e2 : js[u]? = some js[t] := by rw [List.getElem?_eq_getElem h', he]
      exact (List.getElem?_inj h hn).1 (e1.trans e2.symm)
    · rw [if_pos h, if_neg h', gd t h] at he; have := (get t h).1; omega
    · rw [if_neg h, if_pos h', gd u h'] at he; have := (get u h').1; omega
    · rw [if_neg h, if_neg h'] at he; omega

theorem AccG.selT {lv : Nat} {L : List (Option AObj)} {pre pre' tl : List AccE} {preo preo' tlo : List (Nat × AObj)} (h : AccG lv L (pre ++ tl) (preo ++ tlo)) (js : List Nat) (hn : js.Nodup) (hj : js.map (pre[·]?) = pre'.map some)
    (ko : List Nat) (hkn : ko.Nodup) (hk : ko.map (preo[·]?) = preo'.map some) : AccG lv L (pre' ++ tl) (preo' ++ tlo) := by
  obtain ⟨a1, a2⟩ := sel_aux (tl := tl) hn hj
  obtain ⟨b1, b2⟩ := sel_aux (tl := tlo) hkn hk
  exact h.pick2 _ _ a1 a2 b1 b2

theorem AccG.cons {lv : Nat} {L : List (Option AObj)} {as : List AccE} {os : List (Nat × AObj)} (h : AccG lv L as os) (ty sz : Nat) (w : Bool) : AccG lv L (⟨ty, sz, .nils, [], w⟩ :: as) os := ⟨h.accs.cons ty sz w, h.nodup⟩

theorem AccG.consS {lv : Nat} {L : List (Option AObj)} {as : List AccE} {os : List (Nat × AObj)} (h : AccG lv L as os) (ty sz : Nat) (xs : List V) (w : Bool) (hw : w = true → xs = []) : AccG lv L (⟨ty, sz, .sl sz xs true, xs, w⟩ :: as) os := ⟨h.accs.consS ty sz xs w hw, h.nodup⟩

theorem AccG.push {lv : Nat} {L : List (Option AObj)} {as : List AccE} {os : List (Nat × AObj)} (h : AccG lv L as os) {j : Nat} {ty sz : Nat} {v : V} {xs : List V} {w : Bool} (hj : as[j]? = some ⟨ty, sz, v, xs, w⟩) (ys : List V) (hr : xs.length + ys.length ≤ roomB) (E : Nat → Nat → Option AObj) :
    ∃ v' L', appendTo ⟨lv, L, E⟩ ty sz v ys = some (v', ⟨lv, L', E⟩) ∧ AccG lv L' (as.set j ⟨ty, sz, v', xs ++ ys, w⟩) os := by
  obtain ⟨v', L', h1, h2⟩ := h.accs.push hj ys hr E
  exact ⟨v', L', h1, h2, h.nodup⟩

theorem AccG.shut {lv0 lv : Nat} {L : List (Option AObj)} {E : Nat → Nat → Option AObj} {as : List AccE} {os : List (Nat × AObj)} (h : AccG lv L as os) {j : Nat} {ty sz : Nat} {v : V} {xs : List V} {w : Bool} (hj : as[j]? = some ⟨ty, sz, v, xs, w⟩) (hk : V.kinL (outer lv0) xs) : VS ⟨lv, L, E⟩ (outer lv0) v (.sl sz xs false) :=
  h.accs.sealed hj fun x hx => by obtain ⟨i, hi⟩ := List.mem_iff_getElem?.1 hx; exact kinL_get hk i x hi

/-- what a slice that grows is as a value -/
theorem AccG.form {lv : Nat} {L : List (Option AObj)} {as : List AccE} {os : List (Nat × AObj)} (h : AccG lv L as os) {j : Nat} {ty sz : Nat} {v : V} {xs : List V} {w : Bool} (hj : as[j]? = some ⟨ty, sz, v, xs, w⟩) :
    (v = .nils ∧ xs = []) ∨ (v = .sl sz xs true ∧ (w = true → xs = [])) ∨ ∃ i ver cp, v = .hs lv i ver 0 xs.length false ∧ L[i]? = some (some (.arr ver ty sz xs cp)) := by
  obtain ⟨ks, h1, h2, h3, h4⟩ := h.accs
  have hjl := (List.getElem?_eq_some_iff.1 hj).1
  have hk : ks[j]? = some (ks[j]'(by omega)) := List.getElem?_eq_getElem _
  generalize ks[j]'(by omega) = k at hk
  have hA := h2 j k _ hk hj
  cases k with
  | none => rcases hA with hA | hA
            · exact .inl hA
            · exact .inr (.inl hA)
  | some n => obtain ⟨ver, cp, q1, q2⟩ := hA; exact .inr (.inr ⟨n, ver, cp, q1, q2⟩)

theorem AccG.len {P : Program} {lv : Nat} {L : List (Option AObj)} {as : List AccE} {os : List (Nat × AObj)} (h : AccG lv L as os) {j : Nat} {ty sz : Nat} {v : V} {xs : List V} {w : Bool} (hj : as[j]? = some ⟨ty, sz, v, xs, w⟩) {t e : Nat} (ht : P.underlying t = some (.slice e)) (E : Nat → Nat → Option AObj) :
    pLen P ⟨lv, L, E⟩ t v = some (.int .i64 xs.length) := by
  rcases h.form hj with ⟨rfl, rfl⟩ | ⟨rfl, hw⟩ | ⟨i, ver, cp, rfl, hL⟩
  · simp [pLen, ht]
  · simp [pLen, ht]
  · simp [pLen, ht, Heap.get, hL]

theorem AccG.whole {lv : Nat} {L : List (Option AObj)} {as : List AccE} {os : List (Nat × AObj)} (h : AccG lv L as os) {j : Nat} {ty sz : Nat} {v : V} {xs : List V} {w : Bool} (hj : as[j]? = some ⟨ty, sz, v, xs, w⟩) : v.solid = true ∧ v.cells = [v] ∧ v.leaf = true := by
  rcases h.form hj with ⟨rfl, rfl⟩ | ⟨rfl, hw⟩ | ⟨i, ver, cp, rfl, hL⟩
  · exact ⟨rfl, rfl, rfl⟩
  · exact ⟨rfl, rfl, rfl⟩
  · exact ⟨rfl, rfl, rfl⟩

/-- a place of a slice that grows -/
theorem AccG.at {P : Program} {lv : Nat} {L : List (Option AObj)} {as : List AccE} {os : List (Nat × AObj)} (h : AccG lv L as os) {j : Nat} {ty sz : Nat} {v : V} {xs : List V} {w : Bool} (hj : as[j]? = some ⟨ty, sz, v, xs, w⟩) {t e : Nat} (ht : P.underlying t = some (.slice e))
    (hz : sz = P.cellsOf e) (he : (P.underlying e).isSome = true) {i : Int} {x : V} (h0 : 0 ≤ i) (hx : xs[i.toNat]? = some x) (E : Nat → Nat → Option AObj) :
    ∃ q : Nat → V, pIndexAddr P ⟨lv, L, E⟩ t v (.int .i64 i) = some (q 0) ∧ (∀ s f o off, fieldOff P s f = some o → pFieldAddr P s f (q off) = some (q (off + o))) ∧ ∀ t' off, pLoad P ⟨lv, L, E⟩ t' (q off) = rd P t' x.cells off := by
  have hlt := (List.getElem?_eq_some_iff.1 hx).1
  rcases h.form hj with ⟨rfl, rfl⟩ | ⟨rfl, hw⟩ | ⟨k, ver, cp, rfl, hL⟩
  · simp at hx
  · exact ⟨fun o => .ref x.cells o, by simp [pIndexAddr, ht, h0, hz, he, hx], fun s f o off hf => by simp [pFieldAddr, hf], fun t' off => by simp [pLoad]⟩
  · refine ⟨fun o => .ap lv k ver i.toNat o, ?_, fun s f o off hf => by simp [pFieldAddr, hf], fun t' off => by simp [pLoad, aelem, Heap.get, hL, hx]⟩
    simp [pIndexAddr, ht, h0, hz, he, Heap.get, hL]; omega

/-- a place of a slice of ours: it can be written -/
theorem Accs.setAt {lv : Nat} {L : List (Option AObj)} {as : List AccE} {os : List (Nat × AObj)} (h : Accs lv L as os) {j n ver : Nat} {a : AccE} {cp : Option Nat} (hj : as[j]? = some a) (hv : a.v = .hs lv n ver 0 a.xs.length false) (hL : L[n]? = some (some (.arr ver a.ty a.sz a.xs cp))) (hn : a.xs ≠ []) {ys : List V} (hys : ys.length = a.xs.length) :
    Accs lv (L.set n (some (.arr ver a.ty a.sz ys cp))) (as.set j ⟨a.ty, a.sz, a.v, ys, a.w⟩) os := by
  obtain ⟨ks, h1, h2, h3, h4⟩ := h
  have hjl := (List.getElem?_eq_some_iff.1 hj).1
  have hnl := (List.getElem?_eq_some_iff.1 hL).1
  have hkj : ks[j]? = some (ks[j]'(by omega)) := List.getElem?_eq_getElem _
  generalize ks[j]'(by omega) = k at hkj
  have hk : ks[j]? = some (some n) := by
    have hA := h2 j k _ hkj hj
    cases k with
    | none => rcases hA with ⟨h, _⟩ | ⟨h, _⟩ <;> rw [hv] at h <;> cases h
    | some m =>
      obtain ⟨ver', cp', q1, _⟩ := hA
      rw [hv] at q1; injection q1 with _ q1; subst q1; exact hkj
  refine ⟨ks, by simp [h1], fun i k a' hki ha => ?_, h3, fun p hp => ⟨?_, (h4 p hp).2⟩⟩
  · by_cases he : i = j
    · subst he
      rw [List.getElem?_set_self (by omega)] at ha
      injection ha with ha; subst ha
      rw [hk] at hki; injection hki with hki; subst hki
      exact ⟨ver, cp, by rw [hv, hys], by rw [List.getElem?_set_self hnl]⟩
    · rw [List.getElem?_set_ne (Ne.symm he)] at ha
      have hA := h2 i k a' hki ha
      cases k with
      | none => exact hA
      | some m =>
        obtain ⟨ver', cp', q1, q2⟩ := hA
        have : m ≠ n := fun hh => he (h3 i j n (by rw [hki, hh]) hk)
        exact ⟨ver', cp', q1, by rw [List.getElem?_set_ne (Ne.symm this)]; exact q2⟩
  · have : p.1 ≠ n := fun he => (h4 p hp).2 j (by rw [hk, he])
    rw [List.getElem?_set_ne (Ne.symm this)]; exact (h4 p hp).1

theorem AccG.put {P : Program} {lv : Nat} {L : List (Option AObj)} {as : List AccE} {os : List (Nat × AObj)} (h : AccG lv L as os) {j : Nat} {ty sz : Nat} {v : V} {xs : List V} (hj : as[j]? = some ⟨ty, sz, v, xs, true⟩) {t e : Nat} (ht : P.underlying t = some (.slice e))
    (hz : sz = P.cellsOf e) (he : (P.underlying e).isSome = true) {i : Int} {x : V} (h0 : 0 ≤ i) (hx : xs[i.toNat]? = some x) (E : Nat → Nat → Option AObj) :
    ∃ q : Nat → V, pIndexAddr P ⟨lv, L, E⟩ t v (.int .i64 i) = some (q 0) ∧ (∀ s f o off, fieldOff P s f = some o → pFieldAddr P s f (q off) = some (q (off + o))) ∧ (∀ t' off, pLoad P ⟨lv, L, E⟩ t' (q off) = rd P t' x.cells off) ∧
      ∀ (t' off : Nat) (y : V), y.solid = true → (P.info? t').isSome = true → y.cells.length = P.cellsOf t' → off + y.cells.length ≤ x.cells.length → fits x (splice x.cells off y.cells) = true →
        ∃ L', hStore P ⟨lv, L, E⟩ t' (q off) y = some (.any, ⟨lv, L', E⟩) ∧ AccG lv L' (as.set j ⟨ty, sz, v, xs.set i.toNat (withCells x (splice x.cells off y.cells)), true⟩) os := by
  have hlt := (List.getElem?_eq_some_iff.1 hx).1
  have hne : xs ≠ [] := fun hh => by subst hh; simp at hx
  rcases h.form hj with ⟨rfl, rfl⟩ | ⟨rfl, hw⟩ | ⟨k, ver, cp, rfl, hL⟩
  · simp at hx
  · exact (hne (hw rfl)).elim
  · refine ⟨fun o => .ap lv k ver i.toNat o, ?_, fun s f o off hf => by simp [pFieldAddr, hf], fun t' off => by simp [pLoad, aelem, Heap.get, hL, hx], fun t' off y y1 y2 y3 y4 y5 => ?_⟩
    · simp [pIndexAddr, ht, h0, hz, he, Heap.get, hL]; omega
    · refine ⟨L.set k (some (.arr ver ty sz (xs.set i.toNat (withCells x (splice x.cells off y.cells))) cp)), ?_, h.accs.setAt hj rfl hL hne (by simp), h.nodup⟩
      simp [hStore, y1, y2, y3, Heap.get, hL, hx, Heap.set]
      rw [y3] at y4
      exact ⟨y4, y5⟩

/-- an array that a call hands over -/
theorem AccG.arr {lv : Nat} {L : List (Option AObj)} {as : List AccE} {os : List (Nat × AObj)} (h : AccG lv L as os) (ver ty sz : Nat) (xs : List V) (cp : Option Nat) (w : Bool) :
    AccG lv (L ++ [some (.arr ver ty sz xs cp)]) (⟨ty, sz, .hs lv L.length ver 0 xs.length false, xs, w⟩ :: as) os := by
  obtain ⟨⟨ks, h1, h2, h3, h4⟩, h5⟩ := h
  have low : ∀ (i n : Nat), ks[i]? = some (some n) → n < L.length := fun i n hi => by
    have hl := (List.getElem?_eq_some_iff.1 hi).1
    exact (h2 i _ (as[i]'(by omega)) hi (List.getElem?_eq_getElem _)).lt
  refine ⟨⟨some L.length :: ks, by simp [h1], fun i k a hk ha => ?_, fun i i' n hi hi' => ?_, fun p hp => ⟨?_, fun i hi => ?_⟩⟩, h5⟩
  · cases i with
    | zero => simp at hk ha; subst hk; subst ha; exact ⟨ver, cp, rfl, by simp⟩
    | succ i =>
      have hA := h2 i k a (by simpa using hk) (by simpa using ha)
      cases k with
      | none => exact hA
      | some n => obtain ⟨ver', cp', q1, q2⟩ := hA; exact ⟨ver', cp', q1, by rw [List.getElem?_append_left (List.getElem?_eq_some_iff.1 q2).1]; exact q2⟩
  · cases i with
    | zero => cases i' with
      | zero => rfl
      | succ i' => simp at hi; subst hi; have := low i' _ (by simpa using hi'); omega
    | succ i => cases i' with
      | zero => simp at hi'; subst hi'; have := low i _ (by simpa using hi); omega
      | succ i' => rw [h3 i i' n (by simpa using hi) (by simpa using hi')]
  · rw [List.getElem?_append_left (List.getElem?_eq_some_iff.1 (h4 p hp).1).1]; exact (h4 p hp).1
  · have hlt := (List.getElem?_eq_some_iff.1 (h4 p hp).1).1
    cases i with
    | zero => simp at hi; omega
    | succ i => exact (h4 p hp).2 i (by simpa using hi)

@[simp] theorem kinL_bool {D : Nat → Nat → Prop} (l : List Bool) : V.kinL D (l.map V.bool) ↔ True := iff_true_intro (kinL_map fun _ _ => by simp [V.kin])
@[simp] theorem kinL_int {D : Nat → Nat → Prop} (k : IntKind) (l : List Int) : V.kinL D (l.map (V.int k)) ↔ True := iff_true_intro (kinL_map fun _ _ => by simp [V.kin])

/-! ### the forms of values -/
@[simp] theorem vc_any  : V.cells V.any = [V.any] := rfl
@[simp] theorem vl_any  : V.leaf V.any = false := rfl
@[simp] theorem vso_any  : V.solid V.any = false := rfl
@[simp] theorem vc_bool (b : Bool) : V.cells (V.bool b) = [(V.bool b)] := rfl
@[simp] theorem vl_bool (b : Bool) : V.leaf (V.bool b) = true := rfl
@[simp] theorem vso_bool (b : Bool) : V.solid (V.bool b) = true := rfl
@[simp] theorem vc_int (k : IntKind) (n : Int) : V.cells (V.int k n) = [(V.int k n)] := rfl
@[simp] theorem vl_int (k : IntKind) (n : Int) : V.leaf (V.int k n) = true := rfl
@[simp] theorem vso_int (k : IntKind) (n : Int) : V.solid (V.int k n) = true := rfl
@[simp] theorem vc_str (s : List UInt8) : V.cells (V.str s) = [(V.str s)] := rfl
@[simp] theorem vl_str (s : List UInt8) : V.leaf (V.str s) = true := rfl
@[simp] theorem vso_str (s : List UInt8) : V.solid (V.str s) = true := rfl
@[simp] theorem vc_nilp  : V.cells V.nilp = [V.nilp] := rfl
@[simp] theorem vl_nilp  : V.leaf V.nilp = true := rfl
@[simp] theorem vso_nilp  : V.solid V.nilp = true := rfl
@[simp] theorem vc_ptr (l i o : Nat) : V.cells (V.ptr l i o) = [(V.ptr l i o)] := rfl
@[simp] theorem vl_ptr (l i o : Nat) : V.leaf (V.ptr l i o) = true := rfl
@[simp] theorem vso_ptr (l i o : Nat) : V.solid (V.ptr l i o) = true := rfl
@[simp] theorem vc_ref (cs : List V) (o : Nat) : V.cells (V.ref cs o) = [(V.ref cs o)] := rfl
@[simp] theorem vl_ref (cs : List V) (o : Nat) : V.leaf (V.ref cs o) = true := rfl
@[simp] theorem vso_ref (cs : List V) (o : Nat) : V.solid (V.ref cs o) = true := rfl
@[simp] theorem vc_ap (l i v x o : Nat) : V.cells (V.ap l i v x o) = [(V.ap l i v x o)] := rfl
@[simp] theorem vl_ap (l i v x o : Nat) : V.leaf (V.ap l i v x o) = true := rfl
@[simp] theorem vso_ap (l i v x o : Nat) : V.solid (V.ap l i v x o) = true := rfl
@[simp] theorem vc_nils  : V.cells V.nils = [V.nils] := rfl
@[simp] theorem vl_nils  : V.leaf V.nils = true := rfl
@[simp] theorem vso_nils  : V.solid V.nils = true := rfl
@[simp] theorem vc_sl (z : Nat) (xs : List V) (f : Bool) : V.cells (V.sl z xs f) = [(V.sl z xs f)] := rfl
@[simp] theorem vl_sl (z : Nat) (xs : List V) (f : Bool) : V.leaf (V.sl z xs f) = true := rfl
@[simp] theorem vso_sl (z : Nat) (xs : List V) (f : Bool) : V.solid (V.sl z xs f) = true := rfl
@[simp] theorem vc_hs (l i v o n : Nat) (f : Bool) : V.cells (V.hs l i v o n f) = [(V.hs l i v o n f)] := rfl
@[simp] theorem vl_hs (l i v o n : Nat) (f : Bool) : V.leaf (V.hs l i v o n f) = true := rfl
@[simp] theorem vso_hs (l i v o n : Nat) (f : Bool) : V.solid (V.hs l i v o n f) = true := rfl
@[simp] theorem vc_mapn  : V.cells V.mapn = [V.mapn] := rfl
@[simp] theorem vl_mapn  : V.leaf V.mapn = true := rfl
@[simp] theorem vso_mapn  : V.solid V.mapn = true := rfl
@[simp] theorem vc_map (l i : Nat) : V.cells (V.map l i) = [(V.map l i)] := rfl
@[simp] theorem vl_map (l i : Nat) : V.leaf (V.map l i) = true := rfl
@[simp] theorem vso_map (l i : Nat) : V.solid (V.map l i) = true := rfl
@[simp] theorem vc_fn (f : Nat) (a b : List V) : V.cells (V.fn f a b) = [(V.fn f a b)] := rfl
@[simp] theorem vl_fn (f : Nat) (a b : List V) : V.leaf (V.fn f a b) = true := rfl
@[simp] theorem vso_fn (f : Nat) (a b : List V) : V.solid (V.fn f a b) = true := rfl
@[simp] theorem vc_nilf  : V.cells V.nilf = [V.nilf] := rfl
@[simp] theorem vl_nilf  : V.leaf V.nilf = true := rfl
@[simp] theorem vso_nilf  : V.solid V.nilf = true := rfl
@[simp] theorem vc_iface (t : Nat) (v : V) : V.cells (V.iface t v) = [(V.iface t v)] := rfl
@[simp] theorem vl_iface (t : Nat) (v : V) : V.leaf (V.iface t v) = true := rfl
@[simp] theorem vso_iface (t : Nat) (v : V) : V.solid (V.iface t v) = true := rfl
@[simp] theorem vc_nili  : V.cells V.nili = [V.nili] := rfl
@[simp] theorem vl_nili  : V.leaf V.nili = true := rfl
@[simp] theorem vso_nili  : V.solid V.nili = true := rfl
@[simp] theorem vc_agg (cs : List V) : V.cells (V.agg cs) = cs := rfl
@[simp] theorem vl_agg (cs : List V) : V.leaf (V.agg cs) = false := rfl
@[simp] theorem vso_agg (cs : List V) : V.solid (V.agg cs) = true := rfl
@[simp] theorem vc_tup (vs : List V) : V.cells (V.tup vs) = [(V.tup vs)] := rfl
@[simp] theorem vl_tup (vs : List V) : V.leaf (V.tup vs) = false := rfl
@[simp] theorem vso_tup (vs : List V) : V.solid (V.tup vs) = false := rfl


section
variable {P : Program} {H : Heap}
@[simp] theorem pLoad_ref (t : Nat) (cs : List V) (o : Nat) : pLoad P H t (.ref cs o) = rd P t cs o := rfl
@[simp] theorem pLoad_ptr (t l i o : Nat) : pLoad P H t (.ptr l i o) = match H.get l i with | some (.cells cs) => rd P t cs o | _ => none := rfl
@[simp] theorem pLoad_ap (t l i v x o : Nat) : pLoad P H t (.ap l i v x o) = (aelem H l i v x).bind fun p => rd P t p.2 o := rfl
@[simp] theorem pFieldAddr_ref (s f : Nat) (cs : List V) (o : Nat) : pFieldAddr P s f (.ref cs o) = (fieldOff P s f).map fun k => .ref cs (o + k) := by unfold pFieldAddr; cases fieldOff P s f <;> rfl
@[simp] theorem pFieldAddr_ptr (s f l i o : Nat) : pFieldAddr P s f (.ptr l i o) = (fieldOff P s f).map fun k => .ptr l i (o + k) := by unfold pFieldAddr; cases fieldOff P s f <;> rfl
@[simp] theorem pFieldAddr_ap (s f l i v x o : Nat) : pFieldAddr P s f (.ap l i v x o) = (fieldOff P s f).map fun k => .ap l i v x (o + k) := by unfold pFieldAddr; cases fieldOff P s f <;> rfl
@[simp] theorem pLen_str (t : Nat) (s : List UInt8) : pLen P H t (.str s) = match P.underlying t with | some .string => some (.int .i64 s.length) | _ => none := rfl
@[simp] theorem pLen_nils (t : Nat) : pLen P H t .nils = match P.underlying t with | some (.slice _) => some (.int .i64 0) | _ => none := rfl
@[simp] theorem pLen_sl (t z : Nat) (xs : List V) (b : Bool) : pLen P H t (.sl z xs b) = match P.underlying t with | some (.slice _) => some (.int .i64 xs.length) | _ => none := rfl
@[simp] theorem pLen_mapn (t : Nat) : pLen P H t .mapn = match P.underlying t with | some (.map _ _) => some (.int .i64 0) | _ => none := rfl
@[simp] theorem pLen_agg (t : Nat) (cs : List V) : pLen P H t (.agg cs) = match P.underlying t with | some (.array n _) => some (.int .i64 n) | _ => none := rfl
@[simp] theorem pIndexAddr_sl (t z : Nat) (xs : List V) (b : Bool) (k : IntKind) (n : Int) : pIndexAddr P H t (.sl z xs b) (.int k n) = if 0 ≤ n then match P.underlying t with
    | some (.slice e) => if z = P.cellsOf e ∧ (P.underlying e).isSome then (xs[n.toNat]?).map fun y => .ref y.cells 0 else none
    | some (.array len e) => if n < len ∧ (P.underlying e).isSome then none else none
    | _ => none else none := by unfold pIndexAddr; rfl
@[simp] theorem pIndexAddr_ptr (t l i o : Nat) (k : IntKind) (n : Int) : pIndexAddr P H t (.ptr l i o) (.int k n) = if 0 ≤ n then match P.underlying t with
    | some (.slice e) => none
    | some (.array len e) => if n < len ∧ (P.underlying e).isSome then some (.ptr l i (o + n.toNat * P.cellsOf e)) else none
    | _ => none else none := by unfold pIndexAddr; rfl
end

/-! ### regions, some operations at a time -/
section
variable {P : Program}
/-- the operations from place k on -/
def SatO (P : Program) (ops : Array Oper) (k : Nat) (σ : St) (Q : AExit → St → Prop) : Prop :=
  ∀ W0 g0 H0 W a g, Base W0 g0 H0 → (σ.e0 = H0.E ∧ Step W0 g0 H0 W g σ.H) → GoodSt W a g σ → wpOps P ops (Lift W0 g0 H0 Q) (List.range' k (ops.size - k)) a W

theorem satO_nil {ops : Array Oper} {k : Nat} {σ : St} {Q : AExit → St → Prop} (hk : ops.size ≤ k) (h : Q .normal σ) : SatO P ops k σ Q := fun W0 g0 H0 W a g _ hS hG => by
  rw [show ops.size - k = 0 by omega]
  exact ⟨g, σ, .normal, .normal, hS, hG, h⟩

theorem satO_reg {id : Nat} {ops : Array Oper} {σ : St} {Q : AExit → St → Prop} (h : SatO P ops 0 σ Q) : Sat P (.region id ops false) σ Q := fun W0 g0 H0 W a g hB hS hG => by
  refine wp_region ?_
  rw [List.range_eq_range']
  have := h W0 g0 H0 W a g hB hS hG
  simpa using this

/-- the first operations of what is left -/
theorem satO_step {ops : Array Oper} {k : Nat} {σ : St} {Q : AExit → St → Prop} (n : Nat) (ans : List (V × Option Heap)) (σ1 : St) (cl : List Claim) (h : runC P ops ((ops.toList.drop k).take n) ans σ = some (σ1, [], cl)) (hc : ∀ c ∈ cl, c.ok P) (hk : SatO P ops (k + n) σ1 Q) : SatO P ops k σ Q := fun W0 g0 H0 W a g hB hS hG => by
  have hlen : ((ops.toList.drop k).take n).length = min n (ops.size - k) := by simp
  have hr : List.range' k (ops.size - k) = List.range' k ((ops.toList.drop k).take n).length ++ List.range' (k + n) (ops.size - (k + n)) := by
    rw [hlen]
    by_cases hn : n ≤ ops.size - k
    · rw [Nat.min_eq_left hn, show ops.size - k = n + (ops.size - (k + n)) by omega, ← List.range'_append]; simp
    · rw [Nat.min_eq_right (by omega), show ops.size - (k + n) = 0 by omega]; simp
  rw [hr]
  exact runC_more (P := P) _ ((ops.toList.drop k).take n) k ans [] σ σ1 cl W a g (fun j hj => by
    rw [List.getElem?_take, if_pos (by rw [hlen] at hj; omega)]; simp) h hc hG hS (fun W' a' g' s1 s2 => hk W0 g0 H0 W' a' g' hB s1 s2)

theorem satO_drw {id : Nat} {ops : Array Oper} {σ : St} {Q : AExit → St → Prop} (hm : P.follows .mixedOrders = true) (hB : Region.lexB .any ops = true) (ans : List V) (σ1 : St) (cl : List Claim) (h : runQ P ops ops.toList ans σ = some (σ1, [], cl)) (hc : ∀ c ∈ cl, c.ok P) (hQ : Q .normal σ1) :
    Sat P (.region id ops true) σ Q := sat_drw hm hB ans h hc hQ

theorem satO_drt {id : Nat} {ops : Array Oper} {σ : St} {Q : AExit → St → Prop} (n : Nat) (hm : P.follows .mixedOrders = true) (hB : Region.lexTailB .any ops n = true)
    (ans : List V) (σ1 : St) (cl : List Claim) (h : runQ P ops (ops.toList.take n) ans σ = some (σ1, [], cl)) (hc : ∀ c ∈ cl, c.ok P) (hk : SatO P ops n σ1 Q) : Sat P (.region id ops true) σ Q :=
  sat_draw_more n hm hB ans h hc hk

/-- ways that meet -/
theorem sat_mid {x y : Code} {σ : St} {Q : AExit → St → Prop} (I : St → Prop) (h1 : Sat P x σ (AExit.then (fun σ' => ∃ τ, Weak σ' τ ∧ I τ) Q)) (h2 : ∀ τ, I τ → Sat P y τ Q) : Sat P x σ (AExit.then (fun σ' => Sat P y σ' Q) Q) :=
  h1.mono fun e σ' hq => by
    cases e with
    | normal => obtain ⟨τ, w, i⟩ := hq; exact sat_weak w (h2 τ i)
    | exit id => exact hq
    | ret => exact hq
    | panic v => exact hq

theorem sat_meet {x : Code} {σ : St} {Q : AExit → St → Prop} (I : St → Prop) (h1 : Sat P x σ (AExit.then (fun σ' => ∃ τ, Weak σ' τ ∧ I τ) Q)) (h2 : ∀ σ' τ, Weak σ' τ → I τ → Q .normal σ') : Sat P x σ Q :=
  h1.mono fun e σ' hq => by
    cases e with
    | normal => obtain ⟨τ, w, i⟩ := hq; exact h2 σ' τ w i
    | exit id => exact hq
    | ret => exact hq
    | panic v => exact hq

/-- a function that only computes, but looks at outer objects -/
theorem hcall_pure {f : Nat} {fn : Func} {c : Code} {n : Nat} (hf : P.funcs[f]? = some fn) (hb : fn.body = some c) (hnt : fn.ntmps = n) (hent : ∀ args w, (callFunc f args).run P w = .ok (.enter f args) w) {args : List V} {r : V} {H : Heap}
    (h : ∀ lv E, lv = H.lv → E = H.get → Sat P c ⟨args ++ List.replicate (n - args.length) .any, ⟨lv + 1, [], E⟩, [], E⟩ (Ends P fn lv E r)) : HCall P f args H r H :=
  hcall_of_body hf hb hnt hent ((h H.lv H.get rfl rfl).mono fun e σ hq => by
    cases e with
    | normal => obtain ⟨v, h1, h2, h3, h4⟩ := hq; exact ⟨v, h1, h2, back_pure h3 h4⟩
    | ret => obtain ⟨v, h1, h2, h3, h4⟩ := hq; exact ⟨v, h1, h2, back_pure h3 h4⟩
    | exit id => exact hq
    | panic v => exact hq)

theorem hcall_le {f : Nat} {as bs : List V} {r : V} {H : Heap} (h : HCall P f bs H r H) (hl : VLeL as bs) : HCall P f as H r H := fun W g cargs hG hA =>
  h W g cargs hG ⟨hA.1.trans hl.length, fun j v hj => by
    have hlt : j < as.length := by rw [hl.length]; exact (List.getElem?_eq_some_iff.1 hj).1
    exact (hl.get j _ v (List.getElem?_eq_getElem hlt) hj).rel (hA.2 j _ (List.getElem?_eq_getElem hlt))⟩

/-- a call's arguments say less -/
theorem pcall_le {f : Nat} {as bs : List V} {r : V} (h : PCall P f bs r) (hl : VLeL as bs) : PCall P f as r := fun H W g cargs hG hA =>
  h H W g cargs hG ⟨hA.1.trans hl.length, fun j v hj => by
    have hlt : j < as.length := by rw [hl.length]; exact (List.getElem?_eq_some_iff.1 hj).1
    exact (hl.get j _ v (List.getElem?_eq_getElem hlt) hj).rel (hA.2 j _ (List.getElem?_eq_getElem hlt))⟩

/-! ### results -/
inductive VSL (H : Heap) (D : Nat → Nat → Prop) : List V → List V → Prop where
  | nil : VSL H D [] []
  | cons {v u : V} {vs us : List V} (h : VS H D v u) (r : VSL H D vs us) : VSL H D (v :: vs) (u :: us)
theorem VSL.length {H : Heap} {D : Nat → Nat → Prop} {vs us : List V} (h : VSL H D vs us) : vs.length = us.length := by induction h <;> simp_all
theorem VSL.get {H : Heap} {D : Nat → Nat → Prop} {vs us : List V} (h : VSL H D vs us) : ∀ (j : Nat) (v u : V), vs[j]? = some v → us[j]? = some u → VS H D v u := by
  induction h with
  | nil => intro j v u hj; simp at hj
  | cons h r ih =>
    intro j v u hj hk
    cases j with
    | zero => simp at hj hk; subst hj; subst hk; exact h
    | succ j => exact ih j v u (by simpa using hj) (by simpa using hk)
theorem VS.agg' {H : Heap} {D : Nat → Nat → Prop} {vs us : List V} (h : VSL H D vs us) : VS H D (.agg vs) (.agg us) := .agg _ _ h.length h.get
theorem VS.tup' {H : Heap} {D : Nat → Nat → Prop} {vs us : List V} (h : VSL H D vs us) : VS H D (.tup vs) (.tup us) := .tup _ _ h.length h.get
end
end Go.Ab
