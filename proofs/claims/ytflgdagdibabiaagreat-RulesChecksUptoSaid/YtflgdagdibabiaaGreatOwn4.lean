/-
  PROGRAMS: THE PROGRAM'S CHECK.
-/
import Derived.Test.YtflgdagdibabiaaGreatOwn3
namespace Go.Proofs.YtflgdagdibabiaaGreat
open Go Go.Ab
set_option linter.unusedVariables false
set_option linter.unusedSimpArgs false
section
variable {T : Type}
theorem zk7 (q : List UInt8 × T) (m : List (List UInt8 × T)) (k : List UInt8) : zby (q :: m) k = if k = q.1 then some q.2 else zby m k := by
 unfold zby
 rw [List.find?_cons]
 by_cases h : k = q.1
 ·simp [h]
 ·have : (k == q.1) = false := by simpa using h
  rw [this, if_neg h]
theorem yqm (q : List UInt8 × T) (m : List (List UInt8 × T)) (k : List UInt8) (x : T) : zdk (q :: m) k x = if k = q.1 then (k, x) :: m else q :: zdk m k x := by
 unfold zdk
 rw [List.findIdx?_cons]
 by_cases h : k = q.1
 ·simp [h]
 ·have : (k == q.1) = false := by simpa using h
  rw [this, if_neg h]
  simp only [Bool.false_eq_true, if_false]
  cases List.findIdx? (fun p => k == p.1) m <;> simp
theorem y61 (m : List (List UInt8 × T)) (k k' : List UInt8) (x : T) : zby (zdk m k x) k' = if k' = k then some x else zby m k' := by
 induction m with
 | nil => show zby [(k, x)] k' = _; rw [zk7]
 | cons q m ih =>
   rw [yqm]
   by_cases h : k = q.1
   · rw [if_pos h, zk7, zk7]
     by_cases h2 : k' = k
     · simp [h2]
     · rw [if_neg h2, if_neg h2, if_neg (fun z => h2 (z.trans h.symm))]
   · rw [if_neg h, zk7, ih, zk7]
     by_cases h2 : k' = q.1
     · rw [if_pos h2, if_pos h2, if_neg (fun z => h (z.symm.trans h2))]
     · rw [if_neg h2, if_neg h2]
theorem ydv {m : List (List UInt8 × T)} {k : List UInt8} : zby m k = none ↔ k ∉ mks m := by
 induction m with
 | nil => simp [zby, mks]
 | cons q m ih =>
   rw [zk7]
   show _ ↔ k ∉ q.1 :: mks m
   by_cases h : k = q.1
   · simp [h]
   · rw [if_neg h, ih]; simp [h]
end
theorem yoi {T : Type} : ∀ {es : List (List UInt8 × T)} {i : Nat} (h : i < es.length) (s : List UInt8), s ∈ mks es ↔ s = es[i].1 ∨ s ∈ mks (es.eraseIdx i)
 | [], _, h, _ => by cases h
 | q :: es, 0, _, s => by show s ∈ q.1 :: mks es ↔ _; rw [List.mem_cons]; exact Iff.rfl
 | q :: es, i + 1, h, s => by
   show s ∈ q.1 :: mks es ↔ s = (es[i]'(by simpa using h)).1 ∨ s ∈ q.1 :: mks (es.eraseIdx i)
   rw [List.mem_cons, List.mem_cons, yoi (es := es) (i := i) (by simpa using h) s]
   exact or_left_comm
def TM (m : List (List UInt8 × Bool)) (K : List (List UInt8)) : Prop := ∀ k, zby m k = if k ∈ K then some true else none
theorem TM.mk {m : List (List UInt8 × Bool)} {K : List (List UInt8)} (h : TM m K) : MK m K := fun k => by
 rw [h k]; by_cases q : k ∈ K <;> simp [q]
theorem TM.nil : TM [] [] := fun k => by simp [zby]
theorem TM.put {m : List (List UInt8 × Bool)} {K : List (List UInt8)} (h : TM m K) (s : List UInt8) : TM (zdk m s true) (K ++ [s]) := fun k => by
 rw [y61, h k]
 by_cases q : k = s <;> simp [q]
theorem TM.keys {m : List (List UInt8 × Bool)} {K : List (List UInt8)} (h : TM m K) (s : List UInt8) : s ∈ mks m ↔ s ∈ K := by
 have := h s
 by_cases q : s ∈ K
 ·rw [if_pos q] at this
  exact ⟨fun _ => q, fun _ => Classical.byContradiction fun z => by rw [ydv.2 z] at this; cases this⟩
 ·rw [if_neg q] at this
  exact ⟨fun z => (ydv.1 this z).elim, fun z => (q z).elim⟩
theorem MK.put {m : List (List UInt8 × Bool)} {K : List (List UInt8)} (h : MK m K) (s : List UInt8) : MK (zdk m s true) (K ++ [s]) := fun k => by
 rw [y61]
 by_cases q : k = s
 ·simp [q]
 ·rw [if_neg q, h k]; simp [q]
theorem MK.ext {m : List (List UInt8 × Bool)} {K J : List (List UInt8)} (h : MK m K) (e : ∀ s, s ∈ K ↔ s ∈ J) : MK m J := fun k => by rw [h k]; exact decide_eq_decide.2 (e k)
def RM (m : List (List UInt8 × Int)) (K : List (List UInt8)) : Prop := ∀ k, zby m k = if k ∈ K then some (atI K k) else none
theorem RM.nil : RM [] [] := fun k => by simp [zby]
theorem yt5 {K : List (List UInt8)} {s : List UInt8} (h : s ∉ K) (k : List UInt8) : atI (K ++ [s]) k = if k = s then (K.length : Int) else atI K k := by
 induction K with
 | nil => show atI [s] k = _; rw [zku]; by_cases q : s = k
          · simp [q]
          · rw [if_neg q, if_neg (Ne.symm q)]; simp [atI]
 | cons x K ih =>
   have hx : x ≠ s := fun e => h (by rw [e]; exact List.mem_cons_self)
   have := ih fun z => h (List.mem_cons_of_mem _ z)
   rw [List.cons_append, zku, zku, this]
   by_cases q : k = s
   · subst q; rw [if_neg hx, if_pos rfl, if_pos rfl, if_neg (by omega)]; simp
   · simp only [if_neg q]
theorem RM.put {m : List (List UInt8 × Int)} {K : List (List UInt8)} (h : RM m K) {s : List UInt8} (hs : s ∉ K) : RM (zdk m s (K.length : Int)) (K ++ [s]) := fun k => by
 rw [y61, h k, yt5 hs]
 by_cases q : k = s
 ·simp [q]
 ·simp [q]
theorem Ev.pick {α R : Type} {es : List (List UInt8 × α)} {f : Nat → List UInt8 → α → List (List UInt8 × α) → Option R} {g : Nat → Option R} {r : R}
  (h0 : es = [] → Ev g r) (h1 : ∀ i (h : i < es.length), Ev (fun n => f n es[i].1 es[i].2 (es.eraseIdx i)) r) : Ev (fun n => y0f es (f n) (g n)) r := by
 have hz : ∃ N, ∀ m, N ≤ m → (es = [] → g m = some r) := by
  by_cases he : es = []
  ·obtain ⟨N, hN⟩ := h0 he; exact ⟨N, fun m hm _ => hN m hm⟩
  ·exact ⟨0, fun _ _ h => (he h).elim⟩
 have hb : ∀ k, k ≤ es.length → ∃ N, ∀ m, N ≤ m → ∀ i (h : i < es.length), i < k → f m es[i].1 es[i].2 (es.eraseIdx i) = some r := fun k => by
  induction k with
  | zero => intro _; exact ⟨0, fun _ _ _ _ h => by omega⟩
  | succ k ih =>
    intro hk
    obtain ⟨N, hN⟩ := ih (by omega)
    obtain ⟨M, hM⟩ := h1 k (by omega)
    refine ⟨max N M, fun m hm i hi hik => ?_⟩
    by_cases h : i = k
    · subst h; exact hM m (by omega)
    · exact hN m (by omega) i hi (by omega)
 obtain ⟨N, hN⟩ := hz
 obtain ⟨M, hM⟩ := hb es.length (Nat.le_refl _)
 refine ⟨max N M, fun m hm => ys4 (hN m (by omega)) fun i p hp => ?_⟩
 obtain ⟨hi, rfl⟩ := List.getElem?_eq_some_iff.1 hp
 exact hM m (by omega) i hi hi
theorem yrh {γ : Type} {L : Nat → Int → Option γ} {len : Nat} {p : Nat → Bool} {got r : γ} {b : Bool} (hb : b = true ↔ ∃ j, j < len ∧ p j = true)
  (he : Ev (fun n => L n (len : Int)) r)
  (hs : ∀ k (h : k < len) v, Ev (fun n => L n ((k + 1 : Nat) : Int)) v → Ev (fun n => L n (k : Int)) (if p k = true then got else v)) : Ev (fun n => L n 0) (if b = true then got else r) := by
 have : ∀ k, k ≤ len → ∀ b : Bool, (b = true ↔ ∃ j, k ≤ j ∧ j < len ∧ p j = true) → Ev (fun n => L n (k : Int)) (if b = true then got else r) :=
  down (fun b hb => by rw [if_neg fun h => by obtain ⟨j, h1, h2, _⟩ := hb.1 h; omega]; exact he) fun k hk ih b hb => by
   cases h : p k with
   | true =>
     rw [if_pos (hb.2 ⟨k, Nat.le_refl _, hk, h⟩)]
     have := hs k hk _ (ih (@decide _ (Classical.propDecidable _)) (@decide_eq_true_iff _ (Classical.propDecidable _)))
     rwa [if_pos h] at this
   | false =>
     have hb' : b = true ↔ ∃ j, k + 1 ≤ j ∧ j < len ∧ p j = true := by
       rw [hb]
       constructor
       · rintro ⟨j, h1, h2, h3⟩
         refine ⟨j, ?_, h2, h3⟩
         rcases Nat.lt_or_ge k j with q | q
         · exact q
         · have e : j = k := by omega
           subst e; rw [h] at h3; cases h3
       · rintro ⟨j, h1, h2⟩
         exact ⟨j, by omega, h2⟩
     have := hs k hk _ (ih b hb')
     rwa [if_neg (by simp [h])] at this
 have := this 0 (Nat.zero_le _) b (by rw [hb]; exact ⟨fun ⟨j, h⟩ => ⟨j, Nat.zero_le _, h⟩, fun ⟨j, _, h⟩ => ⟨j, h⟩⟩)
 simpa using this
noncomputable def yp3 (p : yz0) (r : kz4) (k : Nat) : Bool := if h : k < r.params.length then decide (r.params[k] ∈ kzq p) || decide (atI r.params r.params[k] < (k : Int)) else false
noncomputable def yq6 (p : yz0) (r : kz4) : Bool := dup (r.params ++ kzq p)
theorem ysh {p : yz0} {r : kz4} (ha : (kzq p).Nodup) : yq6 p r = true ↔ ∃ j, j < r.params.length ∧ yp3 p r j = true := by
 unfold yq6
 rw [ylk, List.nodup_append]
 constructor
 ·intro h
  by_cases hp : r.params.Nodup
  ·have : ¬ ∀ a ∈ r.params, ∀ b ∈ kzq p, a ≠ b := fun z => h ⟨hp, ha, z⟩
   simp only [Classical.not_forall, Classical.not_not] at this
   obtain ⟨a, h1, b, h2, h3⟩ := this
   obtain ⟨j, hj, e⟩ := List.mem_iff_getElem.1 h1
   refine ⟨j, hj, ?_⟩
   unfold yp3
   rw [dif_pos hj, e, h3, decide_eq_true h2]; rfl
  ·obtain ⟨k, hk, h⟩ := ylu.2 hp
   refine ⟨k, hk, ?_⟩
   unfold yp3
   rw [dif_pos hk, decide_eq_true h, Bool.or_true]
 ·rintro ⟨j, hj, h⟩ ⟨h1, _, h3⟩
  unfold yp3 at h
  rw [dif_pos hj, Bool.or_eq_true] at h
  rcases h with h | h
  ·exact h3 _ (List.getElem_mem hj) _ (of_decide_eq_true h) rfl
  ·exact (ylu.1 ⟨j, hj, of_decide_eq_true h⟩) h1
theorem y6j {l : List (List UInt8)} {k : Nat} (h : l.Nodup) : (l.take k).Nodup := h.sublist (List.take_sublist k l)
theorem ynp {p : yz0} (hw : p.wf) (hs : p.size ≤ 4000000) {m : List (List UInt8 × Bool)} {m2 : List (List UInt8 × Int)} (hm : TM m (kzq p)) (hm2 : RM m2 (yz8 p)) (u : Bool) :
  Ev (fun n => z22 n false 0 u (mks m) (mvs m) p.rules (p.rules.length : Int) p (mks m2) (mvs m2)) (if (u || !p.rules.all (kR p)) = true then 6 else if y5c p = true then 2 else 0) := by
 have := @zqk p
 have := @zi5 p
 have hr : (yz8 p).length = p.rules.length := by simp [yz8]
 have main : ∀ k, k ≤ p.rules.length → ∀ w u : Bool, Ev (fun n => z22 n w (k : Int) u (mks m) (mvs m) p.rules (p.rules.length : Int) p (mks m2) (mvs m2)) (if (u || !(p.rules.drop k).all (kR p)) = true then 6 else if (w || (p.rules.drop k).any (zjc p)) = true then 2 else 0) :=
  down (fun w u => by
   rw [zna, Ev.zz2 (by simp), List.drop_length, Ev.pif, Ev.pif, Ev.zz0, Ev.zz0, Ev.zz0]
   cases u <;> cases w <;> simp) fun k hk ih w u => by
   have hmem := List.getElem_mem hk
   have := zis hmem
   have hwr := yrx hw hmem
   have := @zr6 p.rules[k]
   have hcl := zai p.rules[k]
   have hxl := y7f p.rules[k]
   have l9 : ∀ u : Bool, Ev (fun n => z43 n w u (mks m) (mvs m) p.rules (p.rules.length : Int) (k : Int) p (mks m2) (mvs m2) p.rules[k]) (if ((u || !(zz6 p.rules[k]).all fun c => decide (c.1 ∈ yz8 p)) || !(p.rules.drop (k + 1)).all (kR p)) = true then 6 else if ((w || zjc p p.rules[k]) || (p.rules.drop (k + 1)).any (zjc p)) = true then 2 else 0) := fun u => by
    have hT : ((zz6 p.rules[k]).map toT).length = (zz6 p.rules[k]).length := by simp
    rw [zwv, Ev.kz0 (zs0 (by omega)), yz9, yz9]
    have loop : ∀ j, j ≤ (zz6 p.rules[k]).length → ∀ w u : Bool, Ev (fun n => z3o n (j : Int) w u ((zz6 p.rules[k]).map toT) (mks m) (mvs m) p.rules (p.rules.length : Int) (k : Int) (((zz6 p.rules[k]).map toT).length : Int) p (mks m2) (mvs m2)) (if ((u || !((zz6 p.rules[k]).drop j).all fun c => decide (c.1 ∈ yz8 p)) || !(p.rules.drop (k + 1)).all (kR p)) = true then 6 else if ((w || ((zz6 p.rules[k]).drop j).any fun c => decide (c.1 ∈ yz8 p) && (c.2 != yp8 p c.1)) || (p.rules.drop (k + 1)).any (zjc p)) = true then 2 else 0) :=
     down (fun w u => by
      rw [zlr, Ev.zz2 (by simp), wrk (by omega), yz9, yz9, List.drop_length]
      simpa using ih w u) fun j hj ihj w u => by
      have hj' : j < ((zz6 p.rules[k]).map toT).length := by simpa using hj
      have l11 : ∀ w u : Bool, Ev (fun n => z1l n w u ((zz6 p.rules[k]).map toT) (mks m) (mvs m) p.rules (p.rules.length : Int) (k : Int) (((zz6 p.rules[k]).map toT).length : Int) (j : Int) p (mks m2) (mvs m2)) _ := fun w u => by
       rw [zv6, wrk (by omega), yz9, yz9]; exact ihj w u
      have hget := hm2 (zz6 p.rules[k])[j].1
      have l10 : ∀ u : Bool, Ev (fun n => z2q n u ((zz6 p.rules[k]).map toT) (mks m) (mvs m) p.rules (p.rules.length : Int) (k : Int) (((zz6 p.rules[k]).map toT).length : Int) (j : Int) (Option.getD (zby m2 (zz6 p.rules[k])[j].1) 0) (Option.isSome (zby m2 (zz6 p.rules[k])[j].1)) w p (mks m2) (mvs m2) (toT (zz6 p.rules[k])[j])) (if ((u || !((zz6 p.rules[k]).drop (j + 1)).all fun c => decide (c.1 ∈ yz8 p)) || !(p.rules.drop (k + 1)).all (kR p)) = true then 6 else if (((w || (decide ((zz6 p.rules[k])[j].1 ∈ yz8 p) && ((zz6 p.rules[k])[j].2 != yp8 p (zz6 p.rules[k])[j].1))) || ((zz6 p.rules[k]).drop (j + 1)).any fun c => decide (c.1 ∈ yz8 p) && (c.2 != yp8 p c.1)) || (p.rules.drop (k + 1)).any (zjc p)) = true then 2 else 0) := fun u => by
       rw [zuh, yz9, yz9]
       cases w with
       | true => rw [Ev.kz1 rfl, Bool.true_or]; exact l11 true u
       | false =>
         rw [Ev.zz2 rfl, Bool.false_or]
         by_cases hin : (zz6 p.rules[k])[j].1 ∈ yz8 p
         · obtain ⟨i, hi, h1, h2, h3⟩ := zpx hin
           rw [hget, if_pos hin, decide_eq_true hin, Bool.true_and, h3, h1]
           show Ev (fun n => pIf true ((ix p.rules (i : Int)).bind _) _) _
           rw [Ev.kz1 rfl, Ev.kz2 (kz5 hi)]
           exact l11 _ u
         · rw [hget, if_neg hin, decide_eq_false hin, Bool.false_and]
           show Ev (fun n => pIf false _ _) _
           rw [Ev.zz2 rfl]; exact l11 false u
      rw [zlr, Ev.kz1 (by simpa using hj), Ev.kz2 (kz5 hj'), List.getElem_map, yz9, yz9, ← List.getElem_cons_drop (h := hj), List.all_cons, List.any_cons]
      cases u with
      | true => rw [Ev.kz1 rfl]; exact (l10 true).to (by simp)
      | false =>
        rw [Ev.zz2 rfl]
        have e : Option.isSome (zby m2 (toT (zz6 p.rules[k])[j]).name) = decide ((zz6 p.rules[k])[j].1 ∈ yz8 p) := by
          show Option.isSome (zby m2 (zz6 p.rules[k])[j].1) = _
          rw [hget]; by_cases q : (zz6 p.rules[k])[j].1 ∈ yz8 p <;> simp [q]
        have := l10 (!decide ((zz6 p.rules[k])[j].1 ∈ yz8 p))
        have e2 : Option.isSome (zby m2 (zz6 p.rules[k])[j].1) = decide ((zz6 p.rules[k])[j].1 ∈ yz8 p) := e
        rw [e2] at this
        rw [Bool.false_or, e]
        exact this.to (by rw [Bool.not_and, Bool.or_assoc w])
    have := loop 0 (Nat.zero_le _) w u
    rw [List.drop_zero] at this
    exact this
   have l7 : ∀ d, MK d ([[115, 120], [115, 121], [115, 122]] ++ kzq p) → Ev (fun n => z2b n 0 p.rules[k].params w (mks m) (mvs m) p.rules (p.rules.length : Int) (k : Int) u (p.rules[k].params.length : Int) p (mks m2) (mvs m2) p.rules[k] (mks d) (mvs d)) (if ((u || !kR p p.rules[k]) || !(p.rules.drop (k + 1)).all (kR p)) = true then 6 else if ((w || zjc p p.rules[k]) || (p.rules.drop (k + 1)).any (zjc p)) = true then 2 else 0) := fun d hd => by
    have loop : ∀ j, j ≤ p.rules[k].params.length → ∀ d, MK d (([[115, 120], [115, 121], [115, 122]] ++ kzq p) ++ p.rules[k].params.take j) → Ev (fun n => z2b n (j : Int) p.rules[k].params w (mks m) (mvs m) p.rules (p.rules.length : Int) (k : Int) u (p.rules[k].params.length : Int) p (mks m2) (mvs m2) p.rules[k] (mks d) (mvs d)) (if ((u || !kR p p.rules[k]) || !(p.rules.drop (k + 1)).all (kR p)) = true then 6 else if ((w || zjc p p.rules[k]) || (p.rules.drop (k + 1)).any (zjc p)) = true then 2 else 0) :=
     down (fun d hd => by
      rw [List.take_length] at hd
      rw [zmn, Ev.zz2 (by simp), yz9, yz9, yz9]
      cases u with
      | true => rw [Ev.kz1 rfl]; have := l9 true; simpa using this
      | false =>
        rw [Ev.zz2 rfl, Ev.kz0 (ylj (by omega)), Ev.kz0 (y47 (K := scope p p.rules[k]) hd (fun e he => (y5f he).2 hwr) (fun e he => by have := (y5f he).1; omega) (by omega))]
        have := l9 (!(zrt p.rules[k]).all (within (scope p p.rules[k])))
        rw [← Bool.not_and] at this
        rw [Bool.false_or, kR]
        exact this) fun j hj ihj d hd => by
      rw [zmn, Ev.kz1 (by simpa using hj), Ev.kz2 (kz5 hj), wrk (by omega), yz9, yz9, yz9]
      refine ihj _ ((hd.put p.rules[k].params[j]).ext fun s => ?_)
      rw [List.append_assoc, za6 hj]
    exact loop 0 (Nat.zero_le _) d (by simpa using hd)
   have l6 : ∀ len, ∀ es : List (List UInt8 × Bool), es.length = len → ∀ d D, MK d D → (∀ s, (s ∈ D ∨ s ∈ mks es) ↔ s ∈ [[115, 120], [115, 121], [115, 122]] ++ kzq p) → Ev (fun n => z4i n w (mks m) (mvs m) p.rules (p.rules.length : Int) (k : Int) u (mks es) (mvs es) p (mks m2) (mvs m2) p.rules[k] (mks d) (mvs d)) (if ((u || !kR p p.rules[k]) || !(p.rules.drop (k + 1)).all (kR p)) = true then 6 else if ((w || zjc p p.rules[k]) || (p.rules.drop (k + 1)).any (zjc p)) = true then 2 else 0) := fun len => by
    induction len with
    | zero =>
      intro es he d D hd hD
      have he := List.length_eq_zero_iff.1 he
      subst he
      rw [zmw]
      refine Ev.pick (fun _ => ?_) fun i hi => by cases hi
      rw [yz9, yz9, yz9]
      exact l7 d (hd.ext fun s => by rw [← hD s]; simp [mks])
    | succ len ihl =>
      intro es he d D hd hD
      rw [zmw, yz9, yz9, yz9, yz9]
      refine Ev.pick (fun h => by rw [h] at he; cases he) fun i hi => ?_
      refine ihl (es.eraseIdx i) (by rw [List.length_eraseIdx_of_lt hi]; omega) _ _ (hd.put es[i].1) fun s => ?_
      rw [← hD s, List.mem_append, List.mem_singleton]
      rw [yoi hi s, or_assoc]
   rw [zna, Ev.kz1 (by simpa using hk), Ev.kz2 (kz5 hk), yz9, yz9, ← List.getElem_cons_drop (h := hk), List.all_cons, List.any_cons, Bool.not_and, ← Bool.or_assoc, ← Bool.or_assoc]
   refine l6 m.length m rfl _ [[115, 120], [115, 121], [115, 122]] ?_ fun s => ?_
   ·have h0 : MK [] [] := fun k => by simp [zby]
    exact ((h0.put _).put _).put _
   ·rw [hm.keys, List.mem_append]
 have := main 0 (Nat.zero_le _) false u
 rw [List.drop_zero, Bool.false_or] at this
 exact this
end Go.Proofs.YtflgdagdibabiaaGreat


namespace Go.Proofs.YtflgdagdibabiaaGreat
open Go Go.Ab
set_option linter.unusedVariables false
set_option linter.unusedSimpArgs false
theorem zrk {p : yz0} (hw : p.wf) (hs : p.size ≤ 4000000) : Ev (fun n => z6t n p) (z6w p) := by
 have := @zqk p
 have := @zi5 p
 have hal : (kzq p).length = p.attrs.length := by simp [kzq]
 have hrl : (yz8 p).length = p.rules.length := by simp [yz8]
 have l2 : ∀ (m : List (List UInt8 × Bool)) (u : Bool), TM m (kzq p) → (kzq p).Nodup → ∀ k, k ≤ p.rules.length → ∀ m2, RM m2 ((yz8 p).take k) → ((yz8 p).take k).Nodup → Ev (fun n => z3z n (k : Int) p.rules u (p.rules.length : Int) (mks m) (mvs m) (mks m2) (mvs m2) p) (if (dup (yz8 p) || (p.rules.drop k).any (yq6 p)) = true then 14 else if (u || !p.rules.all (kR p)) = true then 6 else if y5c p = true then 2 else 0) := fun m u hm hn =>
  down (fun m2 hm2 hn2 => by
   rw [← hrl, List.take_length] at hm2 hn2
   rw [zmh, Ev.zz2 (by simp), yz9, yz9, List.drop_length, ys0.2 hn2]
   exact ynp hw hs hm hm2 u) fun k hk ih m2 hm2 hn2 => by
   have hmem := List.getElem_mem hk
   have := zis hmem
   have := @zr6 p.rules[k]
   have hget := hm2 p.rules[k].name
   rw [zmh, Ev.kz1 (by simpa using hk), Ev.kz2 (kz5 hk), yz9, yz9]
   by_cases hin : p.rules[k].name ∈ (yz8 p).take k
   ·rw [hget, if_pos hin, Ev.kz1 (by rfl), Ev.zz0]
    have : dup (yz8 p) = true := by
     rw [ylk]; intro hd
     have h := y6j (k := k + 1) hd
     rw [zr0 hk, List.nodup_append] at h
     exact h.2.2 _ hin _ (List.mem_singleton.2 rfl) rfl
    rw [this]; rfl
   ·rw [hget, if_neg hin, Ev.zz2 (by rfl)]
    have hlen : ((yz8 p).take k).length = k := by rw [List.length_take]; omega
    have hput := hm2.put hin
    rw [hlen, ← zr0 hk] at hput
    have hnn : ((yz8 p).take (k + 1)).Nodup := by
     rw [zr0 hk, List.nodup_append]
     exact ⟨hn2, by simp, fun a ha b hb e => hin (by rw [← List.mem_singleton.1 hb, ← e]; exact ha)⟩
    have hv := ih _ hput hnn
    have l3 := yrh (L := fun n j => z48 n j p.rules[k].params p.rules u (p.rules.length : Int) (k : Int) (p.rules[k].params.length : Int) p.rules[k] (mks m) (mvs m) (mks (zdk m2 p.rules[k].name (k : Int))) (mvs (zdk m2 p.rules[k].name (k : Int))) p) (len := p.rules[k].params.length) (p := yp3 p p.rules[k]) (got := 14) (ysh (r := p.rules[k]) hn) (by
      rw [zm0, Ev.zz2 (by simp), wrk (by omega), yz9, yz9]; exact hv) fun j hj w hw' => by
      have l4 : ∀ b : Bool, Ev (fun n => z4g n p.rules[k].params p.rules u (p.rules.length : Int) (k : Int) (p.rules[k].params.length : Int) (j : Int) b p.rules[k] (mks m) (mvs m) (mks (zdk m2 p.rules[k].name (k : Int))) (mvs (zdk m2 p.rules[k].name (k : Int))) p) (if b = true then 14 else w) := fun b => by
       cases b
       ·rw [zmg, Ev.zz2 (by rfl), wrk (by omega), yz9, yz9]; exact hw'
       ·rw [zmg, Ev.kz1 (by rfl), Ev.zz0]; rfl
      rw [zm0, Ev.kz1 (by simpa using hj), Ev.kz2 (kz5 hj), yz9, yz9, hm.mk, yp3, dif_pos hj]
      by_cases h : p.rules[k].params[j] ∈ kzq p
      ·rw [decide_eq_true h, Ev.kz1 rfl]; exact l4 true
      ·rw [decide_eq_false h, Ev.zz2 rfl, Ev.kz0 (yqa (by omega))]; exact l4 _
    refine l3.to ?_
    rw [← List.getElem_cons_drop (h := hk), List.any_cons]
    cases yq6 p p.rules[k] <;> cases dup (yz8 p) <;> rfl
 have l0 : ∀ k, k ≤ p.attrs.length → ∀ (u : Bool) (m : List (List UInt8 × Bool)), TM m ((kzq p).take k) → ((kzq p).take k).Nodup → Ev (fun n => z4x n (k : Int) u p.attrs (p.attrs.length : Int) (mks m) (mvs m) (mks ([] : List (List UInt8 × Int))) (mvs ([] : List (List UInt8 × Int))) p) (if dup (kzq p) = true then 14 else if (dup (yz8 p) || p.rules.any (yq6 p)) = true then 14 else if ((u || !kA ((kzq p).take k) (p.attrs.drop k)) || !p.rules.all (kR p)) = true then 6 else if y5c p = true then 2 else 0) :=
  down (fun u m hm hn => by
   rw [← hal, List.take_length] at hm hn
   rw [zmz, Ev.zz2 (by simp), yz9, yz9, List.drop_length, ys0.2 hn, kA, if_neg (by simp)]
   have := l2 m u hm hn 0 (Nat.zero_le _) [] (by rw [List.take_zero]; exact RM.nil) (by rw [List.take_zero]; exact List.nodup_nil)
   rw [List.drop_zero] at this
   simpa using this) fun k hk ih u m hm hn => by
   have hmem := List.getElem_mem hk
   have := y6e hmem
   have := @y31 p.attrs[k]
   have l1 : ∀ u : Bool, Ev (fun n => z4f n u p.attrs (p.attrs.length : Int) (k : Int) (mks m) (mvs m) (mks ([] : List (List UInt8 × Int))) (mvs ([] : List (List UInt8 × Int))) p p.attrs[k]) (if dup (kzq p) = true then 14 else if (dup (yz8 p) || p.rules.any (yq6 p)) = true then 14 else if ((u || !kA ((kzq p).take (k + 1)) (p.attrs.drop (k + 1))) || !p.rules.all (kR p)) = true then 6 else if y5c p = true then 2 else 0) := fun u => by
    rw [zvz, yz9, yz9, hm p.attrs[k].name]
    by_cases hin : p.attrs[k].name ∈ (kzq p).take k
    ·rw [if_pos hin]
     show Ev (fun n => pIf true _ _) _
     rw [Ev.kz1 rfl, Ev.zz0]
     have : dup (kzq p) = true := by
      rw [ylk]; intro hd
      have h := y6j (k := k + 1) hd
      rw [zit hk, List.nodup_append] at h
      exact h.2.2 _ hin _ (List.mem_singleton.2 rfl) rfl
     rw [this]; rfl
    ·rw [if_neg hin]
     show Ev (fun n => pIf false _ _) _
     rw [Ev.zz2 rfl, wrk (by omega)]
     refine ih u _ ?_ ?_
     ·rw [zit hk]; exact hm.put _
     ·rw [zit hk, List.nodup_append]
      exact ⟨hn, by simp, fun a ha b hb e => hin (by rw [← List.mem_singleton.1 hb, ← e]; exact ha)⟩
   rw [zmz, Ev.kz1 (by simpa using hk), Ev.kz2 (kz5 hk), yz9, yz9, kz9.yz4, zz1.yz4, ← List.getElem_cons_drop (h := hk), kA, ← zit hk]
   cases u with
   | true => rw [Ev.kz1 rfl]; exact (l1 true).to (by simp)
   | false =>
     rw [Ev.zz2 rfl, Ev.kz0 (y72 hm.mk (yu9 hw hmem) (by omega)), yz9]
     exact (l1 _).to (by rw [Bool.false_or, Bool.not_and])
 have h0 := l0 0 (Nat.zero_le _) false [] (by rw [List.take_zero]; exact TM.nil) (by rw [List.take_zero]; exact List.nodup_nil)
 rw [y3g, Ev.kz0 (yn4 (by omega)), z6w]
 cases y06 p
 case true => rw [Ev.kz1 (by rfl), Ev.zz0]; rfl
 rw [Ev.zz2 (by rfl), Ev.kz0 (yem hw (by omega)), if_neg (by simp)]
 cases zfp p
 case false => rw [Ev.kz1 (by rfl), Ev.zz0]; rfl
 rw [Ev.zz2 (by rfl), if_pos rfl]
 refine Ev.to h0 ?_
 rw [List.take_zero, List.drop_zero, ynn, zxk]
 show (if dup (kzq p) = true then _ else if (dup (yz8 p) || p.rules.any fun r => dup (r.params ++ kzq p)) = true then _ else _) = _
 cases dup (kzq p) <;> cases (dup (yz8 p) || p.rules.any fun r => dup (r.params ++ kzq p)) <;> cases kA [] p.attrs <;> cases p.rules.all (kR p) <;> rfl
def zl6 (l acc : List (List UInt8)) : List (List UInt8) := l.foldl ins acc
theorem ynw {l : List (List UInt8)} : ∀ {acc : List (List UInt8)} {x : List UInt8}, x ∈ zl6 l acc ↔ x ∈ acc ∨ x ∈ l := by
 induction l with
 | nil => intro acc x; simp [zl6]
 | cons y l ih =>
   intro acc x
   show x ∈ zl6 l (ins acc y) ↔ _
   rw [ih, zmj, List.mem_cons, or_assoc]
theorem ya9 {l : List (List UInt8)} : ∀ {acc : List (List UInt8)}, z6y acc → z6y (zl6 l acc) := by
 induction l with
 | nil => intro acc h; exact h
 | cons y l ih => intro acc h; exact ih (zia h)
theorem ze4 {l : List (List UInt8)} (h : z6y l) : l.Nodup := by
 refine List.Pairwise.imp (fun {a b} hab e => ?_) h
 subst e; rw [zo7] at hab; cases hab
theorem y60 {l : List (List UInt8)} (h : l.Pairwise fun x y => Op.bytesLess y x = false) : z6y (Lib.compact l) ∧ ∀ x, x ∈ Lib.compact l ↔ x ∈ l := by
 have hd : ∀ j (hj : j < l.length), l.toArray[j]! = l[j] := fun j hj => by simp [hj]
 have main : ∀ m, m ≤ l.length → z6y (Lib.compactUpTo l.toArray m) ∧ ∀ x, x ∈ Lib.compactUpTo l.toArray m ↔ x ∈ l.take m := fun m => by
  induction m with
  | zero => intro _; simp [Lib.compactUpTo, z6y]
  | succ m ih =>
    intro hm
    obtain ⟨h1, h2⟩ := ih (by omega)
    have hlt : m < l.length := by omega
    rw [Lib.compactUpTo_succ, hd m hlt, ← za6 hlt]
    have hlt' : ∀ x, x ∈ l.take m → Op.bytesLess l[m] x = false := fun x hx => by
      rw [← List.take_append_drop m l] at h
      have := (List.pairwise_append.1 h).2.2 x hx l[m] (by rw [← List.getElem_cons_drop (h := hlt)]; exact List.mem_cons_self)
      exact this
    by_cases hk : Lib.keeps l.toArray m = true
    · rw [if_pos hk]
      refine ⟨?_, fun x => by rw [List.mem_append, List.mem_append, h2]⟩
      unfold z6y
      rw [List.pairwise_append]
      refine ⟨h1, by simp, fun x hx y hy => ?_⟩
      rw [List.mem_singleton.1 hy]
      have hx := (h2 x).1 hx
      cases hb : Op.bytesLess x l[m]
      · have e := zpg hb (hlt' x hx)
        exfalso
        have hm0 : 0 < m := by
          rcases Nat.eq_zero_or_pos m with q | q
          · subst q; simp at hx
          · exact q
        have hp : l[m - 1] ∈ l.take m := List.mem_take_iff_getElem.2 ⟨m - 1, by omega, rfl⟩
        have e1 : l[m - 1] = l[m] := by
          have a1 := hlt' _ hp
          refine zpg ?_ a1
          obtain ⟨i, hi, rfl⟩ := List.mem_take_iff_getElem.1 hx
          have a2 : i = m - 1 ∨ Op.bytesLess l[m - 1] l[i] = false := by
            rcases Nat.lt_or_ge i (m - 1) with q | q
            · exact .inr (List.pairwise_iff_getElem.1 h i (m - 1) (by omega) (by omega) q)
            · exact .inl (by omega)
          rcases a2 with a2 | a2
          · subst a2; exact hb
          · rw [e] at a2; exact a2
        have : Lib.keeps l.toArray m = false := Lib.keeps_neg hm0 (by rw [hd m hlt, hd (m - 1) (by omega), e1])
        rw [this] at hk; cases hk
      · rfl
    · rw [if_neg hk, List.append_nil]
      refine ⟨h1, fun x => ?_⟩
      rw [h2, List.mem_append, List.mem_singleton]
      refine ⟨.inl, fun q => q.elim id fun q => ?_⟩
      subst q
      have hm0 : 0 < m := by
        rcases Nat.eq_zero_or_pos m with q | q
        · subst q; exact (hk (Lib.keeps_lt_one _ 0 (by omega))).elim
        · exact q
      have e : l.toArray[m]! = l.toArray[m - 1]! := Classical.byContradiction fun z => hk (Lib.keeps_pos z)
      rw [hd m hlt, hd (m - 1) (by omega)] at e
      rw [e]
      exact List.mem_take_iff_getElem.2 ⟨m - 1, by omega, rfl⟩
 have := main l.length (Nat.le_refl _)
 rw [List.take_length] at this
 exact this
theorem yph (l : List (List UInt8)) : (z2f l).Pairwise fun x y => Op.bytesLess y x = false := by
 have hp : (z2f l).Pairwise fun x y => decide (x ≤ y) = true := List.pairwise_mergeSort (fun a b c h1 h2 => by
  rw [y0h, Bool.not_eq_true'] at *
  exact yd4 h2 h1) (fun a b => by
  rw [y0h, y0h]
  cases h : Op.bytesLess b a
  ·rfl
  ·rw [y5y h]; rfl) l
 refine List.Pairwise.imp (fun {x y} h => ?_) hp
 rw [y0h, Bool.not_eq_true'] at h; exact h
theorem yfp (l : List (List UInt8)) : zqg (z2f l) = zl6 l [] := by
 obtain ⟨h1, h2⟩ := y60 (yph l)
 refine zim h1 (ya9 (by simp [z6y])) fun x => ?_
 rw [h2, ynw, (zdt l).mem_iff]; simp
theorem zvx {s : List UInt8} {acc : List (List UInt8)} (hb : acc.length ≤ 8000000) : Ev (fun n => z57 n s acc) (ins acc s) := by
 have hil := zmp s acc
 have fin : ∀ k, k ≤ acc.length → acc.takeWhile (fun x => Op.bytesLess x s) = acc.take k → acc.dropWhile (fun x => Op.bytesLess x s) = acc.drop k → Ev (fun n => z2s n s (k : Int) false acc) (ins acc s) := fun k hk ht hd => by
  have hins := ymk s acc
  rw [ht, hd] at hins
  have put : ins acc s = acc.take k ++ s :: acc.drop k → Ev (fun n => z2t n s (k : Int) false acc) (ins acc s) := fun hi => by
   obtain ⟨s1, s2⟩ := yd2 hk s
   have hx : ext acc [[]] = some (acc ++ [[]]) := z7b (by simp; omega)
   have hc1 : zwt (acc ++ [[]]) ((k + 1 : Nat) : Int) = some () := by unfold zwt; rw [if_pos (by simp; omega)]
   have hc2 : zwt (acc ++ [[]]) (k : Int) = some () := by unfold zwt; rw [if_pos (by simp; omega)]
   have hg : ix (acc.take k ++ [(acc ++ [[]])[k]'(by simp; omega)] ++ acc.drop k) (k : Int) = some ((acc ++ [[]])[k]'(by simp; omega)) := by
    rw [ylx, List.append_assoc, List.getElem?_append_right (by simp; omega)]
    simp [Nat.min_eq_left hk]
   rw [zlk, Ev.zz2 (by rfl), Ev.kz2 hx, wrk (by omega), Ev.kz2 hc1, Ev.kz2 hc2, Ev.kz2 s1, Ev.kz2 hg, Int.toNat_natCast, s2, ← hi, Ev.zz0]
  rw [zl7, Ev.zz2 (by rfl)]
  by_cases he : k = acc.length
  ·rw [Ev.zz2 (by simp; omega)]
   exact put (by rw [hins, if_neg (by rw [List.drop_of_length_le (by omega)]; simp)])
  ·have hlt : k < acc.length := by omega
   rw [Ev.kz1 (by simp; omega), Ev.kz2 (kz5 hlt)]
   have hhead : (acc.drop k).head? = some acc[k] := by rw [← List.getElem_cons_drop (h := hlt)]; rfl
   by_cases heq : acc[k] = s
   ·rw [show (acc[k] == s) = true by simpa using heq, zlk, Ev.kz1 (by rfl), Ev.zz0]
    rw [hins, if_pos (by rw [hhead, heq])]
   ·rw [show (acc[k] == s) = false by simpa using heq]
    exact put (by rw [hins, if_neg (by rw [hhead]; simpa using heq)])
 have place : ∀ k, k ≤ acc.length → (acc.take k).all (fun x => Op.bytesLess x s) = true → Ev (fun n => z1k n (k : Int) s acc) (ins acc s) :=
  down (Q := fun k => (acc.take k).all (fun x => Op.bytesLess x s) = true → Ev (fun n => z1k n (k : Int) s acc) (ins acc s)) (fun hall => by
   rw [List.take_length] at hall
   rw [List.all_eq_true] at hall
   rw [zka, Ev.zz2 (by simp)]
   refine fin _ (Nat.le_refl _) ?_ ?_
   ·rw [List.take_length]; exact (y75 hall).1
   ·rw [List.drop_length]; exact (y75 hall).2) fun k hk ihk hall => by
   have hsplit : acc = acc.take k ++ acc.drop k := (List.take_append_drop k acc).symm
   rw [zka, Ev.kz1 (by simpa using hk), Ev.kz2 (kz5 hk)]
   cases hb : Op.bytesLess acc[k] s
   ·rw [List.all_eq_true] at hall
    refine fin k (by omega) ?_ ?_
    ·conv => lhs; rw [hsplit]
     rw [List.takeWhile_append_of_pos hall, ← List.getElem_cons_drop (h := hk), List.takeWhile_cons_of_neg (by simp [hb]), List.append_nil]
    ·conv => lhs; rw [hsplit]
     rw [List.dropWhile_append_of_pos hall, ← List.getElem_cons_drop (h := hk), List.dropWhile_cons_of_neg (by simp [hb])]
   ·rw [zl7, Ev.kz1 (by rfl), wrk (by omega)]
    refine ihk ?_
    rw [← za6 hk, List.all_append, hall]; simp [hb]
 rw [y28]
 exact place 0 (Nat.zero_le _) (by simp)
theorem yry {α σ : Type} {L : Nat → Int → Option (Int × σ)} {xs : List α} {f : α → List UInt8} {s : List UInt8} {st : σ} (he : Ev (fun n => L n (xs.length : Int)) (-1, st))
  (hs : ∀ k (h : k < xs.length) v, (f xs[k] = s → Ev (fun n => L n (k : Int)) ((k : Int), st)) ∧ (f xs[k] ≠ s → Ev (fun n => L n ((k + 1 : Nat) : Int)) v → Ev (fun n => L n (k : Int)) v)) : Ev (fun n => L n 0) (atI (xs.map f) s, st) := by
 have : ∀ k, k ≤ xs.length → Ev (fun n => L n (k : Int)) (if atI ((xs.drop k).map f) s = -1 then -1 else atI ((xs.drop k).map f) s + k, st) :=
  down (by rw [List.drop_length]; exact he) fun k hk ih => by
   obtain ⟨h1, h2⟩ := hs k hk (if atI ((xs.drop (k + 1)).map f) s = -1 then -1 else atI ((xs.drop (k + 1)).map f) s + ((k + 1 : Nat) : Int), st)
   rw [← List.getElem_cons_drop (h := hk), List.map_cons, zku]
   by_cases q : f xs[k] = s
   ·rw [if_pos q]; refine (h1 q).to ?_; simp
   ·rw [if_neg q]
    refine (h2 q ih).to ?_
    have h0 := @yst ((xs.drop (k + 1)).map f) s
    by_cases z : atI ((xs.drop (k + 1)).map f) s = -1
    ·rw [if_pos z, if_pos z, if_pos rfl]
    ·rw [if_neg z, if_neg z, if_neg (by omega)]
     have : atI ((xs.drop (k + 1)).map f) s + ((k + 1 : Nat) : Int) = atI ((xs.drop (k + 1)).map f) s + 1 + (k : Int) := by omega
     rw [this]
 have := this 0 (Nat.zero_le _)
 rw [List.drop_zero] at this
 refine Ev.to this ?_
 split
 ·rename_i h; rw [h]
 ·simp
theorem y32 {p : yz0} {s : List UInt8} (hs : p.size ≤ 4000000) : Ev (fun n => zbn n p s) (atI (yz8 p) s) := by
 have := @zi5 p
 have h : Ev (fun n => yzk n p.rules s) (atI (yz8 p) s, s) := by
  rw [ze7]
  refine yry (L := fun n k => zze n k p.rules (p.rules.length : Int) s) (xs := p.rules) (f := (·.name)) (by rw [z13, Ev.zz2 (by simp), Ev.zz0]) fun k hk v => ?_
  have hf : Ev (fun n => zcj n p.rules[k] s) (p.rules[k].name == s, s) := by rw [yar, Ev.zz0]
  constructor
  ·intro q
   rw [z13, Ev.kz1 (by simpa using hk), Ev.kz2 (kz5 hk), Ev.kz0 hf, Ev.kz1 (by simpa using q), Ev.zz0]
  ·intro q hv
   rw [z13, Ev.kz1 (by simpa using hk), Ev.kz2 (kz5 hk), Ev.kz0 hf, Ev.zz2 (by simpa using q), wrk (by omega)]
   exact hv
 rw [yiq, Ev.kz0 h, Ev.zz0]
end Go.Proofs.YtflgdagdibabiaaGreat


namespace Go.Proofs.YtflgdagdibabiaaGreat
open Go Go.Ab
set_option linter.unusedVariables false
set_option linter.unusedSimpArgs false
def z3h (r : kz4) : List (List UInt8) := (zz6 r).map (·.1)
def nx (p : yz0) (s : List UInt8) : List (List UInt8) := match p.rules[(atI (yz8 p) s).toNat]? with
 | some r => z3h r
 | none => []
theorem zwi {p : yz0} (h : z6w p = 0) : zfp p = true ∧ (yz8 p).Nodup ∧ (∀ r ∈ p.rules, ∀ c ∈ z3h r, c ∈ yz8 p) := by
 unfold z6w at h
 by_cases h1 : y06 p = true
 ·rw [if_pos h1] at h; cases h
 rw [if_neg h1] at h
 by_cases h2 : zfp p = true
 case neg => rw [if_neg h2] at h; cases h
 rw [if_pos h2] at h
 by_cases h3 : ynn p = true
 ·rw [if_pos h3] at h; cases h
 rw [if_neg h3] at h
 by_cases h4 : zxk p = true
 case neg => rw [if_neg h4] at h; cases h
 refine ⟨h2, ?_, fun r hr c hc => ?_⟩
 ·unfold ynn at h3
  simp only [Bool.or_eq_true, not_or] at h3
  exact ys0.1 (by simpa using h3.2.1)
 ·have h5 := List.all_eq_true.1 (Bool.and_eq_true_iff.1 h4).2 r hr
  obtain ⟨q, hq, rfl⟩ := List.mem_map.1 hc
  exact of_decide_eq_true (List.all_eq_true.1 (Bool.and_eq_true_iff.1 h5).2 q hq)
theorem ytt {p : yz0} (hn : (yz8 p).Nodup) {r : kz4} (hr : r ∈ p.rules) : nx p r.name = z3h r := by
 obtain ⟨j, hj, e⟩ := List.mem_iff_getElem.1 hr
 have hj' : j < (yz8 p).length := by simpa [yz8] using hj
 have hx : (yz8 p)[j] = r.name := by simp [yz8, e]
 obtain ⟨i, hi, h1, h2, _⟩ := zvq (l := yz8 p) (s := r.name) (by rw [← hx]; exact List.getElem_mem hj')
 have hij : i = j := (List.getElem_inj hn).1 (by rw [h2, hx])
 unfold nx
 rw [h1, Int.toNat_natCast, hij, List.getElem?_eq_getElem hj, e]
inductive Rch (p : yz0) (root : List UInt8) : List UInt8 → Prop
 | refl : Rch p root root
 | step {x y : List UInt8} : Rch p root x → y ∈ nx p x → Rch p root y
theorem znj {p : yz0} {root : List UInt8} (hc : ∀ r ∈ p.rules, ∀ c ∈ z3h r, c ∈ yz8 p) (hr : root ∈ yz8 p) {x : List UInt8} (h : Rch p root x) : x ∈ yz8 p := by
 induction h with
 | refl => exact hr
 | step _ hy _ =>
   unfold nx at hy
   split at hy
   · rename_i r hr; exact hc r (List.mem_of_getElem? hr) _ hy
   · cases hy
theorem yhx {p : yz0} {root : List UInt8} {l : List (List UInt8)} (h0 : root ∈ l) (hc : ∀ x ∈ l, ∀ y ∈ nx p x, y ∈ l) {x : List UInt8} (h : Rch p root x) : x ∈ l := by
 induction h with
 | refl => exact h0
 | step _ hy ih => exact hc _ ih _ hy
theorem zju {l m : List (List UInt8)} (hn : l.Nodup) (h : ∀ x ∈ l, x ∈ m) : l.length ≤ m.length := hn.length_le_of_subset h
noncomputable def zxq (p : yz0) (s : List UInt8) : List (List UInt8) × Int := if z6w p ≠ 0 then ([], z6w p) else if s ∈ yz8 p then (zl6 (nx p s) [], 0) else ([], 6)
theorem yl2 {p : yz0} {s : List UInt8} {i : Nat} (hi : i < p.rules.length) (h : atI (yz8 p) s = (i : Int)) : nx p s = z3h p.rules[i] := by
 unfold nx; rw [h, Int.toNat_natCast, List.getElem?_eq_getElem hi]
theorem yif {l : List (List UInt8)} (h : l.length ≤ 8000000) : Ev (fun n => kzp n l) (z2f l) := Ev.pure (by show (if l.length < 4611686018427387904 then _ else _) = _; rw [if_pos (by omega)])
theorem ynt {l : List (List UInt8)} (h : l.length ≤ 8000000) : Ev (fun n => z5a n l) (zqg l) := Ev.pure (by show (if l.length ≤ 9223372036854775807 then _ else _) = _; rw [if_pos (by omega)])
theorem yq1 (l : List (List UInt8)) : (z2f l).length = l.length := (zdt l).length_eq
theorem yjy {p : yz0} {s : List UInt8} (hw : p.wf) (hs : p.size ≤ 4000000) : Ev (fun n => zb3 n p s) (zxq p s) := by
 rw [y3f, Ev.kz0 (zrk hw hs), zxq]
 by_cases hc : z6w p = 0
 case neg => rw [Ev.kz1 (by simpa using hc), Ev.zz0, if_pos hc]
 rw [Ev.zz2 (by simpa using hc), Ev.kz0 (y32 hs), if_neg (by simp [hc])]
 by_cases hin : s ∈ yz8 p
 case neg => rw [Ev.kz1 (decide_eq_true (zam.2 hin)), Ev.zz0, if_neg hin]
 obtain ⟨i, hi, h1, h2, h3⟩ := zpx hin
 have := zis (List.getElem_mem hi)
 have hcl := zai p.rules[i]
 rw [Ev.zz2 (decide_eq_false fun q => zam.1 q hin), if_pos hin, h1, Ev.kz2 (kz5 hi), Ev.kz0 (zs0 (by omega)), yl2 hi h1]
 have hml : ((zz6 p.rules[i]).map toT).length = (zz6 p.rules[i]).length := by simp
 refine zvw (L := fun n k s => z4k n k ((zz6 p.rules[i]).map toT) (((zz6 p.rules[i]).map toT).length : Int) s) (xs := (zz6 p.rules[i]).map toT) (f := fun s x => s ++ [x.name]) (I := fun k s => s.length = k) rfl (fun hI => ?_) fun k hk s hI => ⟨by simp [hI], fun h => ?_⟩
 ·have hl : ((zz6 p.rules[i]).map toT).foldl (fun s x => s ++ [x.name]) [] = z3h p.rules[i] := by
   rw [zuf, List.nil_append, List.map_map]; rfl
  rw [hl] at hI ⊢
  rw [zn9, Ev.zz2 (by simp), Ev.kz0 (yif (by omega)), Ev.kz0 (ynt (by rw [yq1]; omega)), Ev.zz0, yfp]
 ·rw [zn9, Ev.kz1 (by simpa using hk), Ev.kz2 (kz5 hk), Ev.kz2 (z7b (by simp only [List.length_cons, List.length_nil]; omega)), wrk (by omega)]; exact h
theorem yut (l acc : List (List UInt8)) : (zl6 l acc).length ≤ acc.length + l.length := by
 induction l generalizing acc with
 | nil => simp [zl6]
 | cons x l ih =>
   have h1 := ih (ins acc x)
   have h2 := zmp x acc
   show (zl6 l (ins acc x)).length ≤ _
   rw [List.length_cons]; omega
theorem yj1 {p : yz0} {s : List UInt8} (hw : p.wf) (hs : p.size ≤ 4000000) : Ev (fun n => zb7 n p s) (zxq p s) := by
 have := @zi5 p
 have hrl : (yz8 p).length = p.rules.length := by simp [yz8]
 rw [y35, Ev.kz0 (zj8 hw hs), zxq]
 by_cases hc : z6w p = 0
 case neg => rw [Ev.kz1 (by simpa using hc), Ev.kz0 (zj8 hw hs), Ev.zz0, if_pos hc]
 rw [Ev.zz2 (by simpa using hc), Ev.kz0 (zj3 (by omega)), Ev.kz0 (zo3 (by omega)), if_neg (by simp [hc])]
 by_cases hin : s ∈ yz8 p
 case neg => rw [Ev.kz1 (decide_eq_true (zam.2 hin)), Ev.zz0, if_neg hin]
 obtain ⟨i, hi, h1, h2, h3⟩ := zpx hin
 have hmem := List.getElem_mem hi
 have := zis hmem
 have hcl := zai p.rules[i]
 obtain ⟨hf, _, _⟩ := zwi hc
 rw [Ev.zz2 (decide_eq_false fun q => zam.1 q hin), if_pos hin, h1, Ev.kz2 (kz5 hi), Ev.kz0 (zq1 (by omega) fun c hc a ha => zw6 (zwy hf _ hmem c hc a ha)), yl2 hi h1]
 have hml : ((zz6 p.rules[i]).map toG).length = (zz6 p.rules[i]).length := by simp
 refine zvw (L := fun n k s => z4c n k ((zz6 p.rules[i]).map toG) s) (xs := (zz6 p.rules[i]).map toG) (f := fun s x => ins s x.name) (I := fun k s => s.length ≤ k) (Nat.le_refl _) (fun hI => ?_) fun k hk s hI => ⟨by have := zmp ((zz6 p.rules[i]).map toG)[k].name s; omega, fun h => ?_⟩
 ·rw [zn2, Ev.zz2 (by simp), Ev.zz0]
  have hl : ((zz6 p.rules[i]).map toG).foldl (fun s x => ins s x.name) [] = zl6 (z3h p.rules[i]) [] := by
   rw [zl6, z3h, List.foldl_map, List.foldl_map]; rfl
  rw [hl]
 ·rw [zn2, Ev.kz1 (by simpa using hk), Ev.kz2 (kz5 hk), Ev.kz0 (zvx (by omega)), wrk (by omega)]; exact h
def Set (p : yz0) (root : List UInt8) (r : List (List UInt8) × Int) : Prop := r.2 = 0 ∧ z6y r.1 ∧ ∀ x, x ∈ r.1 ↔ Rch p root x
theorem ytf {p : yz0} {root : List UInt8} {a b : List (List UInt8) × Int} (ha : Set p root a) (hb : Set p root b) : a = b := by
 obtain ⟨a1, a2⟩ := a
 obtain ⟨b1, b2⟩ := b
 have h1 : a1 = b1 := zim ha.2.1 hb.2.1 fun x => by rw [ha.2.2, hb.2.2]
 have h2 : a2 = b2 := by have := ha.1; have := hb.1; simp only at *; omega
 rw [h1, h2]
theorem yl8 {p : yz0} {root : List UInt8} (hw : p.wf) (hs : p.size ≤ 4000000) : ∃ r, Ev (fun n => zba n p root) r ∧ (if z6w p ≠ 0 then r = ([], z6w p) else if root ∈ yz8 p then Set p root r else r = ([], 6)) := by
 have hpl := @zi5 p
 have hrl : (yz8 p).length = p.rules.length := by simp [yz8]
 simp only [y5t, Ev.kz0 (zrk hw hs)]
 by_cases hc : z6w p = 0
 case neg => exact ⟨([], z6w p), by rw [Ev.kz1 (by simpa using hc), Ev.zz0], by rw [if_pos hc]⟩
 obtain ⟨hf, hnd, hcn⟩ := zwi hc
 simp only [if_neg (show ¬ z6w p ≠ 0 by simp [hc]), Ev.zz2 (show (z6w p != 0) = false by simpa using hc), Ev.kz0 (y32 hs)]
 by_cases hin : root ∈ yz8 p
 case neg => exact ⟨([], 6), by rw [Ev.kz1 (decide_eq_true (zam.2 hin)), Ev.zz0], by rw [if_neg hin]⟩
 simp only [if_pos hin, Ev.zz2 (show decide (atI (yz8 p) root < 0) = false from decide_eq_false fun q => zam.1 q hin)]
 have main : ∀ d i (out : List (List UInt8)) m, (yz8 p).length - i = d → i ≤ out.length → out.Nodup → TM m out → root ∈ out → (∀ x ∈ out, Rch p root x) → (∀ j x, j < i → out[j]? = some x → ∀ y ∈ nx p x, y ∈ out) → ∃ r, Ev (fun n => z3q n (i : Int) out (mks m) (mvs m) p) r ∧ Set p root r := fun d => by
  induction d with
  | zero =>
    intro i out m hd hi hn hm h0 hr hcl
    have hsub := zju hn fun x hx => znj hcn hin (hr x hx)
    have hil : i = out.length := by omega
    refine ⟨(z2f out, 0), ?_, rfl, zpz hn, fun x => ?_⟩
    · rw [zh5, Ev.zz2 (by simp; omega), Ev.kz0 (yif (by omega)), Ev.zz0]
    · rw [(zdt out).mem_iff]
      refine ⟨hr x, yhx h0 fun x hx y hy => ?_⟩
      obtain ⟨j, hj, e⟩ := List.mem_iff_getElem.1 hx
      exact hcl j x (by omega) (by rw [List.getElem?_eq_getElem hj, e]) y hy
  | succ d ih =>
    intro i out m hd hi hn hm h0 hr hcl
    have hsub := zju hn fun x hx => znj hcn hin (hr x hx)
    by_cases hil : i = out.length
    · refine ⟨(z2f out, 0), ?_, rfl, zpz hn, fun x => ?_⟩
      · rw [zh5, Ev.zz2 (by simp; omega), Ev.kz0 (yif (by omega)), Ev.zz0]
      · rw [(zdt out).mem_iff]
        refine ⟨hr x, yhx h0 fun x hx y hy => ?_⟩
        obtain ⟨j, hj, e⟩ := List.mem_iff_getElem.1 hx
        exact hcl j x (by omega) (by rw [List.getElem?_eq_getElem hj, e]) y hy
    have hlt : i < out.length := by omega
    have hrx := hr _ (List.getElem_mem hlt)
    obtain ⟨a, ha, h1, h2, h3⟩ := zpx (znj hcn hin hrx)
    have := zis (List.getElem_mem ha)
    have hca := zai p.rules[a]
    have hnx := yl2 ha h1
    have hml : ((zz6 p.rules[a]).map toT).length = (zz6 p.rules[a]).length := by simp
    have inner : ∀ j, j ≤ (zz6 p.rules[a]).length → ∀ (o : List (List UInt8)) m, o.Nodup → TM m o → out <+: o → (∀ x ∈ o, Rch p root x) → (∀ y ∈ (z3h p.rules[a]).take j, y ∈ o) → ∃ r, Ev (fun n => z41 n (j : Int) ((zz6 p.rules[a]).map toT) (i : Int) (((zz6 p.rules[a]).map toT).length : Int) o (mks m) (mvs m) p) r ∧ Set p root r :=
      down (fun o m hn hm hpre hr hall => by
        have hsub' := zju hn fun x hx => znj hcn hin (hr x hx)
        have hol := hpre.length_le
        have e : (z3h p.rules[a]).length = (zz6 p.rules[a]).length := by simp [z3h]
        rw [← e, List.take_length] at hall
        obtain ⟨r, hr1, hr2⟩ := ih (i + 1) o m (by omega) (by omega) hn hm (hpre.subset h0) hr fun j x hj hx y hy => by
          obtain ⟨t, rfl⟩ := hpre
          rw [List.getElem?_append_left (by omega)] at hx
          by_cases q : j < i
          · exact List.mem_append_left _ (hcl j x q hx y hy)
          · have : j = i := by omega
            subst this
            rw [List.getElem?_eq_getElem hlt] at hx
            injection hx with hx
            rw [← hx, hnx] at hy
            exact hall y hy
        exact ⟨r, by rw [zh2, Ev.zz2 (by simp), wrk (by omega), yz9]; exact hr1, hr2⟩) fun j hj ihj o m hn hm hpre hr hall => by
        have hsub' := zju hn fun x hx => znj hcn hin (hr x hx)
        have hj' : j < ((zz6 p.rules[a]).map toT).length := by simpa using hj
        have hjc : j < (z3h p.rules[a]).length := by simpa [z3h] using hj
        have hcj : (z3h p.rules[a])[j] = (zz6 p.rules[a])[j].1 := by simp [z3h]
        have htk : (z3h p.rules[a]).take (j + 1) = (z3h p.rules[a]).take j ++ [(zz6 p.rules[a])[j].1] := by rw [← hcj, za6 hjc]
        have hmj := hm.mk (zz6 p.rules[a])[j].1
        by_cases q : (zz6 p.rules[a])[j].1 ∈ o
        · obtain ⟨r, hr1, hr2⟩ := ihj o m hn hm hpre hr fun y hy => by
            rw [htk, List.mem_append, List.mem_singleton] at hy
            rcases hy with hy | hy
            · exact hall y hy
            · rw [hy]; exact q
          refine ⟨r, ?_, hr2⟩
          rw [zh2, Ev.kz1 (by simpa using hj), Ev.kz2 (kz5 hj'), List.getElem_map, yz9]
          show Ev (fun n => pIf (!Option.getD (zby m (zz6 p.rules[a])[j].1) false) _ _) _
          rw [hmj, decide_eq_true q, Ev.zz2 (by rfl), zn1, wrk (by omega), yz9]; exact hr1
        · have hrc : Rch p root (zz6 p.rules[a])[j].1 := .step hrx (by rw [hnx, ← hcj]; exact List.getElem_mem hjc)
          obtain ⟨r, hr1, hr2⟩ := ihj (o ++ [(zz6 p.rules[a])[j].1]) _ (by
            rw [List.nodup_append]
            exact ⟨hn, by simp, fun x hx y hy e => q (by rw [← List.mem_singleton.1 hy, ← e]; exact hx)⟩) (hm.put _) (hpre.trans (List.prefix_append _ _)) (fun x hx => by
            rcases List.mem_append.1 hx with hx | hx
            · exact hr x hx
            · rw [List.mem_singleton.1 hx]; exact hrc) fun y hy => by
            rw [htk, List.mem_append] at hy
            rcases hy with hy | hy
            · exact List.mem_append_left _ (hall y hy)
            · exact List.mem_append_right _ hy
          refine ⟨r, ?_, hr2⟩
          rw [zh2, Ev.kz1 (by simpa using hj), Ev.kz2 (kz5 hj'), List.getElem_map, yz9]
          show Ev (fun n => pIf (!Option.getD (zby m (zz6 p.rules[a])[j].1) false) ((ext o [(zz6 p.rules[a])[j].1]).bind _) _) _
          rw [hmj, decide_eq_false q, Ev.kz1 (by rfl), Ev.kz2 (z7b (by simp only [List.length_cons, List.length_nil]; omega)), zn1, wrk (by omega), yz9]; exact hr1
    obtain ⟨r, hr1, hr2⟩ := inner 0 (Nat.zero_le _) out m hn hm (List.prefix_refl _) hr (by simp)
    refine ⟨r, ?_, hr2⟩
    rw [zh5, Ev.kz1 (by simpa using hlt), Ev.kz2 (kz5 hlt), Ev.kz0 (y32 hs), h1, Ev.kz2 (kz5 ha), Ev.kz0 (zs0 (by omega)), yz9]
    exact hr1
 exact main _ 0 [root] _ rfl (Nat.zero_le _) (by simp) (TM.nil.put root) (by simp) (fun x hx => by rw [List.mem_singleton.1 hx]; exact .refl) fun j x hj => by omega
theorem yiz {p : yz0} {root : List UInt8} (hw : p.wf) (hs : p.size ≤ 4000000) : ∃ r, Ev (fun n => zb8 n p root) r ∧ (if z6w p ≠ 0 then r = ([], z6w p) else if root ∈ yz8 p then Set p root r else r = ([], 6)) := by
 have hpl := @zi5 p
 have hrl : (yz8 p).length = p.rules.length := by simp [yz8]
 simp only [y4g, Ev.kz0 (zj8 hw hs)]
 by_cases hc : z6w p = 0
 case neg => exact ⟨([], z6w p), by rw [Ev.kz1 (by simpa using hc), Ev.kz0 (zj8 hw hs), Ev.zz0], by rw [if_pos hc]⟩
 obtain ⟨hf, hnd, hcn⟩ := zwi hc
 simp only [if_neg (show ¬ z6w p ≠ 0 by simp [hc]), Ev.zz2 (show (z6w p != 0) = false by simpa using hc), Ev.kz0 (zj3 (show p.size ≤ 8000000 by omega)), Ev.kz0 (zo3 (l := yz8 p) (s := root) (by omega))]
 by_cases hin : root ∈ yz8 p
 case neg => exact ⟨([], 6), by rw [Ev.kz1 (decide_eq_true (zam.2 hin)), Ev.zz0], by rw [if_neg hin]⟩
 simp only [if_pos hin, Ev.zz2 (show decide (atI (yz8 p) root < 0) = false from decide_eq_false fun q => zam.1 q hin)]
 have main : ∀ d, ∀ out : List (List UInt8), (yz8 p).length - out.length = d → z6y out → root ∈ out → (∀ x ∈ out, Rch p root x) → ∃ r, Ev (fun n => z4w n true out p) r ∧ Set p root r := fun d => by
  induction d using Nat.strongRecOn with
  | ind d ih =>
    intro out hd hst h0 hr
    have pass : ∀ k, k ≤ p.rules.length → ∀ (more : Bool) (o : List (List UInt8)), z6y o → root ∈ o → (∀ x ∈ o, Rch p root x) → (more = true → out.length < o.length) → (more = false → ∀ j (h : j < p.rules.length), j < k → p.rules[j].name ∈ o → ∀ y ∈ z3h p.rules[j], y ∈ o) → out.length ≤ o.length → ∃ r, Ev (fun n => z44 n (k : Int) more o p) r ∧ Set p root r :=
      down (fun more o hst h0 hr hmore hcl hle => by
        have hsub := zju (ze4 hst) fun x hx => znj hcn hin (hr x hx)
        simp only [zha, Ev.zz2 (show decide ((p.rules.length : Int) < (p.rules.length : Int)) = false by simp)]
        cases more with
        | true =>
          have hm := hmore rfl
          exact ih ((yz8 p).length - o.length) (by omega) o rfl hst h0 hr
        | false =>
          refine ⟨(o, 0), by rw [zn3, Ev.zz2 (by rfl), Ev.zz0], rfl, hst, fun x => ⟨hr x, yhx h0 fun x hx y hy => ?_⟩⟩
          obtain ⟨a, ha, h1, h2, h3⟩ := zpx (znj hcn hin (hr x hx))
          rw [yl2 ha h1] at hy
          exact hcl rfl a ha ha (by rw [h2]; exact hx) y hy) fun k hk ihk more o hst h0 hr hmore hcl hle => by
        have hsub := zju (ze4 hst) fun x hx => znj hcn hin (hr x hx)
        have hmem := List.getElem_mem hk
        have := zis hmem
        have hca := zai p.rules[k]
        have l4 : ∀ (more : Bool) (o : List (List UInt8)), z6y o → root ∈ o → (∀ x ∈ o, Rch p root x) → (more = true → out.length < o.length) → (more = false → ∀ j (h : j < p.rules.length), j < k + 1 → p.rules[j].name ∈ o → ∀ y ∈ z3h p.rules[j], y ∈ o) → out.length ≤ o.length → ∃ r, Ev (fun n => z3s n more (k : Int) o p) r ∧ Set p root r := fun more o h1 h2 h3 h4 h5 h6 => by
          obtain ⟨r, hr1, hr2⟩ := ihk more o h1 h2 h3 h4 h5 h6
          exact ⟨r, by rw [zvv, wrk (by omega)]; exact hr1, hr2⟩
        by_cases hino : p.rules[k].name ∈ o
        case neg =>
          obtain ⟨r, hr1, hr2⟩ := l4 more o hst h0 hr hmore (fun hm j hj hjk hjo y hy => by
            by_cases q : j < k
            · exact hcl hm j hj q hjo y hy
            · have : j = k := by omega
              subst this; exact (hino hjo).elim) hle
          exact ⟨r, by rw [zha, Ev.kz1 (by simpa using hk), Ev.kz2 (kz5 hk), Ev.kz0 (zo0 (by omega)), Ev.kz1 (decide_eq_true (zam.2 hino))]; exact hr1, hr2⟩
        have hrk := hr _ hino
        have hnx := ytt hnd hmem
        have hml : ((zz6 p.rules[k]).map toG).length = (zz6 p.rules[k]).length := by simp
        have inner : ∀ j, j ≤ (zz6 p.rules[k]).length → ∀ (more : Bool) (o : List (List UInt8)), z6y o → root ∈ o → (∀ x ∈ o, Rch p root x) → (more = true → out.length < o.length) → (more = false → (∀ j (h : j < p.rules.length), j < k → p.rules[j].name ∈ o → ∀ y ∈ z3h p.rules[j], y ∈ o) ∧ ∀ y ∈ (z3h p.rules[k]).take j, y ∈ o) → out.length ≤ o.length → ∃ r, Ev (fun n => z3n n (j : Int) ((zz6 p.rules[k]).map toG) more (k : Int) o p) r ∧ Set p root r :=
          down (fun more o hst h0 hr hmore hcl hle => by
            have e : (z3h p.rules[k]).length = (zz6 p.rules[k]).length := by simp [z3h]
            rw [← e, List.take_length] at hcl
            obtain ⟨r, hr1, hr2⟩ := l4 more o hst h0 hr hmore (fun hm j hj hjk hjo y hy => by
              by_cases q : j < k
              · exact (hcl hm).1 j hj q hjo y hy
              · have : j = k := by omega
                subst this; exact (hcl hm).2 y hy) hle
            exact ⟨r, by rw [zgi, Ev.zz2 (by simp)]; exact hr1, hr2⟩) fun j hj ihj more o hst h0 hr hmore hcl hle => by
            have hsub := zju (ze4 hst) fun x hx => znj hcn hin (hr x hx)
            have hj' : j < ((zz6 p.rules[k]).map toG).length := by simpa using hj
            have hjc : j < (z3h p.rules[k]).length := by simpa [z3h] using hj
            have hcj : (z3h p.rules[k])[j] = (zz6 p.rules[k])[j].1 := by simp [z3h]
            have htk : (z3h p.rules[k]).take (j + 1) = (z3h p.rules[k]).take j ++ [(zz6 p.rules[k])[j].1] := by rw [← hcj, za6 hjc]
            by_cases q : (zz6 p.rules[k])[j].1 ∈ o
            · obtain ⟨r, hr1, hr2⟩ := ihj more o hst h0 hr hmore (fun hm => ⟨(hcl hm).1, fun y hy => by
                rw [htk, List.mem_append, List.mem_singleton] at hy
                rcases hy with hy | hy
                · exact (hcl hm).2 y hy
                · rw [hy]; exact q⟩) hle
              refine ⟨r, ?_, hr2⟩
              rw [zgi, Ev.kz1 (by simpa using hj), Ev.kz2 (kz5 hj'), List.getElem_map]
              show Ev (fun n => (z2g n (zz6 p.rules[k])[j].1 o).bind _) _
              rw [Ev.kz0 (zo0 (by omega)), Ev.zz2 (decide_eq_false fun z => zam.1 z q), zn5, wrk (by omega)]; exact hr1
            · have hrc : Rch p root (zz6 p.rules[k])[j].1 := .step hrk (by rw [hnx, ← hcj]; exact List.getElem_mem hjc)
              have hins : o.length < (ins o (zz6 p.rules[k])[j].1).length := by
                rcases Nat.lt_or_ge o.length (ins o (zz6 p.rules[k])[j].1).length with z | z
                · exact z
                · exfalso
                  have hn2 := ze4 (zia (s := (zz6 p.rules[k])[j].1) hst)
                  have hc := zju (l := (zz6 p.rules[k])[j].1 :: o) (m := ins o (zz6 p.rules[k])[j].1) (List.nodup_cons.2 ⟨q, ze4 hst⟩) fun x hx => by
                    rw [zmj]; rcases List.mem_cons.1 hx with h | h
                    · exact .inr h
                    · exact .inl h
                  rw [List.length_cons] at hc; omega
              obtain ⟨r, hr1, hr2⟩ := ihj true (ins o (zz6 p.rules[k])[j].1) (zia hst) ((zmj _ _ _).2 (.inl h0)) (fun x hx => by
                rcases (zmj _ _ _).1 hx with hx | hx
                · exact hr x hx
                · rw [hx]; exact hrc) (fun _ => by omega) (fun h => by cases h) (by omega)
              refine ⟨r, ?_, hr2⟩
              rw [zgi, Ev.kz1 (by simpa using hj), Ev.kz2 (kz5 hj'), List.getElem_map]
              show Ev (fun n => (z2g n (zz6 p.rules[k])[j].1 o).bind _) _
              rw [Ev.kz0 (zo0 (by omega)), Ev.kz1 (decide_eq_true (zam.2 q)), Ev.kz2 (kz5 hj'), List.getElem_map]
              show Ev (fun n => (z57 n (zz6 p.rules[k])[j].1 o).bind _) _
              rw [Ev.kz0 (zvx (by omega)), zn5, wrk (by omega)]; exact hr1
        obtain ⟨r, hr1, hr2⟩ := inner 0 (Nat.zero_le _) more o hst h0 hr hmore (fun hm => ⟨hcl hm, by simp⟩) hle
        refine ⟨r, ?_, hr2⟩
        rw [zha, Ev.kz1 (by simpa using hk), Ev.kz2 (kz5 hk), Ev.kz0 (zo0 (by omega)), Ev.zz2 (decide_eq_false fun z => zam.1 z hino), Ev.kz2 (kz5 hk), Ev.kz0 (zq1 (by omega) fun c hc a ha => zw6 (zwy hf _ hmem c hc a ha))]
        exact hr1
    obtain ⟨r, hr1, hr2⟩ := pass 0 (Nat.zero_le _) false out hst h0 hr (fun h => by cases h) (fun _ j hj hj0 => by omega) (Nat.le_refl _)
    exact ⟨r, by rw [zn3, Ev.kz1 (by rfl)]; exact hr1, hr2⟩
 exact main _ [root] rfl (by simp [z6y]) (by simp) fun x hx => by rw [List.mem_singleton.1 hx]; exact .refl
theorem yj7 {a : List (List UInt8)} (hl : a.length ≤ 8000000) : Ev (fun n => z1j n a a) true := by
 rw [zrj, Ev.zz2 (yng rfl)]
 have := zq5 (L := fun n k => z05 n k a a) (xs := a) (ys := a) (fail := false) (r := true) rfl (by rw [zg8, Ev.zz2 (by simp), Ev.zz0]) fun k hk _ v hv => by
  rw [z9w, if_pos rfl, zg8, Ev.kz1 (by simpa using hk), Ev.kz2 (kz5 hk), Ev.kz2 (kz5 hk), Ev.zz2 (by simp), wrk (by omega)]; exact hv
 rw [z9w] at this; exact this
theorem yo0 {p : yz0} {s : List UInt8} (hs : p.size ≤ 4000000) : (zxq p s).1.length ≤ 8000000 := by
 unfold zxq
 split
 ·simp
 ·split
  ·rename_i h
   obtain ⟨i, hi, h1, _⟩ := zpx h
   have := yut (nx p s) []
   have := zis (List.getElem_mem hi)
   have hl := zai p.rules[i]
   have e : (nx p s).length = (zz6 p.rules[i]).length := by rw [yl2 hi h1]; simp [z3h]
   simp only [List.length_nil] at *; omega
  ·simp
theorem ypi {p : yz0} {s : List UInt8} {r : List (List UInt8) × Int} (hs : p.size ≤ 4000000) (h : if z6w p ≠ 0 then r = ([], z6w p) else if s ∈ yz8 p then Set p s r else r = ([], 6)) : r.1.length ≤ 8000000 := by
 have hpl := @zi5 p
 have hrl : (yz8 p).length = p.rules.length := by simp [yz8]
 by_cases hc : z6w p = 0
 case neg => rw [if_pos hc] at h; rw [h]; simp
 rw [if_neg (by simp [hc])] at h
 by_cases hin : s ∈ yz8 p
 case neg => rw [if_neg hin] at h; rw [h]; simp
 rw [if_pos hin] at h
 have := zju (ze4 h.2.1) fun x hx => znj (zwi hc).2.2 hin ((h.2.2 x).1 hx)
 omega
theorem yed (p q : yz0) (s : List UInt8) (hw : p.wf) (hq : q.wf) (hs : p.size + q.size + s.length ≤ 1048576) : ∃ n, kzr n p q s = some true := by
 have hps : p.size ≤ 4000000 := by omega
 obtain ⟨r1, h1, k1⟩ := yl8 (root := s) hw hps
 obtain ⟨r2, h2, k2⟩ := yiz (root := s) hw hps
 have hl := ypi hps k1
 have e : r1 = r2 := by
  by_cases hc : z6w p = 0
  case neg => rw [if_pos hc] at k1 k2; rw [k1, k2]
  rw [if_neg (by simp [hc])] at k1 k2
  by_cases hin : s ∈ yz8 p
  case neg => rw [if_neg hin] at k1 k2; rw [k1, k2]
  rw [if_pos hin] at k1 k2
  exact ytf k1 k2
 subst e
 have l0 : ∀ b, Ev (fun n => kzj n s b q p) true := fun b => by
  cases b
  ·rw [zaw, Ev.zz2 (by rfl), Ev.kz0 (yjy hw hps), Ev.kz0 (yj1 hw hps), Ev.kz0 h1, Ev.kz0 h2, Ev.kz0 (zrk hw hps), Ev.kz0 (zj8 hw hps), Ev.kz1 (by simp), Ev.kz0 (ynh (by omega)), Ev.kz0 (yn2 (by omega)), Ev.kz1 (by simp), Ev.kz0 (yj7 (yo0 hps)), Ev.kz1 (by rfl), Ev.kz1 (by simp), Ev.kz0 (yj7 hl), Ev.kz1 (by rfl), Ev.zz0]
   simp
  ·rw [zaw, Ev.kz1 (by rfl), Ev.zz0]
 obtain ⟨g1, hg1⟩ := yud (p := p) (by omega)
 obtain ⟨g2, hg2⟩ := yud (p := q) (by omega)
 refine Ev.get ?_
 rw [zjz, Ev.kz0 hg1]
 cases g1
 ·rw [Ev.zz2 (by rfl), Ev.kz0 hg2]
  cases g2
  ·rw [Ev.zz2 (by rfl)]; exact l0 _
  ·rw [Ev.kz1 (by rfl)]; exact l0 _
 ·rw [Ev.kz1 (by rfl)]; exact l0 _
end Go.Proofs.YtflgdagdibabiaaGreat

