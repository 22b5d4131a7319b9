/-
  THE TYPED MACHINE: operations that turn nothing say what the abstract machine does.
-/
import Derived.Test.YtfhpamcehnfhoaaGreatDoorLib3
namespace Go.Ab
open Go
set_option linter.unusedVariables false
set_option linter.unusedSimpArgs false
structure Fr where
 lv : Nat
 E : Nat → Nat → Option yz4
 e0 : Nat → Nat → Option yz4
 L0 : List (Option yz4)
 out : Nat → Prop
 pin : List Slot
section
variable (D : Dat) (ρ : List Slot) (lv : Nat) (L : List (Option yz4))
def OR (sl : Slot) : TO D.T → Prop
 | .cells cs => ∃ i vs, sl.k = some i ∧ L[i]? = some (some (.cells vs)) ∧ VRL D ρ lv cs vs
 | .acc ty t xs w => sl.ws.length = xs.length ∧ (∀ (j : Nat) (x : t.S D.T) (v : V), xs[j]? = some x → sl.ws[j]? = some v → DR D t x v) ∧
   (match sl.k with
   | none => (sl.v = .nils ∧ sl.ws = []) ∨ ((sl.v = .sl (D.len t) sl.ws true ∧ t ≠ .int .u8) ∧ (w = true → sl.ws = []))
   | some i => ∃ ver cp, sl.v = .hs lv i ver 0 sl.ws.length false ∧ L[i]? = some (some (.arr ver ty (D.len t) sl.ws cp)))
 | .siter s pos => ∃ i, sl.k = some i ∧ L[i]? = some (some (.siter s pos))
 | .bld ty b => ∃ i a c, sl.k = some i ∧ L[i]? = some (some (.arr 0 ty 2 [.agg [a, c]] (some 1))) ∧ (a = .nilp ∨ a = .ap lv i 0 0 0) ∧ VR D ρ lv (ycf b) c
 | .gone => True
end
def TO.live {T : Nat → Type} : TO T → Prop
 | .gone => False
 | _ => True
def DfL (D : Dat) (ρ : List Slot) (lv : Nat) : List (Nat × List (TV D.T)) → List (Nat × List V) → Prop
 | [], ds => ds = []
 | p :: r, ds => ∃ vs s, ds = (p.1, vs) :: s ∧ VRL D ρ lv p.2 vs ∧ DfL D ρ lv r s
theorem DfL.imp {D : Dat} {ρ ρ' : List Slot} {lv : Nat} (f : List (TV D.T) → List (TV D.T)) (hf : ∀ xs vs, VRL D ρ lv xs vs → VRL D ρ' lv (f xs) vs) : ∀ {l : List (Nat × List (TV D.T))} {ds : List (Nat × List V)}, DfL D ρ lv l ds → DfL D ρ' lv (l.map fun p => (p.1, f p.2)) ds
 | [], ds, h => h
 | p :: r, ds, h => by
   obtain ⟨vs, s, h1, h2, h3⟩ := h
   exact ⟨vs, s, h1, hf _ _ h2, DfL.imp f hf h3⟩
theorem DfL.more {D : Dat} {ρ : List Slot} {lv : Nat} (e : List Slot) {l : List (Nat × List (TV D.T))} {ds : List (Nat × List V)} (h : DfL D ρ lv l ds) : DfL D (ρ ++ e) lv l ds := by
 have := h.imp (ρ' := ρ ++ e) (fun xs => xs) (fun xs vs k => k.more e)
 simpa using this
structure TRr (D : Dat) (F : Fr) (ρ : List Slot) (ts : TS D.T) (σ : St) : Prop where
 nx : ρ.length = ts.nx
 nt : σ.t.length = ts.nt
 tm : ∀ (j : Nat) (x : TV D.T), fnd ts.t j = some x → ∃ v, σ.t[j]? = some v ∧ VR D ρ F.lv x v
 ob : ∀ (s : Nat) (o : TO D.T), fnd ts.o s = some o → ∃ sl, ρ[s]? = some sl ∧ OR D ρ F.lv σ.H.L sl o
 inj : ∀ (s s' : Nat) (o o' : TO D.T) (sl sl' : Slot) (i : Nat), fnd ts.o s = some o → fnd ts.o s' = some o' → o.live → o'.live → ρ[s]? = some sl → ρ[s']? = some sl' → sl.k = some i → sl'.k = some i → s = s'
 mine : ∀ (s : Nat) (o : TO D.T) (sl : Slot) (i : Nat), fnd ts.o s = some o → o.live → ρ[s]? = some sl → sl.k = some i → ¬ F.out i
 lv : σ.H.lv = F.lv
 E : σ.H.E = F.E
 e0 : σ.e0 = F.e0
 d : DfL D ρ F.lv ts.d σ.d
 out : ∀ i, F.out i → i < σ.H.L.length ∧ σ.H.L[i]? = F.L0[i]?
 pin : ∀ (j : Nat) (sl : Slot), F.pin[j]? = some sl → ρ[j]? = some sl
section
variable {P : Program} {D : Dat} {F : Fr} {ρ : List Slot} {ts : TS D.T} {σ : St} {lv : Nat}
theorem zf9 {t off : Nat} {cs : List (TV D.T)} {vs : List V} {x : TV D.T} (hv : VRL D ρ lv cs vs) (h : tRd P t cs off = some x) : ∃ v, rd P t vs off = some v ∧ VR D ρ lv x v := by
 unfold tRd at h
 unfold rd
 split at h
 ·cases h
 ·rename_i heq
  rw [heq]
  split at h
  ·rename_i hl
   injection h with h; subst h
   refine ⟨_, by simp only; rw [if_pos (by rw [← hv.length]; exact hl)], ?_⟩
   simp only [VR]
   exact ⟨_, rfl, (hv.drop _).take _⟩
  ·cases h
 ·rename_i heq
  rw [heq]
  split at h
  ·rename_i hl
   injection h with h; subst h
   refine ⟨_, by simp only; rw [if_pos (by rw [← hv.length]; exact hl)], ?_⟩
   simp only [VR]
   exact ⟨_, rfl, (hv.drop _).take _⟩
  ·cases h
 ·rename_i h1 h2 heq
  obtain ⟨v, k1, k2⟩ := hv.get off x h
  rw [heq]
  cases hd : ‹TypeDesc› <;> first | exact (h1 _ hd).elim | exact (h2 _ _ hd).elim | exact ⟨v, k1, k2⟩
theorem TRr.ev (hR : TRr D F ρ ts σ) {o : Operand} {x : TV D.T} (h : ts.ev o = some x) : VR D ρ F.lv x (σ.ev o) := by
 cases o with
 | tmp t =>
   obtain ⟨v, h1, h2⟩ := hR.tm t x h
   simp only [St.ev, List.getD_eq_getElem?_getD, h1, Option.getD_some]
   exact h2
 | const v => simp only [TS.ev, Option.some.injEq] at h; subst h; exact .ofC v
 | func f => simp only [TS.ev, Option.some.injEq] at h; subst h; simp only [St.ev, VR]; exact ⟨[], [], rfl, by simp [VRL], by simp [VRL]⟩
 | global g => simp [TS.ev] at h
theorem TRr.evs (hR : TRr D F ρ ts σ) : ∀ {l : List Operand} {xs : List (TV D.T)}, ts.evs l = some xs → VRL D ρ F.lv xs (l.map σ.ev)
 | [], xs, h => by simp only [TS.evs, Option.some.injEq] at h; subst h; simp [VRL]
 | o :: l, xs, h => by
   simp only [TS.evs] at h
   split at h
   · rename_i v vs hv hvs
     injection h with h; subst h
     simp only [List.map_cons, VRL]
     exact ⟨_, _, rfl, hR.ev hv, hR.evs hvs⟩
   · cases h
theorem TRr.get (hR : TRr D F ρ ts σ) {i : Nat} {o : yz4} (h : σ.H.L[i]? = some (some o)) : σ.H.get F.lv i = some o := by
 unfold Heap.get; rw [if_pos hR.lv.symm, h]; rfl
variable (hD : D.Ok P)
include hD
theorem VR.yfa {t : DTy} {x : t.S D.T} {v : V} (h : DR D t x v) : VRL D ρ lv (D.tv t x).cells v.cells := by
 cases t with
 | nat => cases h; simp only [Dat.tv, TV.cells, V.cells, VRL]; exact ⟨_, _, rfl, by simp only [VR], rfl⟩
 | st i => exact (VR.tv hD h).cells rfl
 | bool => exact (VR.tv hD h).cells rfl
 | int k => exact (VR.tv hD h).cells rfl
 | str => exact (VR.tv hD h).cells rfl
 | sl t => exact (VR.tv hD h).cells rfl
theorem y1q (hR : TRr D F ρ ts σ) {t : Nat} {a x : TV D.T} {va : V} (h : ynz P D ts t a = some x) (ha : VR D ρ F.lv a va) : ∃ v, z8f P σ.H t va = some v ∧ VR D ρ F.lv x v := by
 unfold ynz at h
 split at h
 ·simp only [VR] at ha
  obtain ⟨vs, rfl, hv⟩ := ha
  exact zf9 hv h
 ·rename_i s off
  split at h
  ·rename_i cs ho
   simp only [VR] at ha
   obtain ⟨sl, i, h1, h2, rfl⟩ := ha
   obtain ⟨sl', k1, k2⟩ := hR.ob s _ ho
   rw [h1] at k1; injection k1 with k1; subst k1
   simp only [OR] at k2
   obtain ⟨i', vs, q1, q2, q3⟩ := k2
   rw [h2] at q1; injection q1 with q1; subst q1
   simp only [yq6, hR.get q2]
   exact zf9 q3 h
  ·cases h
 ·rename_i s τ i y off
  split at h
  ·rename_i ty t' xs w ho
   simp only [VR] at ha
   obtain ⟨sl, u, h1, h2, h3, h4, h5⟩ := ha
   obtain ⟨sl', k1, k2⟩ := hR.ob s _ ho
   rw [h1] at k1; injection k1 with k1; subst k1
   simp only [OR] at k2
   obtain ⟨q1, q2, q3⟩ := k2
   have hc := VR.yfa (ρ := ρ) (lv := F.lv) hD h4
   cases hk : sl.k with
   | none =>
     rw [hk] at h5
     simp only at h5
     subst h5
     exact zf9 hc h
   | some j =>
     rw [hk] at h5 q3
     obtain ⟨ver, n, e1, rfl⟩ := h5
     obtain ⟨ver', cp, e2, e3⟩ := q3
     rw [e1] at e2; injection e2 with _ _ e2; subst e2
     simp only [yjp, zsz, hR.get e3, if_true, h3, Option.map_some, Option.bind_some]
     exact zf9 hc h
  ·cases h
 ·rename_i s off
  split at h
  ·rename_i ty b ho
   simp only [VR] at ha
   obtain ⟨sl, i, h1, h2, rfl⟩ := ha
   obtain ⟨sl', k1, k2⟩ := hR.ob s _ ho
   rw [h1] at k1; injection k1 with k1; subst k1
   simp only [OR] at k2
   obtain ⟨i', u, c, q1, q2, q3, q4⟩ := k2
   rw [h2] at q1; injection q1 with q1; subst q1
   have hv : VRL D ρ F.lv [.any, ycf b] [u, c] := by
    simp only [VRL]
    exact ⟨u, [c], rfl, by simp only [VR], c, [], rfl, q4, rfl⟩
   obtain ⟨v, w1, w2⟩ := zf9 hv h
   refine ⟨v, ?_, w2⟩
   simp only [yjp, zsz, hR.get q2, if_true, List.getElem?_cons_zero, Option.map_some, Option.bind_some, V.cells]
   exact w1
  ·cases h
 ·cases h
omit hD in
theorem y1l {s f : Nat} {x y : TV D.T} {vx : V} (h : zwe P s f x = some y) (hx : VR D ρ lv x vx) : ∃ v, z8t P s f vx = some v ∧ VR D ρ lv y v := by
 unfold zwe at h
 unfold z8t
 split at h
 ·cases h
 ·rename_i o ho
  rw [ho]
  split at h
  ·injection h with h; subst h
   simp only [VR] at hx ⊢
   obtain ⟨vs, rfl, hv⟩ := hx
   exact ⟨_, rfl, vs, rfl, hv⟩
  ·injection h with h; subst h
   simp only [VR] at hx ⊢
   obtain ⟨sl, i, h1, h2, rfl⟩ := hx
   exact ⟨_, rfl, sl, i, h1, h2, rfl⟩
  ·injection h with h; subst h
   simp only [VR] at hx ⊢
   obtain ⟨sl, w, h1, h2, h3, h4, h5⟩ := hx
   cases hk : sl.k with
   | none => rw [hk] at h5; simp only at h5; subst h5; exact ⟨_, rfl, sl, w, h1, h2, h3, h4, by rw [hk]⟩
   | some j => rw [hk] at h5; obtain ⟨ver, n, e1, rfl⟩ := h5; exact ⟨_, rfl, sl, w, h1, h2, h3, h4, by rw [hk]; exact ⟨ver, n, e1, rfl⟩⟩
  ·injection h with h; subst h
   simp only [VR] at hx ⊢
   obtain ⟨sl, i, h1, h2, rfl⟩ := hx
   exact ⟨_, rfl, sl, i, h1, h2, rfl⟩
  ·cases h
omit hD in
theorem ycs {s f : Nat} {x y : TV D.T} {vx : V} (h : ylg P s f x = some y) (hx : VR D ρ lv x vx) : ∃ v, y5y P s f vx = some v ∧ VR D ρ lv y v := by
 unfold ylg at h
 unfold y5y
 split at h
 ·rename_i fs hu
  rw [hu]
  simp only
  split at h
  ·rename_i fd hf
   rw [hf]
   split at h
   ·simp only [VR] at hx
    obtain ⟨vs, rfl, hv⟩ := hx
    exact zf9 hv h
   ·cases h
  ·cases h
 ·cases h
omit hD in
theorem y5r {i : Nat} {x y : TV D.T} {vx : V} (h : y4o i x = some y) (hx : VR D ρ lv x vx) : ∃ v, zx7 i vx = some v ∧ VR D ρ lv y v := by
 unfold y4o at h
 split at h
 ·simp only [VR] at hx
  obtain ⟨vs, rfl, hv⟩ := hx
  exact hv.get i y h
 ·cases h
omit hD in
theorem ykr {x y : TV D.T} {vx : V} (h : tNil x = some y) (hx : VR D ρ lv x vx) : ∃ v, y0u vx = some v ∧ VR D ρ lv y v := by
 unfold tNil at h
 split at h
 ·injection h with h; subst h
  refine ⟨vx, ?_, hx⟩
  simp only [VR] at hx; obtain ⟨sl, i, h1, h2, rfl⟩ := hx; rfl
 ·injection h with h; subst h
  refine ⟨vx, ?_, hx⟩
  simp only [VR] at hx; obtain ⟨vs, rfl, hv⟩ := hx; rfl
 ·injection h with h; subst h
  refine ⟨vx, ?_, hx⟩
  simp only [VR] at hx; obtain ⟨sl, w, h1, h2, h3, h4, h5⟩ := hx
  split at h5
  ·subst h5; rfl
  ·obtain ⟨ver, n, e1, rfl⟩ := h5; rfl
 ·injection h with h; subst h
  refine ⟨vx, ?_, hx⟩
  simp only [VR] at hx; obtain ⟨sl, i, h1, h2, rfl⟩ := hx; rfl
 ·injection h with h; subst h
  refine ⟨vx, ?_, hx⟩
  simp only [VR] at hx; obtain ⟨as, bs, rfl, _⟩ := hx; rfl
 ·cases h
omit hD in
theorem yq2 {op : UnOp} {x y : TV D.T} {vx : V} (h : tUn op x = some y) (hx : VR D ρ lv x vx) : ∃ v, pUn op vx = some v ∧ VR D ρ lv y v := by
 unfold tUn at h
 split at h
 ·injection h with h; subst h; simp only [VR] at hx; subst hx; exact ⟨_, rfl, by simp only [VR]⟩
 ·injection h with h; subst h; simp only [VR] at hx; subst hx; exact ⟨_, rfl, by simp only [VR]⟩
 ·injection h with h; subst h; simp only [VR] at hx; subst hx; exact ⟨_, rfl, by simp only [VR]⟩
 ·cases h
omit hD in
theorem y82 {s d : Nat} {x y : TV D.T} {vx : V} (h : y6v P s d x = some y) (hx : VR D ρ lv x vx) : ∃ v, zsp P s d vx = some v ∧ VR D ρ lv y v := by
 unfold y6v at h
 unfold zsp
 split at h
 ·simp only [VR] at hx; subst hx
  split at h
  ·rename_i h1 h2
   injection h with h; subst h
   simp only [h1, h2]
   exact ⟨_, rfl, by simp only [VR]⟩
  ·cases h
 ·simp only [VR] at hx; subst hx
  split at h
  ·rename_i h1 h2
   injection h with h; subst h
   simp only [h1, h2]
   exact ⟨_, rfl, by simp only [VR]⟩
  ·cases h
 ·cases h
omit hD in
theorem zyd {u : Nat} {ok : Bool} {x y : TV D.T} {vx : V} (h : zsi P x u ok = some y) (hx : VR D ρ lv x vx) : ∃ v, zj3 P vx u ok = some v ∧ VR D ρ lv y v := by
 unfold zsi at h
 unfold zj3
 split at h
 ·cases h
 ·rename_i d t z hni hu
  simp only [VR] at hx
  obtain ⟨w, rfl, hw⟩ := hx
  split at h
  ·rename_i ht
   injection h with h; subst h
   rw [hu]
   cases d <;> first
    | exact (hni _ rfl).elim
    | (refine ⟨_, by simp only; rw [if_pos ht], ?_⟩
       cases ok
       · exact hw
       · simp only [if_true, VR, VRL]; exact ⟨_, rfl, _, _, rfl, hw, _, _, rfl, rfl, rfl⟩)
  ·cases h
 ·cases h
omit hD in
theorem zv2 {m : Bool} {xs : List (TV D.T)} {vs : List V} {y : TV D.T} (h : y4b m xs = some y) (hx : VRL D ρ lv xs vs) : ∃ v, zk6 m vs = some v ∧ VR D ρ lv y v := by
 unfold y4b at h
 split at h
 ·injection h with h; subst h
  simp only [VRL, VR] at hx
  obtain ⟨_, _, rfl, rfl, _, _, rfl, rfl, rfl⟩ := hx
  exact ⟨_, rfl, by simp only [VR]; cases m <;> rfl⟩
 ·injection h with h; subst h
  simp only [VRL, VR] at hx
  obtain ⟨_, _, rfl, rfl, _, _, rfl, rfl, _, _, rfl, rfl, rfl⟩ := hx
  exact ⟨_, rfl, by simp only [VR]; cases m <;> rfl⟩
 ·cases h
omit hD in
theorem TRr.parts (hR : TRr D F ρ ts σ) : ∀ {l : List (Nat × Operand)} {xs : List (Nat × TV D.T)}, y05 ts l = some xs → xs.map (·.1) = (l.map fun p => (p.1, σ.ev p.2)).map (·.1) ∧ VRL D ρ F.lv (xs.map (·.2)) ((l.map fun p => (p.1, σ.ev p.2)).map (·.2))
 | [], xs, h => by simp only [y05, Option.some.injEq] at h; subst h; simp [VRL]
 | (i, o) :: l, xs, h => by
   simp only [y05] at h
   split at h
   · rename_i v vs hv hvs
     injection h with h; subst h
     obtain ⟨h1, h2⟩ := hR.parts hvs
     simp only [List.map_cons, VRL]
     exact ⟨by rw [h1], _, _, rfl, hR.ev hv, h2⟩
   · cases h
omit hD in
theorem zs8 {place : Nat → Option (Nat × Nat)} : ∀ {ps : List (Nat × TV D.T)} {qs : List (Nat × V)} {cs r : List (TV D.T)} {vs : List V}, ps.map (·.1) = qs.map (·.1) → VRL D ρ lv (ps.map (·.2)) (qs.map (·.2)) → VRL D ρ lv cs vs → yc8 place cs ps = some r → ∃ r', zsq place vs qs = some r' ∧ VRL D ρ lv r r'
 | [], [], cs, r, vs, _, _, hc, h => by simp only [yc8, Option.some.injEq] at h; subst h; exact ⟨vs, rfl, hc⟩
 | [], q :: qs, cs, r, vs, h1, _, _, _ => by simp at h1
 | p :: ps, [], cs, r, vs, h1, _, _, _ => by simp at h1
 | (i, x) :: ps, (i', v) :: qs, cs, r, vs, h1, h2, hc, h => by
   simp only [List.map_cons, List.cons.injEq] at h1
   obtain ⟨rfl, h1⟩ := h1
   simp only [List.map_cons, VRL] at h2
   obtain ⟨u, us, he, h2, h3⟩ := h2
   injection he with he1 he2
   subst he1; subst he2
   simp only [yc8] at h
   simp only [zsq]
   split at h
   · cases h
   · rename_i off size hp
     split at h
     · rename_i hcond
       simp only [Bool.and_eq_true, beq_iff_eq, decide_eq_true_eq] at hcond
       have hcells := h2.cells hcond.1.1
       rw [hp]
       simp only
       rw [if_pos (by simp only [Bool.and_eq_true, beq_iff_eq, decide_eq_true_eq]; exact ⟨⟨h2.yzv hcond.1.1, by rw [← hcells.length]; exact hcond.1.2⟩, by rw [← hc.length]; exact hcond.2⟩)]
       exact zs8 h1 h3 (hc.z3n hcells off) h
     · cases h
omit hD in
theorem zs9 {t : Nat} {x : TV D.T} (h : yot P t = some x) : ∃ v, zeroV P t = some v ∧ VR D ρ lv x v := by
 unfold yot at h
 unfold zeroV
 rw [Option.map_eq_some_iff] at h
 obtain ⟨z, hz, rfl⟩ := h
 exact ⟨_, by rw [hz]; rfl, .ofC z⟩
omit hD in
theorem yg4 {t : Nat} {ps : List (Nat × TV D.T)} {qs : List (Nat × V)} {y : TV D.T} (h1 : ps.map (·.1) = qs.map (·.1)) (h2 : VRL D ρ lv (ps.map (·.2)) (qs.map (·.2))) (h : ynl P t ps = some y) : ∃ v, y58 P t qs = some v ∧ VR D ρ lv y v := by
 unfold ynl at h
 unfold y58
 split at h
 ·rename_i z hz
  obtain ⟨v, hv, hr⟩ := zs9 (ρ := ρ) (lv := lv) hz
  simp only [VR] at hr
  obtain ⟨vs, rfl, hr⟩ := hr
  rw [hv]
  simp only
  split at h
  ·rename_i fs hu
   rw [hu]
   simp only
   split at h
   ·rename_i places hp
    rw [hp]
    rw [Option.map_eq_some_iff] at h
    obtain ⟨r, hr', rfl⟩ := h
    obtain ⟨r', k1, k2⟩ := zs8 h1 h2 hr hr'
    exact ⟨.agg r', by simp only [k1, Option.map_some], by simp only [VR]; exact ⟨r', rfl, k2⟩⟩
   ·cases h
  ·rename_i n e hu
   rw [hu]
   simp only
   split at h
   ·rename_i hi
    rw [if_pos hi]
    rw [Option.map_eq_some_iff] at h
    obtain ⟨r, hr', rfl⟩ := h
    obtain ⟨r', k1, k2⟩ := zs8 h1 h2 hr hr'
    exact ⟨.agg r', by simp only [k1, Option.map_some], by simp only [VR]; exact ⟨r', rfl, k2⟩⟩
   ·cases h
  ·cases h
 ·cases h
omit hD in
theorem ykq (hR : TRr D F ρ ts σ) {t : Nat} {x y : TV D.T} {vx : V} (h : tLen P D ts t x = some y) (hx : VR D ρ F.lv x vx) : ∃ v, zha P σ.H t vx = some v ∧ VR D ρ F.lv y v := by
 unfold tLen at h
 split at h
 ·split at h
  ·rename_i hu; injection h with h; subst h; simp only [VR] at hx; subst hx; exact ⟨_, by rw [yqw, hu], by simp only [VR]⟩
  ·cases h
 ·split at h
  ·rename_i hu; injection h with h; subst h; simp only [VR] at hx; subst hx; exact ⟨_, by rw [y0i, hu], by simp only [VR]⟩
  ·cases h
 ·split at h
  ·rename_i hu
   injection h with h; subst h
   simp only [VR] at hx
   obtain ⟨hx, _⟩ := hx
   cases hx with
   | nil => exact ⟨_, by rw [y0i, hu], by simp only [VR]; rfl⟩
   | sl _ _ ws full hl hh => exact ⟨_, by rw [yoq, hu], by simp only [VR, hl]⟩
  ·cases h
 ·split at h
  ·rename_i hu ho
   injection h with h; subst h
   simp only [VR] at hx
   obtain ⟨sl, h1, rfl, hleaf⟩ := hx
   obtain ⟨sl', k1, k2⟩ := hR.ob _ _ ho
   rw [h1] at k1; injection k1 with k1; subst k1
   simp only [OR] at k2
   obtain ⟨q1, q2, q3⟩ := k2
   cases hk : sl.k with
   | none =>
     rw [hk] at q3
     rcases q3 with ⟨e1, e2⟩ | ⟨e1, e2⟩
     · rw [e1, y0i, hu]
       exact ⟨_, rfl, by simp only [VR]; rw [← q1, e2]; rfl⟩
     · rw [e1.1, yoq, hu]
       exact ⟨_, rfl, by simp only [VR]; rw [q1]⟩
   | some j =>
     rw [hk] at q3
     obtain ⟨ver, cp, e1, e2⟩ := q3
     rw [e1]
     refine ⟨.int .i64 sl.ws.length, ?_, by simp only [VR]; rw [q1]⟩
     simp only [zha, hu, hR.get e2, if_true]
  ·cases h
 ·split at h
  ·rename_i hu; injection h with h; subst h; simp only [VR] at hx; obtain ⟨vs, rfl, _⟩ := hx; exact ⟨_, by rw [yrc, hu], by simp only [VR]⟩
  ·cases h
 ·cases h
omit hD in
theorem zva : ∀ (ps : List (Nat × V)) (k n : Nat), ps.map (·.1) = List.range' k n → zq3 k ps = true
 | [], _, _, _ => rfl
 | (i, v) :: r, k, n, h => by
   cases n with
   | zero => simp at h
   | succ n =>
     simp only [List.map_cons, List.range'_succ, List.cons.injEq] at h
     simp only [zq3, h.1, beq_self_eq_true, Bool.true_and]
     exact zva r (k + 1) n h.2
theorem zxw {t len : Nat} {ps : List (Nat × TV D.T)} {qs : List (Nat × V)} {y : TV D.T} (h1 : ps.map (·.1) = qs.map (·.1)) (h2 : VRL D ρ lv (ps.map (·.2)) (qs.map (·.2))) (h : zrc P D t len ps = .ok y) : ∃ v, zj9 P t len qs = some v ∧ VR D ρ lv y v := by
 unfold zrc at h
 unfold zj9
 split at h
 ·rename_i e hu
  rw [hu]
  simp only
  split at h
  ·rename_i z τ hz hτ
   rw [hz]
   simp only
   split at h
   ·rename_i hc
    simp only [Bool.and_eq_true, beq_iff_eq, decide_eq_true_eq, List.all_eq_true] at hc
    obtain ⟨⟨⟨⟨⟨⟨⟨⟨c1, c2⟩, c3⟩, c4⟩, c5⟩, c6⟩, c7⟩, c8⟩, c9⟩ := hc
    have hlen : ps.length = qs.length := by have := congrArg List.length h1; simpa using this
    split at h
    ·rename_i xs hxs
     injection h with h
     subst h
     obtain ⟨k1, k2⟩ := zwm hD hxs h2
     have hql : qs.length = len := by omega
     have hall : ∀ p ∈ qs, p.2.yzv = true ∧ p.2.cells.length = P.cellsOf e := fun p hp => by
      obtain ⟨j, hj⟩ := List.getElem?_of_mem hp
      have hlt : j < ps.length := by rw [hlen]; exact (List.getElem?_eq_some_iff.1 hj).1
      have hq := c7 ps[j] (List.getElem_mem hlt)
      have hr : VR D ρ lv ps[j].2 p.2 := h2.ybi (j := j) (by simp [hlt]) (by simp [hj])
      exact ⟨hr.yzv hq.1, by rw [← (hr.cells hq.1).length]; exact hq.2⟩
     have hcond : (z.yzv && z.cells.length == P.cellsOf e && decide (0 < P.cellsOf e) && (P.info? e).isSome && qs.length == len && zq3 0 qs && qs.all (fun p => p.2.yzv && p.2.cells.length == P.cellsOf e) && decide (len * P.cellsOf e ≤ 2 ^ 24)) = true := by
      simp only [Bool.and_eq_true, beq_iff_eq, decide_eq_true_eq, List.all_eq_true]
      exact ⟨⟨⟨⟨⟨⟨⟨c1, c2⟩, c3⟩, c4⟩, hql⟩, zva qs 0 len (by rw [← h1, c6, List.range_eq_range'])⟩, hall⟩, c8⟩
     rw [if_pos hcond]
     refine ⟨_, rfl, ?_⟩
     simp only [List.length_map] at k1
     by_cases hl0 : len = 0
     ·rw [if_pos hl0, if_pos hl0, ← c9]
      have : xs = [] := List.eq_nil_of_length_eq_zero (by omega)
      subst this
      simp only [VR]
      exact ⟨.sl τ [] [] true rfl (by simp), fun _ => ⟨[], rfl⟩, fun _ => trivial⟩
     ·rw [if_neg hl0, if_neg hl0, ← c9]
      simp only [VR]
      exact ⟨.sl τ xs _ true (by simpa using k1) k2, fun _ => ⟨_, rfl⟩, by simp⟩
    ·cases h
    ·cases h
   ·cases h
  ·cases h
 ·cases h
omit hD in
theorem FR.zmp {α : Type} {o : Option α} {a : α} (h : FR.of o = .ok a) : o = some a := by
 cases o with
 | none => cases h
 | some b => injection h with h; rw [h]
theorem ypu (hR : TRr D F ρ ts σ) {op : Op} {x : TV D.T} (h : tP1 P D ts op = .ok x) : ∃ v, pv P σ.H σ.ev op = some v ∧ VR D ρ F.lv x v := by
 unfold tP1 at h
 unfold pv
 split at h
 ·exact ⟨_, rfl, hR.ev (FR.zmp h)⟩
 ·exact ⟨_, rfl, hR.ev (FR.zmp h)⟩
 ·split at h
  ·rename_i ha; exact y1q hD hR (FR.zmp h) (hR.ev ha)
  ·cases h
 ·split at h
  ·rename_i ha; exact ykr (FR.zmp h) (hR.ev ha)
  ·cases h
 ·split at h
  ·rename_i ha; exact yq2 (FR.zmp h) (hR.ev ha)
  ·cases h
 ·split at h
  ·rename_i ha; exact y82 (FR.zmp h) (hR.ev ha)
  ·cases h
 ·split at h
  ·rename_i ha
   split at h
   ·rename_i hc
    injection h with h; subst h
    exact ⟨_, by simp only [zfz]; rw [if_pos hc], by simp only [VR]; exact ⟨_, rfl, hR.ev ha⟩⟩
   ·cases h
  ·cases h
 ·split at h
  ·rename_i ha hb
   injection h with h; subst h
   exact ⟨_, rfl, by simp only [VR]; exact ⟨_, _, rfl, hR.evs ha, hR.evs hb⟩⟩
  ·cases h
 ·split at h
  ·rename_i ha; exact y1l (FR.zmp h) (hR.ev ha)
  ·cases h
 ·split at h
  ·rename_i ha; exact ycs (FR.zmp h) (hR.ev ha)
  ·cases h
 ·split at h
  ·rename_i ha; exact zyd (FR.zmp h) (hR.ev ha)
  ·cases h
 ·split at h
  ·rename_i ha; exact y5r (FR.zmp h) (hR.ev ha)
  ·cases h
 ·split at h
  ·rename_i ha; obtain ⟨h1, h2⟩ := hR.parts ha; exact yg4 h1 h2 (FR.zmp h)
  ·cases h
 ·split at h
  ·rename_i ha; obtain ⟨h1, h2⟩ := hR.parts ha; exact zxw hD h1 h2 h
  ·cases h
 ·unfold z9u
  split at h
  ·rename_i hcal
   split at h
   ·rename_i o t hargs htys
    split at h
    ·rename_i ha
     simp only [hcal, hargs, htys]
     exact ykq hR (FR.zmp h) (hR.ev ha)
    ·cases h
   ·cases h
  ·rename_i hcal
   split at h
   ·rename_i ha; simp only [hcal]; exact zv2 (FR.zmp h) (hR.evs ha)
   ·cases h
  ·rename_i hcal
   split at h
   ·rename_i ha; simp only [hcal]; exact zv2 (FR.zmp h) (hR.evs ha)
   ·cases h
  ·cases h
 ·cases h
end
end Go.Ab


namespace Go.Ab
open Go
set_option linter.unusedVariables false
set_option linter.unusedSimpArgs false
section
variable {P : Program} {D : Dat} {F : Fr} {ρ : List Slot} {ts : TS D.T} {σ : St} {lv : Nat}
mutual
theorem zx4 : ∀ {d t : Nat} {x y : TV D.T} {vx vy : V} {b : Bool}, yhz P d t x y = some b → VR D ρ lv x vx → VR D ρ lv y vy → eqv P d t vx vy = some b
 | 0, t, x, y, vx, vy, b, h, hx, hy => by simp [yhz] at h
 | d + 1, t, x, y, vx, vy, b, h, hx, hy => by
   simp only [yhz] at h
   split at h
   · simp only [VR] at hx hy; subst hx; subst hy; (simp only [eqv]; split at h <;> first | (rename_i hu; simp only [hu]; exact h) | cases h)
   · simp only [VR] at hx hy; subst hx; subst hy; (simp only [eqv]; split at h <;> first | (rename_i hu; simp only [hu]; exact h) | cases h)
   · simp only [VR] at hx hy; subst hx; subst hy; (simp only [eqv]; split at h <;> first | (rename_i hu; simp only [hu]; exact h) | cases h)
   · simp only [VR] at hx hy
     obtain ⟨xs, rfl, hx⟩ := hx
     obtain ⟨ys, rfl, hy⟩ := hy
     simp only [eqv]
     split at h
     · rename_i hu
       simp only [hu]
       split at h
       · cases h
       · rename_i hs
         rw [if_neg hs]
         exact zsa h hx hy
     · cases h
   · simp only [VR] at hx hy; subst hx; subst hy; (simp only [eqv]; split at h <;> first | (rename_i hu; simp only [hu]; exact h) | cases h)
   · simp only [VR] at hx hy; subst hx; obtain ⟨_, _, _, _, rfl⟩ := hy; (simp only [eqv]; split at h <;> first | (rename_i hu; simp only [hu]; exact h) | cases h)
   · simp only [VR] at hx hy; subst hx; obtain ⟨_, rfl, _⟩ := hy; (simp only [eqv]; split at h <;> first | (rename_i hu; simp only [hu]; exact h) | cases h)
   · simp only [VR] at hx hy; subst hy; obtain ⟨_, _, _, _, rfl⟩ := hx; (simp only [eqv]; split at h <;> first | (rename_i hu; simp only [hu]; exact h) | cases h)
   · simp only [VR] at hx hy; subst hy; obtain ⟨_, rfl, _⟩ := hx; (simp only [eqv]; split at h <;> first | (rename_i hu; simp only [hu]; exact h) | cases h)
   · simp only [VR] at hx hy; subst hx; subst hy; (simp only [eqv]; split at h <;> first | (rename_i hu; simp only [hu]; exact h) | cases h)
   · simp only [VR] at hx hy; subst hx; subst hy; (simp only [eqv]; split at h <;> first | (rename_i hu; simp only [hu]; exact h) | cases h)
   · simp only [VR] at hx hy; subst hx; obtain ⟨_, _, rfl, _⟩ := hy; (simp only [eqv]; split at h <;> first | (rename_i hu; simp only [hu]; exact h) | cases h)
   · simp only [VR] at hx hy; subst hy; obtain ⟨_, _, rfl, _⟩ := hx; (simp only [eqv]; split at h <;> first | (rename_i hu; simp only [hu]; exact h) | cases h)
   · simp only [VR] at hx hy; subst hx; obtain ⟨_, rfl, _⟩ := hy; (simp only [eqv]; split at h <;> first | (rename_i hu; simp only [hu]; exact h) | cases h)
   · simp only [VR] at hx hy; subst hy; obtain ⟨_, rfl, _⟩ := hx; (simp only [eqv]; split at h <;> first | (rename_i hu; simp only [hu]; exact h) | cases h)
   · cases h
theorem zsa : ∀ {d : Nat} {fs : List Field} {xs ys : List (TV D.T)} {vx vy : List V} {b : Bool}, y4j P d fs xs ys = some b → VRL D ρ lv xs vx → VRL D ρ lv ys vy → ybc P d fs vx vy = some b
 | 0, fs, xs, ys, vx, vy, b, h, hx, hy => by simp [y4j] at h
 | d + 1, [], xs, ys, vx, vy, b, h, hx, hy => by simpa only [ybc, y4j] using h
 | d + 1, f :: fs, xs, ys, vx, vy, b, h, hx, hy => by
   simp only [y4j] at h
   simp only [ybc]
   split at h
   · rename_i hf
     rw [if_pos hf]
     exact zsa h hx hy
   · rename_i hf
     rw [if_neg hf]
     split at h
     · rename_i a c ha hc
       obtain ⟨va, k1, k2⟩ := zf9 hx ha
       obtain ⟨vc, k3, k4⟩ := zf9 hy hc
       rw [k1, k3]
       split at h
       · rename_i r s hr hs
         simp only [zx4 hr k2 k4, zsa hs hx hy]
         exact h
       · cases h
     · cases h
end
theorem yjy {t : Nat} {x y : TV D.T} {vx vy : V} {b : Bool} (h : yhz P 24 t x y = some b) (ho : (x.odd && zyb P t x y) = true) (hx : VR D ρ lv x vx) (hy : VR D ρ lv y vy) :
  (∀ k k' a c, vx = .int k a → vy = .int k' c → False) ∧ (∀ a c, vx = .str a → vy = .str c → False) ∧ (vx.odd && zk8 P t vx vy) = true := by
 simp only [yhz] at h
 split at h <;> (try simp only [TV.odd, zyb, Bool.and_eq_true, Bool.false_eq_true, false_and, true_and, Bool.and_true, Bool.and_false, Bool.true_and] at ho) <;> (try simp only [VR] at hx hy)
 ·subst hx; subst hy; exact ⟨by simp, by simp, rfl⟩
 ·obtain ⟨xs, rfl, hx⟩ := hx
  obtain ⟨ys, rfl, hy⟩ := hy
  exact ⟨by simp, by simp, by simpa [V.odd, zk8] using ho⟩
 ·subst hx; subst hy; exact ⟨by simp, by simp, rfl⟩
 ·subst hx; obtain ⟨_, _, _, _, rfl⟩ := hy; exact ⟨by simp, by simp, rfl⟩
 ·subst hx; obtain ⟨_, rfl, _⟩ := hy; exact ⟨by simp, by simp, rfl⟩
 ·subst hy; obtain ⟨_, _, _, _, rfl⟩ := hx; exact ⟨by simp, by simp, rfl⟩
 ·subst hy; obtain ⟨_, rfl, _⟩ := hx; exact ⟨by simp, by simp, rfl⟩
 ·subst hx; subst hy; exact ⟨by simp, by simp, rfl⟩
 ·subst hx; subst hy; exact ⟨by simp, by simp, rfl⟩
 ·subst hx; obtain ⟨_, _, rfl, _⟩ := hy; exact ⟨by simp, by simp, rfl⟩
 ·subst hy; obtain ⟨_, _, rfl, _⟩ := hx; exact ⟨by simp, by simp, rfl⟩
 ·subst hx; obtain ⟨_, rfl, _⟩ := hy; exact ⟨by simp, by simp, rfl⟩
 ·subst hy; obtain ⟨_, rfl, _⟩ := hx; exact ⟨by simp, by simp, rfl⟩
 ·cases h
theorem zbw {α : Type} {o : Option α} {β : Type} {f : α → Option β} {r : β} (h : zgg o f = some r) : ∃ x, o = some x ∧ f x = some r := zwj h
theorem ysa {t : Nat} {x y : V} {b : Bool} (h1 : ∀ k k' a c, x = .int k a → y = .int k' c → False) (h2 : ∀ a c, x = .str a → y = .str c → False) (h3 : (x.odd && zk8 P t x y) = true) (h4 : eqv P 24 t x y = some b) : zuz P .eql t x y = some (.bool b) := by
 unfold zuz
 split
 ·exact (h1 _ _ _ _ rfl rfl).elim
 ·exact (h2 _ _ rfl rfl).elim
 ·simp only; rw [if_pos h3, h4]; rfl
theorem ytd {t : Nat} {x y : V} {b : Bool} (h1 : ∀ k k' a c, x = .int k a → y = .int k' c → False) (h2 : ∀ a c, x = .str a → y = .str c → False) (h3 : (x.odd && zk8 P t x y) = true) (h4 : eqv P 24 t x y = some b) : zuz P .neq t x y = some (.bool (!b)) := by
 unfold zuz
 split
 ·exact (h1 _ _ _ _ rfl rfl).elim
 ·exact (h2 _ _ rfl rfl).elim
 ·simp only; rw [if_pos h3, h4]; rfl
theorem ykk {R : Type} {op : BinOp} {t : Nat} {x y : TV D.T} {vx vy : V} {k : TV D.T → Option R} {r : R} (h : tBin P op t x y k = some r) (hx : VR D ρ lv x vx) (hy : VR D ρ lv y vy) :
  ∃ z v, zuz P op t vx vy = some v ∧ VR D ρ lv z v ∧ k z = some r := by
 unfold tBin at h
 split at h
 ·rename_i i a i' b
  simp only [VR] at hx hy; subst hx; subst hy
  split at h
  ·obtain ⟨z, h1, h2⟩ := zbw h
   unfold shl at h1
   split at h1
   ·cases h1
   ·rename_i hb
    injection h1 with h1; subst h1
    exact ⟨_, _, by simp only [zuz]; rw [if_neg hb], by simp only [VR], h2⟩
  ·obtain ⟨z, h1, h2⟩ := zbw h
   unfold shr at h1
   split at h1
   ·cases h1
   ·rename_i hb
    injection h1 with h1; subst h1
    exact ⟨_, _, by simp only [zuz]; rw [if_neg hb], by simp only [VR], h2⟩
  ·rename_i hn1 hn2
   split at h
   ·rename_i hi
    subst hi
    have key : ∀ v, y5i op i a b = some v → zuz P op t (.int i a) (.int i b) = some v := fun v hv => by
     unfold zuz
     cases op <;> first | exact (hn1 rfl).elim | exact (hn2 rfl).elim | (simp only [if_true]; exact hv)
    split at h
    all_goals first
     | (refine ⟨_, _, key _ rfl, by simp only [VR], h⟩; done)
     | skip
    ·obtain ⟨z, h1, h2⟩ := zbw h
     obtain ⟨h3, rfl⟩ := yse h1
     exact ⟨_, _, key _ (by simp only [y5i]; rw [if_neg h3]), by simp only [VR], h2⟩
    ·obtain ⟨z, h1, h2⟩ := zbw h
     obtain ⟨h3, rfl⟩ := yqk h1
     exact ⟨_, _, key _ (by simp only [y5i]; rw [if_neg h3]), by simp only [VR], h2⟩
    ·cases h
   ·cases h
 ·rename_i a b
  simp only [VR] at hx hy; subst hx; subst hy
  split at h
  ·obtain ⟨z, h1, h2⟩ := zbw h
   obtain ⟨h3, rfl⟩ := yqt h1
   exact ⟨_, _, by simp only [zuz, ymg]; rw [if_pos h3], by simp only [VR], h2⟩
  ·exact ⟨_, _, rfl, by simp only [VR], h⟩
  ·exact ⟨_, _, rfl, by simp only [VR], h⟩
  ·exact ⟨_, _, rfl, by simp only [VR], h⟩
  ·exact ⟨_, _, rfl, by simp only [VR], h⟩
  ·exact ⟨_, _, rfl, by simp only [VR], h⟩
  ·exact ⟨_, _, rfl, by simp only [VR], h⟩
  ·cases h
 ·split at h
  ·split at h
   ·rename_i ho
    split at h
    ·rename_i b hb
     obtain ⟨h1, h2, h3⟩ := yjy hb ho hx hy
     exact ⟨_, _, ysa h1 h2 h3 (zx4 hb hx hy), by simp only [VR], h⟩
    ·cases h
   ·cases h
  ·split at h
   ·rename_i ho
    split at h
    ·rename_i b hb
     obtain ⟨h1, h2, h3⟩ := yjy hb ho hx hy
     exact ⟨_, _, ytd h1 h2 h3 (zx4 hb hx hy), by simp only [VR], h⟩
    ·cases h
   ·cases h
  ·cases h
variable (hD : D.Ok P)
include hD
omit hD in
theorem ylq {t : DTy} {xs : List (t.S D.T)} {ws : List V} (hl : ws.length = xs.length) (h : ∀ (j : Nat) (x : t.S D.T) (w : V), xs[j]? = some x → ws[j]? = some w → DR D t x w) {n : Int} {y : t.S D.T} (hy : ix xs n = some y) : 0 ≤ n ∧ n.toNat < ws.length ∧ ∃ w, ws[n.toNat]? = some w ∧ DR D t y w := by
 obtain ⟨h1, h2⟩ := ye6 hy
 have hlt : n.toNat < ws.length := by rw [hl]; exact (List.getElem?_eq_some_iff.1 h2).1
 exact ⟨h1, hlt, ws[n.toNat], List.getElem?_eq_getElem hlt, h _ _ _ h2 (List.getElem?_eq_getElem hlt)⟩
omit hD in
theorem zv7 {R : Type} {r : R} : ∀ {len : Nat} {n : Int} {f : Nat → Option R}, 0 ≤ n → n < (len : Int) → zxs len n f = some r → ∃ m, m < len ∧ n = Int.ofNat m ∧ f m = some r
 | 0, _, _, _, _, h => by cases h
 | 1, n, f, h0, h1, h => ⟨0, by omega, by simp only [Int.ofNat_eq_natCast]; omega, h⟩
 | len + 2, n, f, h0, h1, h => by
   simp only [zxs] at h
   rw [y4a] at h
   split at h
   · rename_i hc; exact ⟨len + 1, by omega, by simpa using hc, h⟩
   · rename_i hc
     have hne : n ≠ ((len + 1 : Nat) : Int) := by simpa using hc
     obtain ⟨m, h2, h3, h4⟩ := zv7 h0 (by omega) h
     exact ⟨m, by omega, h3, h4⟩
omit hD in
theorem zvf {R : Type} {t len e : Nat} {ik : IntKind} {H : Heap} {x : TV D.T} {vx : V} {k : TV D.T → Option R} {r : R} {m : Nat} (hu : P.underlying t = some (.array len e)) (h : y49 P len e x k m = some r) (hx : VR D ρ lv x vx) :
  ∃ z v, zzn P H t vx (.int ik (Int.ofNat m)) = some v ∧ VR D ρ lv z v ∧ k z = some r := by
 unfold y49 at h
 split at h
 ·rename_i hc
  have hn0 : (0 : Int) ≤ Int.ofNat m := Int.natCast_nonneg m
  have hlt : Int.ofNat m < (len : Int) := Int.ofNat_lt.2 hc.1
  split at h
  ·rename_i cs off
   simp only [VR] at hx
   obtain ⟨vs, rfl, hv⟩ := hx
   exact ⟨_, .ref vs (off + m * P.cellsOf e), by unfold zzn; simp only; rw [if_pos hn0, hu]; simp only; rw [if_pos ⟨hlt, hc.2⟩]; rfl, by simp only [VR]; exact ⟨vs, rfl, hv⟩, h⟩
  ·rename_i s off
   simp only [VR] at hx
   obtain ⟨sl, j, h1, h2, rfl⟩ := hx
   exact ⟨_, .ptr lv j (off + m * P.cellsOf e), by unfold zzn; simp only; rw [if_pos hn0, hu]; simp only; rw [if_pos ⟨hlt, hc.2⟩]; rfl, by simp only [VR]; exact ⟨sl, j, h1, h2, rfl⟩, h⟩
  ·rename_i s τ i' x' off
   simp only [VR] at hx
   obtain ⟨sl, w, h1, h2, h3, h4, h5⟩ := hx
   cases hk : sl.k with
   | none =>
     rw [hk] at h5; simp only at h5; subst h5
     exact ⟨_, .ref w.cells (off + m * P.cellsOf e), by unfold zzn; simp only; rw [if_pos hn0, hu]; simp only; rw [if_pos ⟨hlt, hc.2⟩]; rfl, by simp only [VR]; exact ⟨sl, w, h1, h2, h3, h4, by rw [hk]⟩, h⟩
   | some j =>
     rw [hk] at h5
     obtain ⟨ver, n, e1, rfl⟩ := h5
     exact ⟨_, .ap lv j ver i'.toNat (off + m * P.cellsOf e), by unfold zzn; simp only; rw [if_pos hn0, hu]; simp only; rw [if_pos ⟨hlt, hc.2⟩]; rfl, by simp only [VR]; exact ⟨sl, w, h1, h2, h3, h4, by rw [hk]; exact ⟨ver, n, e1, rfl⟩⟩, h⟩
  ·cases h
 ·cases h
theorem y0z {R : Type} (hR : TRr D F ρ ts σ) {t : Nat} {x i : TV D.T} {vx vi : V} {k : TV D.T → Option R} {r : R} (h : zwf P D ts t x i k = some r) (hx : VR D ρ F.lv x vx) (hi : VR D ρ F.lv i vi) :
  ∃ z v, zzn P σ.H t vx vi = some v ∧ VR D ρ F.lv z v ∧ k z = some r := by
 unfold zwf at h
 split at h
 ·rename_i ik n
  simp only [VR] at hi; subst hi
  split at h
  ·rename_i e hu
   split at h
   ·rename_i he
    split at h
    ·rename_i τ xs fl
     split at h
     ·rename_i hz
      obtain ⟨y, hy, h⟩ := zbw h
      simp only [VR] at hx
      obtain ⟨hx, _⟩ := hx
      cases hx with
      | nil => obtain ⟨_, h2⟩ := ye6 hy; simp at h2
      | sl _ _ ws full hl hh =>
        obtain ⟨h1, h2, w, h3, h4⟩ := ylq hl hh hy
        refine ⟨_, .ref w.cells 0, ?_, ?_, h⟩
        · rw [zvg, if_pos h1, hu]
          simp only
          rw [if_pos ⟨hz, he⟩, h3]; rfl
        · simp only [VR]; exact ⟨_, rfl, VR.yfa hD h4⟩
     ·cases h
    ·rename_i s
     split at h
     ·rename_i ty τ xs w ho
      split at h
      ·rename_i hz
       obtain ⟨y, hy, h⟩ := zbw h
       simp only [VR] at hx
       obtain ⟨sl, h1, rfl, hleaf⟩ := hx
       obtain ⟨sl', k1, k2⟩ := hR.ob _ _ ho
       rw [h1] at k1; injection k1 with k1; subst k1
       simp only [OR] at k2
       obtain ⟨q1, q2, q3⟩ := k2
       obtain ⟨p1, p2, u, p3, p4⟩ := ylq q1 q2 hy
       cases hk : sl.k with
       | none =>
         rw [hk] at q3
         rcases q3 with ⟨e1, e2⟩ | ⟨e1, e2⟩
         · rw [e2] at p3; simp at p3
         · refine ⟨_, .ref u.cells 0, ?_, ?_, h⟩
           · rw [e1.1, zvg, if_pos p1, hu]
             simp only
             rw [if_pos ⟨hz, he⟩, p3]; rfl
           · simp only [VR]; exact ⟨sl, u, h1, p1, p3, p4, by rw [hk]⟩
       | some j =>
         rw [hk] at q3
         obtain ⟨ver, cp, e1, e2⟩ := q3
         refine ⟨_, .ap F.lv j ver n.toNat 0, ?_, ?_, h⟩
         · rw [e1]
           unfold zzn
           simp only
           rw [if_pos p1, hu]
           simp only [hR.get e2]
           rw [if_pos ⟨trivial, hz, he, by omega⟩]; simp
         · simp only [VR]; exact ⟨sl, u, h1, p1, p3, p4, by rw [hk]; exact ⟨ver, _, e1, by simp⟩⟩
      ·cases h
     ·cases h
    ·cases h
   ·cases h
  ·rename_i len e hu
   split at h
   ·obtain ⟨_, hr, h⟩ := zbw h
    unfold inR at hr
    split at hr
    ·rename_i hc
     obtain ⟨m, hm, rfl, h2⟩ := zv7 hc.1 hc.2 h
     exact zvf hu h2 hx
    ·cases hr
   ·split at h
    ·exact zvf hu h hx
    ·cases h
  ·cases h
 ·cases h
omit hD in
theorem yju {t : DTy} : ∀ {cs : List (TV D.T)} {xs : List (t.S D.T)}, yd2 D t cs = .ok xs → xs.length = cs.length
 | [], xs, h => by simp only [yd2] at h; injection h with h; subst h; rfl
 | c :: cs, xs, h => by
   simp only [yd2] at h
   split at h
   · split at h
     · rename_i ys hys; injection h with h; subst h; simp [yju hys]
     · cases h
     · cases h
   · cases h
   · cases h
theorem yd9 {R : Type} {t : Nat} {x i : TV D.T} {vx vi : V} {k : TV D.T → Option R} {r : R} (h : yn0 P D t x i k = some r) (hx : VR D ρ lv x vx) (hi : VR D ρ lv i vi) :
  ∃ z v, y0k P t vx vi = some v ∧ VR D ρ lv z v ∧ k z = some r := by
 unfold yn0 at h
 split at h
 ·rename_i ik n
  simp only [VR] at hi; subst hi
  split at h
  ·rename_i s
   simp only [VR] at hx; subst hx
   split at h
   ·rename_i hu
    obtain ⟨b, hb, h⟩ := zbw h
    obtain ⟨h1, h2⟩ := ye6 hb
    refine ⟨_, .int .u8 b.toNat, ?_, by simp only [VR], h⟩
    unfold y0k; simp only; rw [if_pos h1, hu]; simp only [h2]; rfl
   ·cases h
  ·rename_i cs
   simp only [VR] at hx
   obtain ⟨vs, rfl, hx⟩ := hx
   split at h
   ·rename_i len e hu
    split at h
    ·rename_i τ hτ
     split at h
     ·rename_i hc
      obtain ⟨c1, c2, c3, c4⟩ := hc
      split at h
      ·split at h
       ·rename_i xs hxs
        obtain ⟨y, hy, h⟩ := zbw h
        obtain ⟨k1, k2⟩ := zwm hD hxs hx
        obtain ⟨p1, p2, u, p3, p4⟩ := ylq k1 k2 hy
        have hlen : vs.length = len := by rw [k1, yju hxs, c1]
        refine ⟨_, u, ?_, VR.leaf p4, h⟩
        unfold y0k; simp only; rw [if_pos p1, hu]; simp only
        rw [if_pos ⟨by omega, c3⟩, c2, Nat.mul_one]
        unfold rd
        rw [Option.any_eq_true] at c4
        obtain ⟨d, hd, hag⟩ := c4
        rw [hd]
        cases d <;> first | exact p3 | (simp [TypeDesc.isAgg] at hag)
       ·cases h
      ·cases h
     ·cases h
    ·cases h
   ·cases h
  ·cases h
 ·cases h
omit hD in
theorem yt1 {d n : Nat} {o : Option (TV D.T)} {l : Int} {vo : Option V} (hd : d ≤ n) (h : yg8 D (d : Int) o = some l) (hv : ∀ x, o = some x → ∃ v, vo = some v ∧ VR D ρ lv x v) (hn : o = none → vo = none) (h0 : 0 ≤ l) (hl : l ≤ n) : bnd n d vo = some l.toNat := by
 unfold yg8 at h
 split at h
 ·injection h with h; subst h; rw [hn rfl]; simp [bnd]
 ·rename_i ik x
  injection h with h; subst h
  obtain ⟨v, e1, e2⟩ := hv _ rfl
  simp only [VR] at e2
  subst e2
  rw [e1]
  simp only [bnd]; rw [if_pos ⟨h0, hl⟩]
 ·cases h
omit hD in
theorem yda {R : Type} {t : Nat} {x : TV D.T} {lo hi : Option (TV D.T)} {vx : V} {vlo vhi : Option V} {k : TV D.T → Option R} {kf : Nat → Option R} {r : R} (h : ykp P D t x lo hi k kf = some r) (hx : VR D ρ lv x vx)
  (hlo : ∀ y, lo = some y → ∃ v, vlo = some v ∧ VR D ρ lv y v) (hlo0 : lo = none → vlo = none) (hhi : ∀ y, hi = some y → ∃ v, vhi = some v ∧ VR D ρ lv y v) (hhi0 : hi = none → vhi = none) (H : Heap) :
  (∃ z v, zb3 P H t vx vlo vhi none = some v ∧ VR D ρ lv z v ∧ k z = some r) ∨ ∃ s, kf s = some r := by
 unfold ykp at h
 have bounds : ∀ {n : Nat} {l q : Int}, yg8 D 0 lo = some l → yg8 D (n : Int) hi = some q → 0 ≤ l → l ≤ q → q ≤ n → zel n vlo vhi none = some (l.toNat, q.toNat, none) := fun {n l q} hl hq h1 h2 h3 => by
  simp only [zel]
  rw [yt1 (Nat.le_refl n) hq hhi hhi0 (by omega) h3]
  simp only [Option.bind_some]
  rw [yt1 (d := 0) (n := q.toNat) (Nat.zero_le _) hl hlo hlo0 h1 (by omega)]
  rfl
 split at h
 ·rename_i s
  simp only [VR] at hx; subst hx
  split at h
  ·rename_i hu
   split at h
   ·rename_i l q hl hq
    obtain ⟨y, hy, h⟩ := zbw h
    obtain ⟨h1, h2, h3, rfl, _⟩ := yk4 hy
    left
    exact ⟨_, .str ((s.take q.toNat).drop l.toNat), by simp only [zb3, hu, bounds hl hq h1 h2 h3, Option.map_some], by simp only [VR], h⟩
   ·cases h
  ·cases h
 ·rename_i τ xs fl
  simp only [VR] at hx
  obtain ⟨hx, hf1, hf2⟩ := hx
  split at h
  ·rename_i e hu
   split at h
   ·rename_i hz
    split at h
    ·rename_i l q hl hq
     obtain ⟨y, hy, h⟩ := zbw h
     obtain ⟨h1, h2, h3, rfl, _⟩ := yk4 hy
     left
     cases hx with
     | nil =>
       refine ⟨_, .nils, ?_, ?_, h⟩
       · have hb : zel 0 vlo vhi none = some (l.toNat, q.toNat, none) := bounds hl hq h1 h2 h3
         simp only [zb3, hu]; rw [if_pos hz.2, hb]; rfl
       · simp only [VR]
         refine ⟨by simp only [List.take_nil, List.drop_nil]; exact .nil τ, fun hfl => ?_, fun hfl => by simp⟩
         have : 1 ≤ fl := by
           split at hfl
           · omega
           · omega
         obtain ⟨ws, hw⟩ := hf1 this
         cases hw
     | sl _ _ ws full hlw hh =>
       refine ⟨_, .sl (D.len τ) ((ws.take q.toNat).drop l.toNat) (full && q.toNat == ws.length), ?_, ?_, h⟩
       rotate_left
       · simp only [VR]
         refine ⟨.sl τ _ ((ws.take q.toNat).drop l.toNat) (full && q.toNat == ws.length) (by simp [hlw]) fun j x w hx hw => ?_, fun hfl => ?_, fun hfl => ?_⟩
         · rw [List.getElem?_drop, List.getElem?_take] at hx hw
           split at hx
           · rw [if_pos ‹_›] at hw; exact hh _ _ _ hx hw
           · cases hx
         · have hfl' : hi = none ∧ 1 ≤ fl := by
             split at hfl
             · exact ⟨by first | assumption | rfl, by omega⟩
             · omega
           obtain ⟨ws', hw'⟩ := hf1 hfl'.2
           injection hw' with _ _ hw'
           subst hw'
           have hqn : q = xs.length := by
             rw [hfl'.1] at hq
             simp only [yg8, Option.some.injEq] at hq
             exact hq.symm
           refine ⟨(ws.take q.toNat).drop l.toNat, ?_⟩
           have : (q.toNat == ws.length) = true := by rw [hqn, hlw]; simp
           rw [this]; rfl
         · exfalso
           split at hfl
           · omega
           · omega
       · have hb : zel ws.length vlo vhi none = some (l.toNat, q.toNat, none) := by rw [hlw]; exact bounds hl hq h1 h2 h3
         simp only [zb3, hu]; rw [if_pos hz, hb]; simp
    ·cases h
   ·cases h
  ·cases h
 ·exact .inr ⟨_, h⟩
 ·cases h
omit hD in
theorem TRr.oev (hR : TRr D F ρ ts σ) {o : Option Operand} {x : Option (TV D.T)} (h : oev D ts o = some x) : (∀ y, x = some y → ∃ v, o.map σ.ev = some v ∧ VR D ρ F.lv y v) ∧ (x = none → o.map σ.ev = none) := by
 cases o with
 | none => simp only [Go.Ab.oev, Option.some.injEq] at h; subst h; exact ⟨by simp, fun _ => rfl⟩
 | some o =>
   simp only [Go.Ab.oev, Option.map_eq_some_iff] at h
   obtain ⟨y, hy, rfl⟩ := h
   exact ⟨fun z hz => by injection hz with hz; subst hz; exact ⟨_, rfl, hR.ev hy⟩, by simp⟩
theorem y5o {R : Type} (hR : TRr D F ρ ts σ) {op : Op} {k : TV D.T → Option R} {kf : Nat → Option R} {r : R} (h : tP P D ts op k kf = some r) :
  (∃ x v, pv P σ.H σ.ev op = some v ∧ VR D ρ F.lv x v ∧ k x = some r) ∨ ∃ s, kf s = some r := by
 unfold tP at h
 split at h
 ·rename_i c a b
  split at h
  ·rename_i t x y hc hx hy
   have h1 := hR.ev hc
   simp only [VR] at h1
   left
   rw [y4a] at h
   split at h
   ·rename_i ht; exact ⟨x, _, by simp only [pv, h1]; rw [if_pos ht], hR.ev hx, h⟩
   ·rename_i ht; exact ⟨y, _, by simp only [pv, h1]; rw [if_neg ht], hR.ev hy, h⟩
  ·cases h
 ·split at h
  ·rename_i hx hy
   left
   obtain ⟨z, v, h1, h2, h3⟩ := ykk h (hR.ev hx) (hR.ev hy)
   exact ⟨z, v, h1, h2, h3⟩
  ·cases h
 ·split at h
  ·rename_i hx hy
   left
   obtain ⟨z, v, h1, h2, h3⟩ := y0z hD hR h (hR.ev hx) (hR.ev hy)
   exact ⟨z, v, h1, h2, h3⟩
  ·cases h
 ·split at h
  ·rename_i hx hy
   left
   obtain ⟨z, v, h1, h2, h3⟩ := yd9 hD h (hR.ev hx) (hR.ev hy)
   exact ⟨z, v, h1, h2, h3⟩
  ·cases h
 ·split at h
  ·rename_i hx hlo hhi
   obtain ⟨a1, a2⟩ := hR.oev hlo
   obtain ⟨b1, b2⟩ := hR.oev hhi
   exact yda h (hR.ev hx) a1 a2 b1 b2 σ.H
  ·cases h
 ·split at h
  ·rename_i v hv
   obtain ⟨u, h1, h2⟩ := ypu hD hR hv
   exact .inl ⟨v, u, h1, h2, h⟩
  ·exact .inr ⟨_, h⟩
  ·cases h
end
end Go.Ab


namespace Go.Ab
open Go
set_option linter.unusedVariables false
set_option linter.unusedSimpArgs false
set_option linter.unusedSectionVars false
section
variable {P : Program} {D : Dat} {F : Fr} {ρ : List Slot} {ts : TS D.T} {σ : St} {lv : Nat}
theorem OR.mono {L L' : List (Option yz4)} {sl : Slot} {o : TO D.T} (h : OR D ρ lv L sl o) (e : List Slot) (hL : ∀ i, sl.k = some i → o.live → L'[i]? = L[i]?) : OR D (ρ ++ e) lv L' sl o := by
 cases o with
 | cells cs =>
   simp only [OR] at h ⊢
   obtain ⟨i, vs, h1, h2, h3⟩ := h
   exact ⟨i, vs, h1, by rw [hL i h1 trivial]; exact h2, h3.more e⟩
 | acc ty t xs w =>
   simp only [OR] at h ⊢
   obtain ⟨h1, h2, h3⟩ := h
   refine ⟨h1, h2, ?_⟩
   cases hk : sl.k with
   | none => rw [hk] at h3; exact h3
   | some i =>
     rw [hk] at h3
     obtain ⟨ver, cp, k1, k2⟩ := h3
     exact ⟨ver, cp, k1, by rw [hL i hk trivial]; exact k2⟩
 | siter s pos =>
   simp only [OR] at h ⊢
   obtain ⟨i, h1, h2⟩ := h
   exact ⟨i, h1, by rw [hL i h1 trivial]; exact h2⟩
 | bld ty b =>
   simp only [OR] at h ⊢
   obtain ⟨i, a, c, h1, h2, h3, h4⟩ := h
   exact ⟨i, a, c, h1, by rw [hL i h1 trivial]; exact h2, h3, VR.more e h4⟩
 | gone => simp only [OR]
theorem OR.at {L : List (Option yz4)} {sl : Slot} {o : TO D.T} {i : Nat} (h : OR D ρ lv L sl o) (hl : o.live) (hk : sl.k = some i) : ∃ a, L[i]? = some (some a) := by
 cases o with
 | cells cs =>
   simp only [OR] at h
   obtain ⟨i', vs, h1, h2, h3⟩ := h
   rw [hk] at h1; injection h1 with h1; subst h1
   exact ⟨_, h2⟩
 | acc ty t xs w =>
   simp only [OR] at h
   obtain ⟨h1, h2, h3⟩ := h
   rw [hk] at h3
   obtain ⟨ver, cp, k1, k2⟩ := h3
   exact ⟨_, k2⟩
 | siter s pos =>
   simp only [OR] at h
   obtain ⟨i', h1, h2⟩ := h
   rw [hk] at h1; injection h1 with h1; subst h1
   exact ⟨_, h2⟩
 | bld ty b =>
   simp only [OR] at h
   obtain ⟨i', a, c, h1, h2, h3⟩ := h
   rw [hk] at h1; injection h1 with h1; subst h1
   exact ⟨_, h2⟩
 | gone => exact hl.elim
theorem OR.lt {L : List (Option yz4)} {sl : Slot} {o : TO D.T} {i : Nat} (h : OR D ρ lv L sl o) (hl : o.live) (hk : sl.k = some i) : i < L.length := by
 obtain ⟨a, ha⟩ := h.at hl hk
 exact (List.getElem?_eq_some_iff.1 ha).1
theorem TRr.new (hR : TRr D F ρ ts σ) (to : TO D.T) (sl : Slot) (H' : Heap) (hlv : H'.lv = F.lv) (hE : H'.E = F.E) (hlen : σ.H.L.length ≤ H'.L.length) (hL : ∀ i, i < σ.H.L.length → H'.L[i]? = σ.H.L[i]?)
  (hk : ∀ i, sl.k = some i → σ.H.L.length ≤ i) (hor : OR D (ρ ++ [sl]) F.lv H'.L sl to) : TRr D F (ρ ++ [sl]) (ts.new D to) { σ with H := H' } := by
 have hget : (ρ ++ [sl])[ts.nx]? = some sl := by rw [← hR.nx]; simp
 have old : ∀ s o sl', fnd ts.o s = some o → ρ[s]? = some sl' → ∀ i, sl'.k = some i → o.live → i < σ.H.L.length := fun s o sl' ho hs i hi hl => by
  obtain ⟨q, h1, h2⟩ := hR.ob s o ho
  rw [hs] at h1; injection h1 with h1; subst h1
  exact h2.lt hl hi
 have hlk : ∀ s o, ts.nx ≠ s → fnd (ts.new D to).o s = some o → fnd ts.o s = some o := fun s o hne h => by
  simp only [TS.new, kzg, if_neg hne] at h; exact h
 have hslot : ∀ s o sl', fnd ts.o s = some o → (ρ ++ [sl])[s]? = some sl' → ρ[s]? = some sl' := fun s o sl' ho h => by
  obtain ⟨q, h1, h2⟩ := hR.ob s o ho
  rw [lookup_append h1] at h; rw [h1, h]
 refine ⟨by simp [TS.new, hR.nx], hR.nt, fun j x hj => ?_, fun s o ho => ?_, fun s s' o o' sl1 sl2 i h1 h2 l1 l2 r1 r2 k1 k2 => ?_, fun s o sl1 i h1 l1 r1 k1 => ?_, hlv, hE, hR.e0, hR.d.more _, fun i hi => ?_, fun j sl hj => lookup_append (hR.pin j sl hj)⟩
 ·obtain ⟨v, h1, h2⟩ := hR.tm j x hj
  exact ⟨v, h1, h2.more _⟩
 ·by_cases hs : ts.nx = s
  ·subst hs
   simp only [TS.new, kzg, if_true, Option.some.injEq] at ho
   subst ho
   exact ⟨sl, hget, hor⟩
  ·obtain ⟨q, h1, h2⟩ := hR.ob s o (hlk s o hs ho)
   exact ⟨q, lookup_append h1, h2.mono _ fun i hi hl => hL i (h2.lt hl hi)⟩
 ·by_cases hs : ts.nx = s <;> by_cases hs' : ts.nx = s'
  ·rw [← hs, ← hs']
  ·subst hs
   rw [hget] at r1; injection r1 with r1; subst r1
   have hq := hlk s' o' hs' h2
   have := old s' o' sl2 hq (hslot s' o' sl2 hq r2) i k2 l2
   have := hk i k1
   omega
  ·subst hs'
   rw [hget] at r2; injection r2 with r2; subst r2
   have hq := hlk s o hs h1
   have := old s o sl1 hq (hslot s o sl1 hq r1) i k1 l1
   have := hk i k2
   omega
  ·have q1 := hlk s o hs h1
   have q2 := hlk s' o' hs' h2
   exact hR.inj s s' o o' sl1 sl2 i q1 q2 l1 l2 (hslot s o sl1 q1 r1) (hslot s' o' sl2 q2 r2) k1 k2
 ·by_cases hs : ts.nx = s
  ·subst hs
   rw [hget] at r1; injection r1 with r1; subst r1
   intro ho
   have := (hR.out i ho).1
   have := hk i k1
   omega
  ·have q1 := hlk s o hs h1
   exact hR.mine s o sl1 i q1 l1 (hslot s o sl1 q1 r1) k1
 ·obtain ⟨h1, h2⟩ := hR.out i hi
  exact ⟨Nat.lt_of_lt_of_le h1 hlen, (hL i h1).trans h2⟩
theorem TRr.upd (hR : TRr D F ρ ts σ) {s i : Nat} {o0 : TO D.T} {sl : Slot} (hs : fnd ts.o s = some o0) (hl : o0.live) (hr : ρ[s]? = some sl) (hk : sl.k = some i) (to : TO D.T) (ao : yz4)
  (hor : OR D ρ F.lv (σ.H.L.set i (some ao)) sl to) : TRr D F ρ (ts.set D s to) { σ with H := { σ.H with L := σ.H.L.set i (some ao) } } := by
 have hlk : ∀ s' o, s ≠ s' → fnd (ts.set D s to).o s' = some o → fnd ts.o s' = some o := fun s' o hne h => by
  simp only [TS.set, kzg, if_neg hne] at h; exact h
 have live' : ∀ s' o, fnd (ts.set D s to).o s' = some o → o.live → ∃ o', fnd ts.o s' = some o' ∧ o'.live := fun s' o h l => by
  by_cases he : s = s'
  ·subst he; exact ⟨o0, hs, hl⟩
  ·exact ⟨o, hlk s' o he h, l⟩
 refine ⟨hR.nx, hR.nt, hR.tm, fun s' o ho => ?_, fun s1 s2 o1 o2 sl1 sl2 i' h1 h2 l1 l2 r1 r2 k1 k2 => ?_, fun s1 o1 sl1 i1 h1 l1 r1 k1 => ?_, hR.lv, hR.E, hR.e0, hR.d, fun j hj => ?_, hR.pin⟩
 ·by_cases he : s = s'
  ·subst he
   simp only [TS.set, kzg, if_true, Option.some.injEq] at ho
   subst ho
   exact ⟨sl, hr, hor⟩
  ·have hq := hlk s' o he ho
   obtain ⟨q, h1, h2⟩ := hR.ob s' o hq
   refine ⟨q, h1, ?_⟩
   have := h2.mono (L' := σ.H.L.set i (some ao)) [] fun j hj hl' => ?_
   ·simpa using this
   ·have hne : i ≠ j := fun e => by
     subst e
     exact he (hR.inj s s' o0 o sl q i hs hq hl hl' hr h1 hk hj)
    rw [List.getElem?_set_ne hne]
 ·obtain ⟨o1', q1, l1'⟩ := live' s1 o1 h1 l1
  obtain ⟨o2', q2, l2'⟩ := live' s2 o2 h2 l2
  exact hR.inj s1 s2 o1' o2' sl1 sl2 i' q1 q2 l1' l2' r1 r2 k1 k2
 ·obtain ⟨o1', q1, l1'⟩ := live' s1 o1 h1 l1
  exact hR.mine s1 o1' sl1 i1 q1 l1' r1 k1
 ·obtain ⟨h1, h2⟩ := hR.out j hj
  refine ⟨by simpa using h1, ?_⟩
  have hne : i ≠ j := fun e => by subst e; exact hR.mine s o0 sl i hs hl hr hk hj
  show (σ.H.L.set i (some ao))[j]? = _
  rw [List.getElem?_set_ne hne]; exact h2
theorem TRr.move (hR : TRr D F ρ ts σ) {s i : Nat} {o0 : TO D.T} {sl : Slot} (hs : fnd ts.o s = some o0) (hl : o0.live) (hr : ρ[s]? = some sl) (hk : sl.k = some i) (to : TO D.T) (ao : yz4) (sl' : Slot) (hk' : sl'.k = some i)
  (hor : OR D (ρ ++ [sl']) F.lv (σ.H.L.set i (some ao)) sl' to) : TRr D F (ρ ++ [sl']) ((ts.new D to).set D s .gone) { σ with H := { σ.H with L := σ.H.L.set i (some ao) } } := by
 have hget : (ρ ++ [sl'])[ts.nx]? = some sl' := by rw [← hR.nx]; simp
 have hsn : s ≠ ts.nx := fun e => by
  have := (List.getElem?_eq_some_iff.1 hr).1
  rw [hR.nx, e] at this; omega
 have hlk : ∀ s' o, o.live → fnd ((ts.new D to).set D s .gone).o s' = some o → s ≠ s' ∧ ((ts.nx = s' ∧ o = to) ∨ (ts.nx ≠ s' ∧ fnd ts.o s' = some o)) := fun s' o hlo h => by
  by_cases he : s = s'
  ·subst he
   simp only [TS.set, kzg, if_true, Option.some.injEq] at h
   subst h; exact hlo.elim
  ·simp only [TS.set, TS.new, kzg, if_neg he] at h
   by_cases hn : ts.nx = s'
   ·rw [if_pos hn] at h; injection h with h; exact ⟨he, .inl ⟨hn, h.symm⟩⟩
   ·rw [if_neg hn] at h; exact ⟨he, .inr ⟨hn, h⟩⟩
 have hslot : ∀ s o sl1, fnd ts.o s = some o → (ρ ++ [sl'])[s]? = some sl1 → ρ[s]? = some sl1 := fun s o sl1 ho h => by
  obtain ⟨q, h1, h2⟩ := hR.ob s o ho
  rw [lookup_append h1] at h; rw [h1, h]
 refine ⟨by simp [TS.new, TS.set, hR.nx], hR.nt, fun j x hj => ?_, fun s' o ho => ?_, fun s1 s2 o1 o2 sl1 sl2 i' h1 h2 l1 l2 r1 r2 k1 k2 => ?_, fun s1 o1 sl1 i1 h1 l1 r1 k1 => ?_, hR.lv, hR.E, hR.e0, hR.d.more _, fun j hj => ?_, fun j sl hj => lookup_append (hR.pin j sl hj)⟩
 ·obtain ⟨v, h1, h2⟩ := hR.tm j x hj
  exact ⟨v, h1, h2.more _⟩
 ·by_cases hlo : o.live
  ·rcases (hlk s' o hlo ho).2 with ⟨hn, rfl⟩ | ⟨hn, hq⟩
   ·subst hn; exact ⟨sl', hget, hor⟩
   ·obtain ⟨q, h1, h2⟩ := hR.ob s' o hq
    refine ⟨q, lookup_append h1, h2.mono [sl'] fun j hj hl' => ?_⟩
    have hne : i ≠ j := fun e => by
     subst e
     exact (hlk s' o hlo ho).1 (hR.inj s s' o0 o sl q i hs hq hl hl' hr h1 hk hj)
    rw [List.getElem?_set_ne hne]
  ·have hg : o = .gone := by cases o <;> first | rfl | exact (hlo trivial).elim
   subst hg
   by_cases he : s = s'
   ·subst he; exact ⟨sl, lookup_append hr, by simp only [OR]⟩
   ·simp only [TS.set, TS.new, kzg, if_neg he] at ho
    by_cases hn : ts.nx = s'
    ·subst hn; exact ⟨sl', hget, by simp only [OR]⟩
    ·rw [if_neg hn] at ho
     obtain ⟨q, h1, h2⟩ := hR.ob s' _ ho
     exact ⟨q, lookup_append h1, by simp only [OR]⟩
 ·obtain ⟨n1, c1⟩ := hlk s1 o1 l1 h1
  obtain ⟨n2, c2⟩ := hlk s2 o2 l2 h2
  rcases c1 with ⟨e1, rfl⟩ | ⟨e1, q1⟩ <;> rcases c2 with ⟨e2, rfl⟩ | ⟨e2, q2⟩
  ·rw [← e1, ← e2]
  ·subst e1
   rw [hget] at r1; injection r1 with r1; subst r1
   rw [hk'] at k1; injection k1 with k1; subst k1
   exact (n2 (hR.inj s s2 o0 o2 sl sl2 i hs q2 hl l2 hr (hslot _ _ _ q2 r2) hk k2)).elim
  ·subst e2
   rw [hget] at r2; injection r2 with r2; subst r2
   rw [hk'] at k2; injection k2 with k2; subst k2
   exact (n1 (hR.inj s s1 o0 o1 sl sl1 i hs q1 hl l1 hr (hslot _ _ _ q1 r1) hk k1)).elim
  ·exact hR.inj s1 s2 o1 o2 sl1 sl2 i' q1 q2 l1 l2 (hslot _ _ _ q1 r1) (hslot _ _ _ q2 r2) k1 k2
 ·obtain ⟨n1, c1⟩ := hlk s1 o1 l1 h1
  rcases c1 with ⟨e1, rfl⟩ | ⟨e1, q1⟩
  ·subst e1
   rw [hget] at r1; injection r1 with r1; subst r1
   rw [hk'] at k1; injection k1 with k1; subst k1
   exact hR.mine s o0 sl i hs hl hr hk
  ·exact hR.mine s1 o1 sl1 i1 q1 l1 (hslot _ _ _ q1 r1) k1
 ·obtain ⟨h1, h2⟩ := hR.out j hj
  refine ⟨by simpa using h1, ?_⟩
  have hne : i ≠ j := fun e => by subst e; exact hR.mine s o0 sl i hs hl hr hk hj
  show (σ.H.L.set i (some ao))[j]? = _
  rw [List.getElem?_set_ne hne]; exact h2
theorem TRr.drop (hR : TRr D F ρ ts σ) (s : Nat) (hs : s < ts.nx) : TRr D F ρ (ts.set D s .gone) σ := by
 have hlk : ∀ s' o, o.live → fnd (ts.set D s .gone).o s' = some o → fnd ts.o s' = some o := fun s' o hl h => by
  simp only [TS.set, kzg] at h
  split at h
  ·injection h with h; subst h; exact hl.elim
  ·exact h
 refine ⟨hR.nx, hR.nt, hR.tm, fun s' o ho => ?_, fun s1 s2 o1 o2 sl1 sl2 i' h1 h2 l1 l2 => hR.inj s1 s2 o1 o2 sl1 sl2 i' (hlk _ _ l1 h1) (hlk _ _ l2 h2) l1 l2, fun s1 o1 sl1 i1 h1 l1 => hR.mine s1 o1 sl1 i1 (hlk _ _ l1 h1) l1, hR.lv, hR.E, hR.e0, hR.d, hR.out, hR.pin⟩
 simp only [TS.set, kzg] at ho
 split at ho
 ·rename_i he
  injection ho with ho; subst ho; subst he
  have : s < ρ.length := by rw [hR.nx]; exact hs
  exact ⟨ρ[s], List.getElem?_eq_getElem this, by simp only [OR]⟩
 ·exact hR.ob s' o ho
mutual
theorem VR.ren {s s' : Nat} {sl sl' : Slot} (h1 : ρ[s]? = some sl) (h2 : ρ[s']? = some sl') (he : sl'.v = sl.v) : ∀ {x : TV D.T} {v : V}, VR D ρ lv x v → VR D ρ lv (TV.ren D s s' x) v
 | .own j, v, h => by
   simp only [TV.ren]
   split
   · rename_i hj
     subst hj
     simp only [VR] at h ⊢
     obtain ⟨q, k1, k2, k3⟩ := h
     rw [h1] at k1; injection k1 with k1; subst k1
     exact ⟨sl', h2, by rw [he]; exact k2, k3⟩
   · exact h
 | .agg cs, v, h => by simp only [TV.ren, VR] at h ⊢; obtain ⟨vs, k1, k2⟩ := h; exact ⟨vs, k1, VRL.ren h1 h2 he k2⟩
 | .tup cs, v, h => by simp only [TV.ren, VR] at h ⊢; obtain ⟨vs, k1, k2⟩ := h; exact ⟨vs, k1, VRL.ren h1 h2 he k2⟩
 | .any, v, h => by simpa only [TV.ren] using h
 | .bool b, v, h => by simpa only [TV.ren] using h
 | .int k n, v, h => by simpa only [TV.ren] using h
 | .str b, v, h => by simpa only [TV.ren] using h
 | .nilp, v, h => by simpa only [TV.ren] using h
 | .nils, v, h => by simpa only [TV.ren] using h
 | .mapn, v, h => by simpa only [TV.ren] using h
 | .nilf, v, h => by simpa only [TV.ren] using h
 | .nili, v, h => by simpa only [TV.ren] using h
 | .sl t xs fl, v, h => by simpa only [TV.ren] using h
 | .ptr j off, v, h => by simpa only [TV.ren] using h
 | .bp j off, v, h => by simpa only [TV.ren] using h
 | .osl j lo, v, h => by simpa only [TV.ren] using h
 | .map j, v, h => by simpa only [TV.ren] using h
 | .ref cs off, v, h => by simpa only [TV.ren] using h
 | .ap j t i x off, v, h => by simpa only [TV.ren] using h
 | .fn f a b, v, h => by simpa only [TV.ren] using h
 | .iface t x, v, h => by simpa only [TV.ren] using h
theorem VRL.ren {s s' : Nat} {sl sl' : Slot} (h1 : ρ[s]? = some sl) (h2 : ρ[s']? = some sl') (he : sl'.v = sl.v) : ∀ {cs : List (TV D.T)} {vs : List V}, VRL D ρ lv cs vs → VRL D ρ lv (TV.zuw D s s' cs) vs
 | [], vs, h => by simpa only [TV.zuw] using h
 | c :: cs, vs, h => by simp only [TV.zuw, VRL] at h ⊢; obtain ⟨v, r, k1, k2, k3⟩ := h; exact ⟨v, r, k1, VR.ren h1 h2 he k2, VRL.ren h1 h2 he k3⟩
end
theorem TRr.zr6 (hR : TRr D F ρ ts σ) (f : TV D.T → TV D.T) (hf : ∀ x v, VR D ρ F.lv x v → VR D ρ F.lv (f x) v) : TRr D F ρ (ts.zr6 D f) σ := by
 have hlive : ∀ o : TO D.T, (TO.map D f o).live → o.live := fun o h => by cases o <;> first | exact h | trivial
 have hob : ∀ s o, fnd (ts.zr6 D f).o s = some o → ∃ o', fnd ts.o s = some o' ∧ o = TO.map D f o' := fun s o h => by
  simp only [TS.zr6] at h
  rw [zth (TO.map D f), Option.map_eq_some_iff] at h
  obtain ⟨o', h1, h2⟩ := h
  exact ⟨o', h1, h2.symm⟩
 refine ⟨hR.nx, hR.nt, fun j x hj => ?_, fun s o ho => ?_, fun s1 s2 o1 o2 sl1 sl2 i h1 h2 l1 l2 => ?_, fun s1 o1 sl1 i h1 l1 => ?_, hR.lv, hR.E, hR.e0, hR.d.imp _ (fun xs vs k => VRL.of (by simp [k.length]) fun j c v hc hv => by
  rw [List.getElem?_map, Option.map_eq_some_iff] at hc
  obtain ⟨c0, hc0, rfl⟩ := hc
  exact hf _ _ (k.ybi hc0 hv)), hR.out, hR.pin⟩
 ·simp only [TS.zr6] at hj
  rw [zth f, Option.map_eq_some_iff] at hj
  obtain ⟨y, hy, rfl⟩ := hj
  obtain ⟨v, h1, h2⟩ := hR.tm j y hy
  exact ⟨v, h1, hf _ _ h2⟩
 ·obtain ⟨o', h1, rfl⟩ := hob s o ho
  obtain ⟨sl, k1, k2⟩ := hR.ob s o' h1
  refine ⟨sl, k1, ?_⟩
  cases o' with
  | cells cs =>
    simp only [TO.map, OR] at k2 ⊢
    obtain ⟨i, vs, q1, q2, q3⟩ := k2
    refine ⟨i, vs, q1, q2, .of (by simp [q3.length]) fun j c v hc hv => ?_⟩
    rw [List.getElem?_map, Option.map_eq_some_iff] at hc
    obtain ⟨c', hc', rfl⟩ := hc
    exact hf _ _ (q3.ybi hc' hv)
  | acc ty t xs w => exact k2
  | siter s pos => exact k2
  | bld ty b =>
    cases b with
    | none => exact k2
    | some q =>
      simp only [OR] at k2
      obtain ⟨i, a, c, q1, q2, q3, q4⟩ := k2
      have h5 : VR D ρ F.lv (f (.own q)) c := hf _ _ q4
      simp only [TO.map]
      split
      · rename_i s' hs'
        rw [hs'] at h5
        simp only [OR]
        exact ⟨i, a, c, q1, q2, q3, h5⟩
      · simp only [OR]
  | gone => exact k2
 ·obtain ⟨o1', q1, rfl⟩ := hob s1 o1 h1
  obtain ⟨o2', q2, rfl⟩ := hob s2 o2 h2
  exact hR.inj s1 s2 o1' o2' sl1 sl2 i q1 q2 (hlive _ l1) (hlive _ l2)
 ·obtain ⟨o1', q1, rfl⟩ := hob s1 o1 h1
  exact hR.mine s1 o1' sl1 i q1 (hlive _ l1)
theorem TRr.put (hR : TRr D F ρ ts σ) {dst : Option Nat} {x : TV D.T} {v : V} {ts' : TS D.T} (h : ts.put D dst x = some ts') (hx : VR D ρ F.lv x v) : TRr D F ρ ts' (σ.put dst v) := by
 cases dst with
 | none => simp only [TS.put, Option.some.injEq] at h; subst h; exact hR
 | some d =>
   simp only [TS.put] at h
   split at h
   · rename_i hd
     injection h with h; subst h
     refine ⟨hR.nx, by simp [St.put, hR.nt], fun j y hj => ?_, hR.ob, hR.inj, hR.mine, hR.lv, hR.E, hR.e0, hR.d, hR.out, hR.pin⟩
     rw [kzg] at hj
     simp only [St.put]
     split at hj
     · rename_i he
       injection hj with hj; subst hj; subst he
       exact ⟨v, by rw [List.getElem?_set_self (by rw [hR.nt]; exact hd)], hx⟩
     · rename_i he
       obtain ⟨u, h1, h2⟩ := hR.tm j y hj
       exact ⟨u, by rw [List.getElem?_set_ne he]; exact h1, h2⟩
   · cases h
theorem TRr.tell (hR : TRr D F ρ ts σ) {d : Nat} {x : TV D.T} {v : V} (h : σ.t[d]? = some v) (hx : VR D ρ F.lv x v) : TRr D F ρ { ts with t := (d, x) :: ts.t } σ := by
 refine ⟨hR.nx, hR.nt, fun j y hj => ?_, hR.ob, hR.inj, hR.mine, hR.lv, hR.E, hR.e0, hR.d, hR.out, hR.pin⟩
 rw [kzg] at hj
 split at hj
 ·rename_i he; injection hj with hj; subst hj; subst he; exact ⟨v, h, hx⟩
 ·exact hR.tm j y hj
end
end Go.Ab


namespace Go.Ab
open Go
set_option linter.unusedVariables false
set_option linter.unusedSimpArgs false
set_option linter.unusedSectionVars false
section
variable {P : Program} {D : Dat} {F : Fr} {ρ : List Slot} {ts : TS D.T} {σ : St} {lv : Nat}
theorem yru {H : Heap} {f : Operand → V} {op : Op} {v : V} (h : pv P H f op = some v) : ox P H f op = some (v, H) := by
 cases op
 case call c =>
  simp only [pv] at h
  unfold ox
  simp only
  split
  ·rename_i hcal; simp [z9u, hcal] at h
  ·rename_i hcal; simp [z9u, hcal] at h
  ·rw [h]; rfl
 all_goals first
  | (unfold ox; simp only [h, Option.map_some]; done)
  | (simp [pv] at h; done)
theorem zsd (H : Heap) (hlv : H.lv = F.lv) (hE : H.E = F.E) : H = ⟨F.lv, H.L, F.E⟩ := by cases H; simp only at hlv hE; subst hlv; subst hE; rfl
theorem TRr.ycu (hR : TRr D F ρ ts σ) (i : Nat) (o : yz4) : σ.H.set F.lv i o = { σ.H with L := σ.H.L.set i (some o) } := by
 unfold Heap.set; rw [if_pos hR.lv.symm]
variable (hD : D.Ok P)
include hD
theorem TRr.y56 (hR : TRr D F ρ ts σ) {cs : List (TV D.T)} {vs : List V} (h : VRL D ρ F.lv cs vs) :
  TRr D F (ρ ++ [⟨.any, some σ.H.L.length, []⟩]) (ts.new D (.cells cs)) { σ with H := σ.H.push (.cells vs) } ∧ VR D (ρ ++ [⟨.any, some σ.H.L.length, []⟩]) F.lv (.ptr ts.nx 0) (.ptr σ.H.lv σ.H.L.length 0) := by
 refine ⟨hR.new _ _ _ hR.lv hR.E (by simp [Heap.push]) (fun i hi => by simp only [Heap.push]; rw [List.getElem?_append_left hi]) (fun i hi => by injection hi with hi; omega) ?_, ?_⟩
 ·simp only [OR]
  exact ⟨σ.H.L.length, vs, rfl, by simp [Heap.push], h.more _⟩
 ·simp only [VR]
  exact ⟨⟨.any, some σ.H.L.length, []⟩, σ.H.L.length, by rw [← hR.nx]; simp, rfl, by rw [hR.lv]⟩
omit hD in
theorem DR.one {t : DTy} {x : t.S D.T} {v : V} (h : DR D t x v) (ht : ∀ i, t ≠ .st i) (hn : t ≠ .nat) : v.cells = [v] ∧ v.leaf = true ∧ (∀ c, z8r v [c] = c) ∧ ∀ c : V, c.leaf = true → fits v [c] = true := by
 cases h with
 | st => exact (ht _ rfl).elim
 | enc => exact (ht _ rfl).elim
 | nat => exact (hn rfl).elim
 | _ => exact ⟨rfl, rfl, fun _ => rfl, fun c hc => hc⟩
theorem DR.z8r {t : DTy} {y z : t.S D.T} {w vx : V} {x : TV D.T} {off : Nat} (hw : DR D t y w) (hx : VR D ρ lv x vx) (hsol : x.yzv = true) (hoff : off + x.cells.length ≤ (D.tv t y).cells.length)
  (hz : asD D t (match D.tv t y with | .agg cs' => .agg (zqc cs' off x.cells) | _ => x) = .ok z) (ht : t ≠ .nat) :
  DR D t z (Go.Ab.z8r w (z3n w.cells off vx.cells)) ∧ fits w (z3n w.cells off vx.cells) = true ∧ off + vx.cells.length ≤ w.cells.length := by
 have hc := VR.yfa (ρ := ρ) (lv := lv) hD hw
 have hxc := hx.cells hsol
 have hlen := hxc.length
 have hlen2 := hc.length
 refine ⟨?_, ?_, by omega⟩
 all_goals
  by_cases hst : ∃ i, t = .st i
  ·obtain ⟨i, rfl⟩ := hst
   obtain ⟨us, rfl, k1, k2⟩ := DR.agg hD hw
   first
    | rfl
    | (simp only [Dat.tv] at hz
       refine ztn (ρ := ρ) (lv := lv) hD hz ?_
       simp only [Go.Ab.z8r, VR]
       exact ⟨_, rfl, VRL.z3n (by simpa [Dat.tv, TV.cells, V.cells] using hc) hxc off⟩)
  ·have hne : ∀ i, t ≠ .st i := fun i e => hst ⟨i, e⟩
   have hnagg : (match D.tv t y with | .agg cs' => TV.agg (zqc cs' off x.cells) | _ => x) = x := by
    cases t with
    | st i => exact (hne i rfl).elim
    | _ => rfl
   rw [hnagg] at hz
   have hd := ztn hD hz hx
   obtain ⟨a1, a2, a3, a4⟩ := hw.one hne ht
   obtain ⟨b1, b2, b3, b4⟩ := hd.one hne ht
   have l1 : w.cells.length = 1 := by rw [a1]; rfl
   have l2 : vx.cells.length = 1 := by rw [b1]; rfl
   have hoff0 : off = 0 := by omega
   subst hoff0
   rw [a1, b1]
   have : z3n [w] 0 [vx] = [vx] := rfl
   rw [this]
   first
    | (rw [a3]; exact hd)
    | exact a4 _ b2
theorem ygj {R : Type} (hR : TRr D F ρ ts σ) {t : Nat} {a x : TV D.T} {va vx : V} {k : TV D.T → TS D.T → Option R} {kf : Nat → Option R} {r : R} (h : y6f P D ts t a x k kf = some r) (ha : VR D ρ F.lv a va) (hx : VR D ρ F.lv x vx) :
  (∃ z ts' v H' ρ', zh2 P σ.H t va vx = some (v, H') ∧ VR D ρ' F.lv z v ∧ TRr D F ρ' ts' { σ with H := H' } ∧ k z ts' = some r) ∨ ∃ s, kf s = some r := by
 unfold y6f at h
 split at h
 ·rename_i hc
  simp only [Bool.and_eq_true, beq_iff_eq] at hc
  obtain ⟨⟨c1, c2⟩, c3⟩ := hc
  have hcells := hx.cells c1
  have hcond : (vx.yzv && (P.info? t).isSome && vx.cells.length == P.cellsOf t) = true := by
   simp only [Bool.and_eq_true, beq_iff_eq]; exact ⟨⟨hx.yzv c1, c2⟩, by rw [← hcells.length]; exact c3⟩
  split at h
  ·rename_i s off
   simp only [VR] at ha
   obtain ⟨sl, i, h1, h2, rfl⟩ := ha
   split at h
   ·rename_i cs ho
    split at h
    ·rename_i hoff
     left
     obtain ⟨sl', k1, k2⟩ := hR.ob s _ ho
     rw [h1] at k1; injection k1 with k1; subst k1
     simp only [OR] at k2
     obtain ⟨i', vs, q1, q2, q3⟩ := k2
     rw [h2] at q1; injection q1 with q1; subst q1
     have hlt := (List.getElem?_eq_some_iff.1 q2).1
     refine ⟨.any, _, .any, σ.H.set F.lv i (.cells (z3n vs off vx.cells)), ρ, ?_, by simp only [VR], ?_, h⟩
     ·unfold zh2
      rw [if_pos hcond]
      simp only [hR.get q2]
      rw [if_pos (by rw [← hcells.length, ← q3.length]; exact hoff)]
     ·rw [hR.ycu]
      exact hR.upd ho trivial h1 h2 _ _ (by simp only [OR]; exact ⟨i, _, h2, by simp [hlt], q3.z3n hcells off⟩)
    ·cases h
   ·cases h
  ·rename_i s τ i y off
   simp only [VR] at ha
   obtain ⟨sl, w, h1, h2, h3, h4, h5⟩ := ha
   split at h
   ·rename_i ty τ' xs ho
    split at h
    ·rename_i hoff
     obtain ⟨sl', k1, k2⟩ := hR.ob s _ ho
     rw [h1] at k1; injection k1 with k1; subst k1
     simp only [OR] at k2
     obtain ⟨q1, q2, q3⟩ := k2
     obtain ⟨rfl, hnat, hoff⟩ := hoff
     split at h
     ·rename_i z hz
      left
      obtain ⟨d1, d2, d3⟩ := DR.z8r hD h4 hx c1 hoff hz hnat
      cases hk : sl.k with
      | none =>
        rw [hk] at q3
        rcases q3 with ⟨e1, e2⟩ | ⟨e1, e2⟩
        · rw [e2] at h3; simp at h3
        · rw [e2 trivial] at h3; simp at h3
      | some j =>
        rw [hk] at q3 h5
        obtain ⟨ver, cp, e1, e2⟩ := q3
        obtain ⟨ver', n, e3, rfl⟩ := h5
        rw [e1] at e3; injection e3 with _ _ e3 _ e4; subst e3; subst e4
        have hlt := (List.getElem?_eq_some_iff.1 e2).1
        have hit := (List.getElem?_eq_some_iff.1 h3).1
        let ws' := sl.ws.set i.toNat (Go.Ab.z8r w (z3n w.cells off vx.cells))
        let sl' : Slot := ⟨sl.v, some j, ws'⟩
        have hor : OR D (ρ ++ [sl']) F.lv (σ.H.L.set j (some (.arr ver ty (D.len τ) ws' cp))) sl' (.acc ty τ (xs.set i.toNat z) true) := by
          simp only [OR]
          refine ⟨by simp [sl', ws', q1], fun a x' v' ha hv' => ?_, ver, cp, by simp [sl', ws', e1], by simp [sl', hlt]⟩
          simp only [sl', ws'] at hv'
          by_cases hia : i.toNat = a
          · subst hia
            rw [List.getElem?_set_self (by rw [← q1]; exact hit)] at ha
            rw [List.getElem?_set_self hit] at hv'
            injection ha with ha; injection hv' with hv'; subst ha; subst hv'
            exact d1
          · rw [List.getElem?_set_ne hia] at ha hv'
            exact q2 a x' v' ha hv'
        have hm := hR.move ho trivial h1 hk (.acc ty τ (xs.set i.toNat z) true) (.arr ver ty (D.len τ) ws' cp) sl' rfl hor
        refine ⟨.any, _, .any, σ.H.set F.lv j (.arr ver ty (D.len τ) ws' cp), ρ ++ [sl'], ?_, by simp only [VR], ?_, h⟩
        · unfold zh2
          rw [if_pos hcond]
          simp only [hR.get e2, if_true, h3]
          rw [if_pos ⟨d3, d2⟩]
        · rw [hR.ycu]
          have := hm.zr6 (TV.ren D s ts.nx) fun x v hxv => VR.ren (lookup_append h1) (sl' := sl') (by rw [← hR.nx]; simp) rfl hxv
          exact this
     ·exact .inr ⟨_, h⟩
     ·cases h
    ·cases h
   ·cases h
  ·rename_i s
   simp only [VR] at ha
   obtain ⟨sl, i, h1, h2, rfl⟩ := ha
   split at h
   ·rename_i ty b q ho
    left
    obtain ⟨sl', k1, k2⟩ := hR.ob s _ ho
    rw [h1] at k1; injection k1 with k1; subst k1
    simp only [OR] at k2
    obtain ⟨i', u, c, q1, q2, q3, q4⟩ := k2
    rw [h2] at q1; injection q1 with q1; subst q1
    have hlt := (List.getElem?_eq_some_iff.1 q2).1
    have hxl : vx.cells = [vx] := by
     have h3 := hx
     simp only [VR] at h3
     obtain ⟨_, _, _, h4⟩ := h3
     cases vx <;> first | rfl | (simp [V.leaf] at h4)
    refine ⟨.any, _, .any, σ.H.set F.lv i (.arr 0 ty 2 [.agg [u, vx]] (some 1)), ρ, ?_, by simp only [VR], ?_, h⟩
    ·unfold zh2
     rw [if_pos hcond]
     simp only [hR.get q2, if_true, List.getElem?_cons_zero]
     rw [if_pos (by rw [hxl]; exact ⟨by simp [V.cells], rfl⟩), hxl]
     rfl
    ·rw [hR.ycu]
     exact hR.upd ho trivial h1 h2 _ _ (by simp only [OR]; exact ⟨i, u, vx, h2, by simp [hlt], q3, hx⟩)
   ·cases h
  ·cases h
 ·cases h
def DRL (D : Dat) (t : DTy) (xs : List (t.S D.T)) (ws : List V) : Prop := ws.length = xs.length ∧ ∀ (j : Nat) (x : t.S D.T) (w : V), xs[j]? = some x → ws[j]? = some w → DR D t x w
omit hD in
theorem DRL.append {t : DTy} {xs ys : List (t.S D.T)} {ws us : List V} (h : DRL D t xs ws) (k : DRL D t ys us) : DRL D t (xs ++ ys) (ws ++ us) := by
 refine ⟨by simp [h.1, k.1], fun j x w hx hw => ?_⟩
 rw [List.getElem?_append] at hx hw
 rw [h.1] at hw
 split at hx
 ·rw [if_pos ‹_›] at hw; exact h.2 j x w hx hw
 ·rw [if_neg ‹_›] at hw; exact k.2 _ x w hx hw
omit hD in
theorem DRL.nil (t : DTy) : DRL D t ([] : List (t.S D.T)) [] := ⟨rfl, fun j x w hx => by simp at hx⟩
omit hD in
theorem yni (hR : TRr D F ρ ts σ) {τ : DTy} {x : TV D.T} {vx : V} {ys : List (τ.S D.T)} (h : tSrc D ts τ x = some ys) (hx : VR D ρ F.lv x vx) : ∃ us, zgr σ.H (D.len τ) vx = some us ∧ DRL D τ ys us := by
 unfold tSrc at h
 split at h
 ·injection h with h; subst h
  simp only [VR] at hx; subst hx
  exact ⟨[], rfl, DRL.nil _⟩
 ·rename_i t xs fl
  obtain ⟨rfl, rfl⟩ := zbg h
  simp only [VR] at hx
  obtain ⟨hx, _⟩ := hx
  cases hx with
  | nil => exact ⟨[], rfl, DRL.nil _⟩
  | sl _ _ ws full hl hh => exact ⟨ws, by simp [zgr, z98], hl, hh⟩
 ·rename_i s
  split at h
  ·rename_i ty t xs w ho
   obtain ⟨rfl, rfl⟩ := zbg h
   simp only [VR] at hx
   obtain ⟨sl, h1, rfl, hleaf⟩ := hx
   obtain ⟨sl', k1, k2⟩ := hR.ob s _ ho
   rw [h1] at k1; injection k1 with k1; subst k1
   simp only [OR] at k2
   obtain ⟨q1, q2, q3⟩ := k2
   refine ⟨sl.ws, ?_, q1, q2⟩
   cases hk : sl.k with
   | none =>
     rw [hk] at q3
     rcases q3 with ⟨e1, e2⟩ | ⟨e1, e2⟩
     · rw [e1, e2]; rfl
     · rw [e1.1]; simp [zgr, z98]
   | some j =>
     rw [hk] at q3
     obtain ⟨ver, cp, e1, e2⟩ := q3
     rw [e1]
     simp [zgr, z98, hR.get e2]
  ·cases h
 ·rename_i s
  split at h
  ·injection h with h; subst h
   simp only [VR] at hx; subst hx
   refine ⟨s.map fun b => .int .u8 b.toNat, by simp [zgr, Dat.len], ?_, fun j x w hx hw => ?_⟩
   ·rw [List.length_map]
    show s.length = (yza s).length
    rw [yza, List.length_map]
   ·replace hx : (s.map fun b => ((b.toNat : Nat) : Int))[j]? = some x := hx
    rw [List.getElem?_map] at hx hw
    cases hb : s[j]? with
    | none => rw [hb] at hx; cases hx
    | some b =>
      rw [hb] at hx hw
      injection hx with hx; injection hw with hw
      subst hx; subst hw
      exact .int .u8 _
  ·cases h
 ·cases h
omit hD in
theorem zk7 (hR : TRr D F ρ ts σ) {τ : DTy} {e : Nat} {v : V} {xs ys : List (τ.S D.T)} {ws us : List V} {w : Bool} (hx : DRL D τ xs ws) (hy : DRL D τ ys us) (hroom : xs.length + ys.length ≤ zc3)
  (hv : (v = .nils ∧ ws = []) ∨ ((v = .sl (D.len τ) ws true ∧ τ ≠ .int .u8) ∧ (w = true → ws = []))) :
  ∃ v' H' sl', z7d σ.H e (D.len τ) v us = some (v', H') ∧ v'.leaf = true ∧ sl'.v = v' ∧ TRr D F (ρ ++ [sl']) (ts.new D (.acc e τ (xs ++ ys) w)) { σ with H := H' } := by
 have hxy := hx.append hy
 cases us with
 | nil =>
   have hy0 : ys = [] := List.eq_nil_of_length_eq_zero (by rw [← hy.1]; rfl)
   subst hy0
   refine ⟨v, σ.H, ⟨v, none, ws⟩, ?_, ?_, rfl, ?_⟩
   · rcases hv with ⟨rfl, _⟩ | ⟨⟨rfl, _⟩, _⟩ <;> simp [z7d]
   · rcases hv with ⟨rfl, _⟩ | ⟨⟨rfl, _⟩, _⟩ <;> rfl
   · have := hR.new (.acc e τ (xs ++ []) w) ⟨v, none, ws⟩ σ.H hR.lv hR.E (Nat.le_refl _) (fun _ _ => rfl) (by simp) (by simp only [OR, List.append_nil]; exact ⟨hx.1, hx.2, hv⟩)
     exact this
 | cons y r =>
   have hlen : ws.length + (y :: r).length ≤ zc3 := by rw [hx.1, hy.1]; exact hroom
   refine ⟨.hs F.lv σ.H.L.length 0 0 (ws ++ y :: r).length false, σ.H.push (.arr 0 e (D.len τ) (ws ++ y :: r) none), ⟨.hs F.lv σ.H.L.length 0 0 (ws ++ y :: r).length false, some σ.H.L.length, ws ++ y :: r⟩, ?_, rfl, rfl, ?_⟩
   · rcases hv with ⟨rfl, rfl⟩ | ⟨⟨rfl, _⟩, _⟩
     · simp only [z7d]; rw [if_pos (by simpa using hlen)]; simp [hR.lv]
     · simp only [z7d, if_true]; rw [if_pos (by simpa using hlen)]; simp [hR.lv]
   · exact hR.new _ _ _ hR.lv hR.E (by simp [Heap.push]) (fun i hi => by simp only [Heap.push]; rw [List.getElem?_append_left hi]) (fun i hi => by injection hi with hi; omega)
       (by simp only [OR]; exact ⟨hxy.1, hxy.2, 0, none, rfl, by simp [Heap.push]⟩)
omit hD in
theorem y9o {R : Type} (hR : TRr D F ρ ts σ) {t u : Nat} {s x : TV D.T} {vs vx : V} {k : TV D.T → TS D.T → Option R} {r : R} (h : yff P D ts t u s x k = some r) (hs : VR D ρ F.lv s vs) (hx : VR D ρ F.lv x vx) :
  ∃ z ts' v H' ρ', hAppend P σ.H t u vs vx = some (v, H') ∧ VR D ρ' F.lv z v ∧ TRr D F ρ' ts' { σ with H := H' } ∧ k z ts' = some r := by
 unfold yff at h
 split at h
 ·rename_i e du hu hdu
  split at h
  ·rename_i i τ hi hτ
   split at h
   ·rename_i z hz
    split at h
    ·rename_i hc
     simp only [Bool.and_eq_true, beq_iff_eq, decide_eq_true_eq] at hc
     obtain ⟨⟨⟨⟨c1, c2⟩, c3⟩, c4⟩, c5⟩ := hc
     split at h
     ·rename_i ys xs w old hys hdst
      obtain ⟨zs, hzs, h⟩ := zbw h
      obtain ⟨hroom, rfl⟩ := yk7 hzs
      obtain ⟨us, hus, hyu⟩ := yni hR hys hx
      have happ : ∀ v' H', z7d σ.H e (D.len τ) vs us = some (v', H') → hAppend P σ.H t u vs vx = some (v', H') := fun v' H' ha => by
       unfold hAppend
       rw [hu, hdu]
       simp only [hi, hz]
       rw [← c5, hus]
       simp only
       rw [if_pos (by simp only [Bool.and_eq_true, beq_iff_eq, decide_eq_true_eq]; exact ⟨⟨⟨c1, by omega⟩, c3⟩, by omega⟩)]
       exact ha
      have own : ∀ (sl' : Slot) (v' : V), sl'.v = v' → v'.leaf = true → VR D (ρ ++ [sl']) F.lv (.own ts.nx) v' := fun sl' v' h1 h2 => by
       simp only [VR]
       exact ⟨sl', by rw [← hR.nx]; simp, h1.symm, h2⟩
      unfold tDst at hdst
      split at hdst
      ·simp only [Option.some.injEq, Prod.mk.injEq] at hdst
       obtain ⟨rfl, rfl, rfl⟩ := hdst
       simp only [VR] at hs
       subst hs
       obtain ⟨v', H', sl', a1, a2, a3, a4⟩ := zk7 (e := e) hR (w := true) (DRL.nil τ) hyu hroom (.inl ⟨rfl, rfl⟩)
       exact ⟨_, _, v', H', _, happ _ _ a1, own sl' v' a3 a2, a4, h⟩
      ·by_cases hu8 : τ = .int .u8
       ·rw [if_pos hu8] at hdst; cases hdst
       rw [if_neg hu8, Option.map_eq_some_iff] at hdst
       obtain ⟨xs', hl, hdst⟩ := hdst
       simp only [Prod.mk.injEq] at hdst
       obtain ⟨rfl, rfl, rfl⟩ := hdst
       obtain ⟨rfl, rfl⟩ := zbg hl
       simp only [VR] at hs
       obtain ⟨hs, hf, _⟩ := hs
       obtain ⟨ws, rfl⟩ := hf (by omega)
       cases hs with
       | sl _ _ _ _ hl hh =>
         obtain ⟨v', H', sl', a1, a2, a3, a4⟩ := zk7 (e := e) hR (w := false) ⟨hl, hh⟩ hyu hroom (.inr ⟨⟨rfl, hu8⟩, by simp⟩)
         exact ⟨_, _, v', H', _, happ _ _ a1, own sl' v' a3 a2, a4, h⟩
      ·by_cases hu8 : τ = .int .u8
       ·rw [if_pos hu8] at hdst; cases hdst
       rw [if_neg hu8, Option.map_eq_some_iff] at hdst
       obtain ⟨xs', hl, hdst⟩ := hdst
       simp only [Prod.mk.injEq] at hdst
       obtain ⟨rfl, rfl, rfl⟩ := hdst
       obtain ⟨rfl, rfl⟩ := zbg hl
       simp only [VR] at hs
       obtain ⟨hs, hf, hf2⟩ := hs
       obtain ⟨ws, rfl⟩ := hf (by omega)
       have hx0 := hf2 trivial
       cases hs with
       | sl _ _ _ _ hl hh =>
         obtain ⟨v', H', sl', a1, a2, a3, a4⟩ := zk7 (e := e) hR (w := true) ⟨hl, hh⟩ hyu hroom (.inr ⟨⟨rfl, hu8⟩, fun _ => List.eq_nil_of_length_eq_zero (by rw [hl, hx0]; rfl)⟩)
         exact ⟨_, _, v', H', _, happ _ _ a1, own sl' v' a3 a2, a4, h⟩
      ·rename_i s
       split at hdst
       ·rename_i e' t' xs' w' ho
        split at hdst
        ·rename_i he
         subst he
         rw [Option.map_eq_some_iff] at hdst
         obtain ⟨xs'', hl, hdst⟩ := hdst
         simp only [Prod.mk.injEq] at hdst
         obtain ⟨rfl, rfl, rfl⟩ := hdst
         obtain ⟨rfl, rfl⟩ := zbg hl
         simp only [VR] at hs
         obtain ⟨sl, h1, rfl, hleaf⟩ := hs
         obtain ⟨sl', k1, k2⟩ := hR.ob s _ ho
         rw [h1] at k1; injection k1 with k1; subst k1
         simp only [OR] at k2
         obtain ⟨q1, q2, q3⟩ := k2
         have hsn : ∀ o, s < (ts.new D o).nx := fun o => by
          have := (List.getElem?_eq_some_iff.1 h1).1
          simp only [TS.new]; rw [← hR.nx]; omega
         cases hk : sl.k with
         | none =>
           rw [hk] at q3
           obtain ⟨v', H', sl', a1, a2, a3, a4⟩ := zk7 (e := e') hR (w := w') ⟨q1, q2⟩ hyu hroom q3
           exact ⟨_, _, v', H', _, happ _ _ a1, own sl' v' a3 a2, a4.drop s (hsn _), h⟩
         | some j =>
           rw [hk] at q3
           obtain ⟨ver, cp, e1, e2⟩ := q3
           have hlt := (List.getElem?_eq_some_iff.1 e2).1
           have hxy := DRL.append ⟨q1, q2⟩ hyu
           have hlen : sl.ws.length + us.length ≤ zc3 := by rw [q1, hyu.1]; exact hroom
           let sl' : Slot := ⟨.hs F.lv j (ver + 1) 0 (sl.ws ++ us).length false, some j, sl.ws ++ us⟩
           have hm := hR.move ho trivial h1 hk (.acc e' _ (_ ++ ys) w') (.arr (ver + 1) e' (D.len t') (sl.ws ++ us) none) sl' rfl
             (by simp only [OR]; exact ⟨hxy.1, hxy.2, ver + 1, none, rfl, by simp [sl', hlt]⟩)
           refine ⟨_, _, sl'.v, σ.H.set F.lv j (.arr (ver + 1) e' (D.len t') (sl.ws ++ us) none), _, happ _ _ ?_, own sl' sl'.v rfl rfl, by rw [hR.ycu]; exact hm, h⟩
           rw [e1]
           simp only [z7d, hR.get e2, true_and]
           rw [if_pos hlen]
           simp [sl']
        ·cases hdst
       ·cases hdst
      ·cases hdst
     ·cases h
    ·cases h
   ·cases h
  ·cases h
 ·cases h
omit hD in
theorem ykg {R : Type} (hR : TRr D F ρ ts σ) {b : Bool} {x : TV D.T} {vx : V} {k : TV D.T → TS D.T → Option R} {r : R} (h : ys7 D ts x b k = some r) (hx : VR D ρ F.lv x vx) :
  ∃ z ts' v H' ρ', y7p σ.H vx b = some (v, H') ∧ VR D ρ' F.lv z v ∧ TRr D F ρ' ts' { σ with H := H' } ∧ k z ts' = some r := by
 unfold ys7 at h
 split at h
 ·rename_i s
  simp only [VR] at hx
  obtain ⟨sl, i, h1, h2, rfl⟩ := hx
  split at h
  ·rename_i l pos ho
   obtain ⟨sl', k1, k2⟩ := hR.ob s _ ho
   rw [h1] at k1; injection k1 with k1; subst k1
   simp only [OR] at k2
   obtain ⟨i', q1, q2⟩ := k2
   rw [h2] at q1; injection q1 with q1; subst q1
   have hlt := (List.getElem?_eq_some_iff.1 q2).1
   rw [y4a] at h
   split at h
   ·rename_i hc
    have hc' : pos < l.length := of_decide_eq_true hc
    refine ⟨_, _, .tup [.bool true, .int .i64 pos, .int .i32 (zat l pos).1], σ.H.set F.lv i (.siter l (pos + (zat l pos).2)), ρ, ?_, ?_, ?_, h⟩
    ·simp only [y7p, hR.get q2]; rw [if_pos hc']
    ·simp only [VR, VRL]; exact ⟨_, rfl, _, _, rfl, rfl, _, _, rfl, rfl, _, _, rfl, rfl, rfl⟩
    ·rw [hR.ycu]
     exact hR.upd ho trivial h1 h2 _ _ (by simp only [OR]; exact ⟨i, h2, by simp [hlt]⟩)
   ·rename_i hc
    have hc' : ¬ pos < l.length := fun h => hc (decide_eq_true h)
    refine ⟨_, _, .tup [.bool false], σ.H, ρ, ?_, ?_, hR, h⟩
    ·simp only [y7p, hR.get q2]; rw [if_neg hc']
    ·simp only [VR, VRL]; exact ⟨_, rfl, _, _, rfl, rfl, rfl⟩
  ·cases h
 ·cases h
omit hD in
theorem DRL.take {t : DTy} {xs : List (t.S D.T)} {ws : List V} (h : DRL D t xs ws) (n : Nat) : DRL D t (xs.take n) (ws.take n) := by
 refine ⟨by simp [h.1], fun j x w hx hw => ?_⟩
 rw [List.getElem?_take] at hx hw
 split at hx
 ·rename_i hj; rw [if_pos hj] at hw; exact h.2 j x w hx hw
 ·cases hx
omit hD in
theorem DRL.drop {t : DTy} {xs : List (t.S D.T)} {ws : List V} (h : DRL D t xs ws) (n : Nat) : DRL D t (xs.drop n) (ws.drop n) := by
 refine ⟨by simp [h.1], fun j x w hx hw => ?_⟩
 rw [List.getElem?_drop] at hx hw
 exact h.2 _ x w hx hw
omit hD in
theorem y5q {R : Type} (hR : TRr D F ρ ts σ) {t : Nat} {x lo : TV D.T} {vx vlo : V} {k : TV D.T → Option R} {kf : Option R} {r : R} (h : tCut P D ts t x lo k kf = some r) (hx : VR D ρ F.lv x vx) (hlo : VR D ρ F.lv lo vlo) :
  (∃ z v, zb3 P σ.H t vx (some vlo) none none = some v ∧ VR D ρ F.lv z v ∧ k z = some r) ∨ kf = some r := by
 unfold tCut at h
 split at h
 ·rename_i s a
  split at h
  ·rename_i e ty τ xs hu ho
   split at h
   ·rename_i hc
    left
    obtain ⟨_, hcut, h⟩ := zbw h
    unfold cutO at hcut
    split at hcut
    ·rename_i hcut'
     obtain ⟨c1, c2, c3⟩ := hcut'
     simp only [VR] at hx hlo
     subst hlo
     obtain ⟨sl, h1, rfl, hleaf⟩ := hx
     obtain ⟨sl', k1, k2⟩ := hR.ob s _ ho
     rw [h1] at k1; injection k1 with k1; subst k1
     simp only [OR] at k2
     obtain ⟨q1, q2, q3⟩ := k2
     cases hk : sl.k with
     | none =>
       rw [hk] at q3
       rcases q3 with ⟨_, e2⟩ | ⟨_, e2⟩
       · rw [e2] at q1; simp at q1; omega
       · rw [e2 trivial] at q1; simp at q1; omega
     | some j =>
       rw [hk] at q3
       obtain ⟨ver, cp, e1, e2⟩ := q3
       have hp := zwq (P := P) (n := sl.ws.length) hu hc.1 hc.2 (hR.get e2) (a := a) c1 (by omega)
       refine ⟨_, _, by rw [e1]; exact hp, ?_, h⟩
       simp only [VR]
       refine ⟨sl, j, ver, h1, hk, e1, c1, by omega, ?_⟩
       split
       · exact .inl rfl
       · exact .inr ⟨by omega, _, rfl⟩
    ·cases hcut
   ·cases h
  ·cases h
 ·exact .inr h
omit hD in
theorem yi7 {R : Type} (hR : TRr D F ρ ts σ) {t : Nat} {d s : TV D.T} {vd vs : V} {k : TV D.T → TS D.T → Option R} {r : R} (h : ytf P D ts t d s k = some r) (hd : VR D ρ F.lv d vd) (hs : VR D ρ F.lv s vs) :
  ∃ z ts' v H' ρ', zxx P σ.H t vd vs = some (v, H') ∧ VR D ρ' F.lv z v ∧ TRr D F ρ' ts' { σ with H := H' } ∧ k z ts' = some r := by
 unfold ytf at h
 split at h
 ·rename_i s a s' b
  split at h
  ·rename_i hss
   subst hss
   split at h
   ·rename_i e ty τ xs hu ho
    split at h
    ·rename_i hc
     obtain ⟨ys, hys, h⟩ := zbw h
     unfold ydd at hys
     split at hys
     ·rename_i hb
      injection hys with hys
      obtain ⟨b1, b2, b3, b4⟩ := hb
      simp only [VR] at hd hs
      obtain ⟨sl, j, ver, d1, d2, d3, d4, d5, d6⟩ := hd
      obtain ⟨sl1, j1, ver1, f1, f2, f3, f4, f5, f6⟩ := hs
      rw [d1] at f1; injection f1 with f1; subst f1
      rw [d2] at f2; injection f2 with f2; subst f2
      rw [d3] at f3; injection f3 with _ _ f3; subst f3
      obtain ⟨sl', k1, k2⟩ := hR.ob s _ ho
      rw [d1] at k1; injection k1 with k1; subst k1
      simp only [OR] at k2
      obtain ⟨q1, q2, q3⟩ := k2
      rw [d2] at q3
      obtain ⟨ver', cp, e1, e2⟩ := q3
      rw [d3] at e1; injection e1 with _ _ e1; subst e1
      have hlt := (List.getElem?_eq_some_iff.1 e2).1
      have f6' : vs = .hs F.lv j ver b.toNat (sl.ws.length - b.toNat) false := by
       rcases f6 with f6 | ⟨f6, _⟩
       ·exact f6
       ·omega
      subst f6'
      let n := min (sl.ws.length - b.toNat) (sl.ws.length - a.toNat)
      let ws' := sl.ws.take a.toNat ++ ((sl.ws.drop b.toNat).take n ++ sl.ws.drop (a.toNat + n))
      let sl' : Slot := ⟨sl.v, some j, ws'⟩
      have hwl : ws'.length = sl.ws.length := by simp only [ws', n, List.length_append, List.length_take, List.length_drop]; omega
      have hdrl : DRL D τ ys ws' := by
       rw [← hys]
       simp only [ws', n, q1]
       exact (DRL.take ⟨q1, q2⟩ _).append (((DRL.drop ⟨q1, q2⟩ _).take _).append (DRL.drop ⟨q1, q2⟩ _))
      have hor : OR D (ρ ++ [sl']) F.lv (σ.H.L.set j (some (.arr ver ty (D.len τ) ws' cp))) sl' (.acc ty τ ys true) := by
       simp only [OR]
       refine ⟨hdrl.1, hdrl.2, ver, cp, ?_, by simp [sl', hlt]⟩
       show sl.v = .hs F.lv j ver 0 ws'.length false
       rw [hwl]; exact d3
      have hm := hR.move ho trivial d1 d2 (.acc ty τ ys true) (.arr ver ty (D.len τ) ws' cp) sl' rfl hor
      have hm2 := hm.zr6 (TV.ren D s ts.nx) fun x v hxv => VR.ren (lookup_append d1) (sl' := sl') (by rw [← hR.nx]; simp) rfl hxv
      have hget := hR.get e2
      rcases d6 with d6 | ⟨d6, sz, rfl⟩
      ·subst d6
       refine ⟨.any, _, .int .i64 (min (sl.ws.length - b.toNat) (sl.ws.length - a.toNat) : Nat), σ.H.set F.lv j (.arr ver ty (D.len τ) ws' cp), ρ ++ [sl'], ?_, by simp only [VR], ?_, h⟩
       ·simp only [zxx, hu, hget]
        rw [if_pos hc.2, if_pos ⟨trivial, trivial, trivial⟩, if_pos ⟨trivial, hc.1⟩]
       ·rw [hR.ycu]; exact hm2
      ·have hn : n = 0 := by simp only [n]; omega
       have hws : ws' = sl.ws := by
        simp only [ws', hn, List.take_zero, List.nil_append, Nat.add_zero, List.take_append_drop]
       have hset : σ.H.L.set j (some (.arr ver ty (D.len τ) ws' cp)) = σ.H.L := by
        rw [hws]
        refine List.ext_getElem? fun q => ?_
        rw [List.getElem?_set]
        split
        ·rename_i hq; rw [← hq, e2]
        ·rfl
       rw [hset] at hm2
       refine ⟨.any, _, .int .i64 0, σ.H, ρ ++ [sl'], ?_, by simp only [VR], hm2, h⟩
       simp only [zxx, hu, hget]
       rw [if_pos hc.2, if_pos trivial]
     ·cases hys
    ·cases h
   ·cases h
  ·cases h
 ·cases h
theorem yc3 {R : Type} (hR : TRr D F ρ ts σ) {op : Op} {k : TV D.T → TS D.T → Option R} {kf : Nat → Option R} {r : R} (h : tOp P D ts op k kf = some r) :
  (∃ z ts' v H' ρ', ox P σ.H σ.ev op = some (v, H') ∧ VR D ρ' F.lv z v ∧ TRr D F ρ' ts' { σ with H := H' } ∧ k z ts' = some r) ∨ ∃ s, kf s = some r := by
 have pure : ∀ {op : Op}, tP P D ts op (fun v => k v ts) kf = some r → (∃ z ts' v H' ρ', ox P σ.H σ.ev op = some (v, H') ∧ VR D ρ' F.lv z v ∧ TRr D F ρ' ts' { σ with H := H' } ∧ k z ts' = some r) ∨ ∃ s, kf s = some r := fun {op} h => by
  rcases y5o hD hR h with ⟨x, v, h1, h2, h3⟩ | h
  ·exact .inl ⟨x, ts, v, σ.H, ρ, yru h1, h2, hR, h3⟩
  ·exact .inr h
 unfold tOp at h
 split at h
 ·split at h
  ·rename_i z hz
   split at h
   ·rename_i hs
    left
    obtain ⟨v, h1, h2⟩ := zs9 (ρ := ρ) (lv := F.lv) hz
    obtain ⟨h3, h4⟩ := hR.y56 hD (h2.cells hs)
    exact ⟨_, _, _, _, _, by simp only [ox, y0l, h1]; rw [if_pos (h2.yzv hs)], h4, h3, h⟩
   ·cases h
  ·cases h
 ·split at h
  ·rename_i x hx
   split at h
   ·rename_i hs
    left
    have h2 := hR.ev hx
    obtain ⟨h3, h4⟩ := hR.y56 hD (h2.cells hs)
    exact ⟨_, _, _, _, _, by simp only [ox, ypl]; rw [if_pos (h2.yzv hs)], h4, h3, h⟩
   ·cases h
  ·cases h
 ·split at h
  ·rename_i ha hx
   rcases ygj hD hR h (hR.ev ha) (hR.ev hx) with ⟨z, ts', v, H', ρ', h1, h2⟩ | h
   ·exact .inl ⟨z, ts', v, H', ρ', by simp only [ox]; exact h1, h2⟩
   ·exact .inr h
  ·cases h
 ·split at h
  ·rename_i str hx
   split at h
   ·rename_i hu
    left
    have h1 := hR.ev hx
    simp only [VR] at h1
    refine ⟨_, _, .ptr σ.H.lv σ.H.L.length 0, σ.H.push (.siter str 0), ρ ++ [⟨.any, some σ.H.L.length, []⟩], by simp only [ox, y7g, h1, hu], ?_, ?_, h⟩
    ·simp only [VR]
     exact ⟨⟨.any, some σ.H.L.length, []⟩, σ.H.L.length, by rw [← hR.nx]; simp, rfl, by rw [hR.lv]⟩
    ·exact hR.new _ _ _ hR.lv hR.E (by simp [Heap.push]) (fun i hi => by simp only [Heap.push]; rw [List.getElem?_append_left hi]) (fun i hi => by injection hi with hi; omega)
      (by simp only [OR]; exact ⟨σ.H.L.length, rfl, by simp [Heap.push]⟩)
   ·cases h
  ·cases h
 ·split at h
  ·rename_i hi
   left
   obtain ⟨z, ts', v, H', ρ', h1, h2⟩ := ykg hR h (hR.ev hi)
   exact ⟨z, ts', v, H', ρ', by simp only [ox]; exact h1, h2⟩
  ·cases h
 ·split at h
  ·rename_i c
   split at h
   ·rename_i s x t u hcal hargs htys
    split at h
    ·rename_i hs hx
     left
     obtain ⟨z, ts', v, H', ρ', h1, h2⟩ := y9o hR h (hR.ev hs) (hR.ev hx)
     exact ⟨z, ts', v, H', ρ', by simp only [ox, hcal, hargs, htys]; exact h1, h2⟩
    ·cases h
   ·rename_i d s t u hcal hargs htys
    split at h
    ·rename_i hd hs
     left
     obtain ⟨z, ts', v, H', ρ', h1, h2⟩ := yi7 hR h (hR.ev hd) (hR.ev hs)
     exact ⟨z, ts', v, H', ρ', by simp only [ox, hcal, hargs, htys]; exact h1, h2⟩
    ·cases h
   ·exact pure h
  ·exact pure h
end
end Go.Ab


namespace Go.Ab
open Go
set_option linter.unusedVariables false
set_option linter.unusedSimpArgs false
set_option linter.unusedSectionVars false
section
variable {P : Program} {D : Dat} {F : Fr} {ρ : List Slot} {ts : TS D.T} {σ : St} {lv : Nat}
mutual
theorem yof {s : Nat} {t : DTy} {xs : List (t.S D.T)} {sl : Slot} {r : V} (h1 : ρ[s]? = some sl) (hr : VR D ρ lv (.sl t xs 0) r) : ∀ {x : TV D.T} {v : V}, VR D ρ lv x v → ∃ v', FV sl.v r v v' ∧ VR D ρ lv (TV.frz D s t xs x) v'
 | .own j, v, h => by
   simp only [TV.frz]
   split
   · rename_i hj
     subst hj
     simp only [VR] at h
     obtain ⟨q, k1, k2, k3⟩ := h
     rw [h1] at k1; injection k1 with k1; subst k1
     subst k2
     exact ⟨r, .it, hr⟩
   · exact ⟨v, .keep _, h⟩
 | .agg cs, v, h => by
   simp only [TV.frz, VR] at h ⊢
   obtain ⟨vs, rfl, k2⟩ := h
   obtain ⟨us, q1, q2⟩ := zyp h1 hr k2
   exact ⟨.agg us, .agg' q1, us, rfl, q2⟩
 | .tup cs, v, h => by
   simp only [TV.frz, VR] at h ⊢
   obtain ⟨vs, rfl, k2⟩ := h
   obtain ⟨us, q1, q2⟩ := zyp h1 hr k2
   exact ⟨.tup us, .yqs q1, us, rfl, q2⟩
 | .any, v, h => ⟨v, .keep _, by simpa only [TV.frz] using h⟩
 | .bool b, v, h => ⟨v, .keep _, by simpa only [TV.frz] using h⟩
 | .int k n, v, h => ⟨v, .keep _, by simpa only [TV.frz] using h⟩
 | .str b, v, h => ⟨v, .keep _, by simpa only [TV.frz] using h⟩
 | .nilp, v, h => ⟨v, .keep _, by simpa only [TV.frz] using h⟩
 | .nils, v, h => ⟨v, .keep _, by simpa only [TV.frz] using h⟩
 | .mapn, v, h => ⟨v, .keep _, by simpa only [TV.frz] using h⟩
 | .nilf, v, h => ⟨v, .keep _, by simpa only [TV.frz] using h⟩
 | .nili, v, h => ⟨v, .keep _, by simpa only [TV.frz] using h⟩
 | .sl t' ys fl, v, h => ⟨v, .keep _, by simpa only [TV.frz] using h⟩
 | .ptr j off, v, h => ⟨v, .keep _, by simpa only [TV.frz] using h⟩
 | .bp j off, v, h => ⟨v, .keep _, by simpa only [TV.frz] using h⟩
 | .osl j lo, v, h => ⟨v, .keep _, by simpa only [TV.frz] using h⟩
 | .map j, v, h => ⟨v, .keep _, by simpa only [TV.frz] using h⟩
 | .ref cs off, v, h => ⟨v, .keep _, by simpa only [TV.frz] using h⟩
 | .ap j t' i x off, v, h => ⟨v, .keep _, by simpa only [TV.frz] using h⟩
 | .fn f a b, v, h => ⟨v, .keep _, by simpa only [TV.frz] using h⟩
 | .iface t' x, v, h => ⟨v, .keep _, by simpa only [TV.frz] using h⟩
theorem zyp {s : Nat} {t : DTy} {xs : List (t.S D.T)} {sl : Slot} {r : V} (h1 : ρ[s]? = some sl) (hr : VR D ρ lv (.sl t xs 0) r) : ∀ {cs : List (TV D.T)} {vs : List V}, VRL D ρ lv cs vs → ∃ us, FVL sl.v r vs us ∧ VRL D ρ lv (TV.zln D s t xs cs) us
 | [], vs, h => by simp only [TV.zln, VRL] at h ⊢; subst h; exact ⟨[], .nil, rfl⟩
 | c :: cs, vs, h => by
   simp only [TV.zln, VRL] at h ⊢
   obtain ⟨v, q, rfl, k2, k3⟩ := h
   obtain ⟨v', a1, a2⟩ := yof h1 hr k2
   obtain ⟨us, b1, b2⟩ := zyp h1 hr k3
   exact ⟨v' :: us, .cons a1 b1, v', us, rfl, a2, b2⟩
end
theorem yji (s : Nat) (t : DTy) (xs : List (t.S D.T)) : ∀ cs : List (TV D.T), TV.zln D s t xs cs = cs.map (TV.frz D s t xs)
 | [] => rfl
 | c :: cs => by simp only [TV.zln, List.map_cons, yji s t xs cs]
theorem yhw {s : Nat} {t : DTy} {xs : List (t.S D.T)} {sl : Slot} {r : V} (h1 : ρ[s]? = some sl) (hr : VR D ρ lv (.sl t xs 0) r) (f : Nat → Option (TV D.T)) : ∀ (l : List V) (k : Nat), (∀ j x v, f (k + j) = some x → l[j]? = some v → VR D ρ lv x v) →
  ∃ l', FVL sl.v r l l' ∧ ∀ j x v, f (k + j) = some x → l'[j]? = some v → VR D ρ lv (TV.frz D s t xs x) v
 | [], k, h => ⟨[], .nil, fun j x v _ hv => by simp at hv⟩
 | u :: l, k, h => by
   obtain ⟨l', a1, a2⟩ := yhw h1 hr f l (k + 1) fun j x v hx hv => h (j + 1) x v (by rw [← hx]; congr 1; omega) (by simpa using hv)
   cases hf : f k with
   | none =>
     refine ⟨u :: l', .cons (.keep _) a1, fun j x v hx hv => ?_⟩
     cases j with
     | zero => rw [Nat.add_zero, hf] at hx; cases hx
     | succ j => exact a2 j x v (by rw [← hx]; congr 1; omega) (by simpa using hv)
   | some y =>
     obtain ⟨u', b1, b2⟩ := yof h1 hr (h 0 y u (by simpa using hf) rfl)
     refine ⟨u' :: l', .cons b1 a1, fun j x v hx hv => ?_⟩
     cases j with
     | zero => rw [Nat.add_zero, hf] at hx; injection hx with hx; subst hx; simp at hv; subst hv; exact b2
     | succ j => exact a2 j x v (by rw [← hx]; congr 1; omega) (by simpa using hv)
theorem yhv (hR : TRr D F ρ ts σ) {s : Nat} {t : DTy} {xs : List (t.S D.T)} {sl : Slot} {r : V} (h1 : ρ[s]? = some sl) (hr : VR D ρ F.lv (.sl t xs 0) r) : ∀ n : Nat, ∃ os os' : List (Nat × yz4), FOL sl.v r os os' ∧ (os.map (·.1)).Nodup ∧
  (∀ p ∈ os, σ.H.L[p.1]? = some (some p.2) ∧ ∃ s' o sl', s' < n ∧ s' ≠ s ∧ fnd ts.o s' = some o ∧ o.live ∧ ρ[s']? = some sl' ∧ sl'.k = some p.1) ∧
  ∀ s' o sl' i, s' < n → s' ≠ s → fnd ts.o s' = some o → o.live → ρ[s']? = some sl' → sl'.k = some i → ∃ ao, (i, ao) ∈ os' ∧ ∀ L', L'[i]? = some (some ao) → OR D ρ F.lv L' sl' (TO.map D (TV.frz D s t xs) o)
 | 0 => ⟨[], [], .refl _, by simp, by simp, fun s' o sl' i h => by omega⟩
 | n + 1 => by
   obtain ⟨os, os', a1, a2, a3, a4⟩ := yhv hR h1 hr n
   have skip : (∀ o sl' i, n ≠ s → fnd ts.o n = some o → o.live → ρ[n]? = some sl' → sl'.k = some i → False) → ∃ os os' : List (Nat × yz4), FOL sl.v r os os' ∧ (os.map (·.1)).Nodup ∧
       (∀ p ∈ os, σ.H.L[p.1]? = some (some p.2) ∧ ∃ s' o sl', s' < n + 1 ∧ s' ≠ s ∧ fnd ts.o s' = some o ∧ o.live ∧ ρ[s']? = some sl' ∧ sl'.k = some p.1) ∧
       ∀ s' o sl' i, s' < n + 1 → s' ≠ s → fnd ts.o s' = some o → o.live → ρ[s']? = some sl' → sl'.k = some i → ∃ ao, (i, ao) ∈ os' ∧ ∀ L', L'[i]? = some (some ao) → OR D ρ F.lv L' sl' (TO.map D (TV.frz D s t xs) o) := fun hno =>
     ⟨os, os', a1, a2, fun p hp => by obtain ⟨b1, s', o, sl', b2, b3⟩ := a3 p hp; exact ⟨b1, s', o, sl', by omega, b3⟩, fun s' o sl' i c1 c2 c3 c4 c5 c6 => by
       by_cases e : s' = n
       · subst e; exact (hno o sl' i c2 c3 c4 c5 c6).elim
       · exact a4 s' o sl' i (by omega) c2 c3 c4 c5 c6⟩
   by_cases hns : n = s
   · exact skip fun o sl' i hne => (hne hns).elim
   · cases ho : fnd ts.o n with
     | none => exact skip fun o sl' i _ h => by rw [ho] at h; cases h
     | some o =>
       obtain ⟨sl', k1, k2⟩ := hR.ob n o ho
       by_cases hl : o.live
       · cases hk : sl'.k with
         | none => exact skip fun o' sl2 i _ h hl' h2 h3 => by rw [k1] at h2; injection h2 with h2; subst h2; rw [hk] at h3; cases h3
         | some i =>
           obtain ⟨a, ha⟩ := k2.at hl hk
           have hfresh : i ∉ os.map (·.1) := fun hm => by
             obtain ⟨p, hp, hpi⟩ := List.mem_map.1 hm
             obtain ⟨b1, s', o', sl2, b2, b3, b4, b5, b6, b7⟩ := a3 p hp
             have := hR.inj n s' o o' sl' sl2 i ho b4 hl b5 k1 b6 hk (by rw [b7, hpi])
             omega
           have step : ∀ a' : yz4, FO sl.v r a a' → (∀ L' : List (Option yz4), L'[i]? = some (some a') → OR D ρ F.lv L' sl' (TO.map D (TV.frz D s t xs) o)) → ∃ os os' : List (Nat × yz4), FOL sl.v r os os' ∧ (os.map (·.1)).Nodup ∧
               (∀ p ∈ os, σ.H.L[p.1]? = some (some p.2) ∧ ∃ s' o sl', s' < n + 1 ∧ s' ≠ s ∧ fnd ts.o s' = some o ∧ o.live ∧ ρ[s']? = some sl' ∧ sl'.k = some p.1) ∧
               ∀ s' o sl' i, s' < n + 1 → s' ≠ s → fnd ts.o s' = some o → o.live → ρ[s']? = some sl' → sl'.k = some i → ∃ ao, (i, ao) ∈ os' ∧ ∀ L', L'[i]? = some (some ao) → OR D ρ F.lv L' sl' (TO.map D (TV.frz D s t xs) o) := fun a' hfo hor =>
             ⟨(i, a) :: os, (i, a') :: os', .cons hfo a1, by simp only [List.map_cons, List.nodup_cons]; exact ⟨hfresh, a2⟩, fun p hp => by
               rcases List.mem_cons.1 hp with rfl | hp
               · exact ⟨ha, n, o, sl', by omega, hns, ho, hl, k1, hk⟩
               · obtain ⟨b1, s', o, sl', b2, b3⟩ := a3 p hp; exact ⟨b1, s', o, sl', by omega, b3⟩, fun s' o2 sl2 i2 c1 c2 c3 c4 c5 c6 => by
               by_cases e : s' = n
               · subst e
                 rw [ho] at c3; injection c3 with c3; subst c3
                 rw [k1] at c5; injection c5 with c5; subst c5
                 rw [hk] at c6; injection c6 with c6; subst c6
                 exact ⟨a', List.mem_cons_self, hor⟩
               · obtain ⟨ao, d1, d2⟩ := a4 s' o2 sl2 i2 (by omega) c2 c3 c4 c5 c6
                 exact ⟨ao, List.mem_cons_of_mem _ d1, d2⟩⟩
           cases o with
           | cells cs =>
             simp only [OR] at k2
             obtain ⟨i', vs, e1, e2, e3⟩ := k2
             rw [hk] at e1; injection e1 with e1; subst e1
             rw [ha] at e2; injection e2 with e2; injection e2 with e2; subst e2
             obtain ⟨us, f1, f2⟩ := zyp h1 hr e3
             rw [yji] at f2
             exact step (.cells us) (.inr ⟨vs, us, rfl, rfl, f1⟩) fun L' hL' => by simp only [TO.map, OR]; exact ⟨i, us, hk, hL', f2⟩
           | acc ty' t' xs' w' =>
             have := k2
             refine step a (.inl rfl) fun L' hL' => ?_
             simp only [OR, hk] at k2
             simp only [TO.map, OR, hk]
             obtain ⟨e1, e2, ver, cp, e3, e4⟩ := k2
             rw [ha] at e4
             exact ⟨e1, e2, ver, cp, e3, hL'.trans e4⟩
           | siter l pos =>
             refine step a (.inl rfl) fun L' hL' => ?_
             simp only [OR] at k2
             simp only [TO.map, OR]
             obtain ⟨i', e1, e2⟩ := k2
             rw [hk] at e1; injection e1 with e1; subst e1
             rw [ha] at e2
             exact ⟨i, hk, hL'.trans e2⟩
           | bld ty' b' =>
             refine step a (.inl rfl) fun L' hL' => ?_
             simp only [OR] at k2
             obtain ⟨i', u, c, e1, e2, e3, e4⟩ := k2
             rw [hk] at e1; injection e1 with e1; subst e1
             rw [ha] at e2
             cases b' with
             | none => simp only [TO.map, OR]; exact ⟨i, u, c, hk, hL'.trans e2, e3, e4⟩
             | some q =>
               simp only [TO.map, TV.frz]
               by_cases hq : q = s
               · rw [if_pos hq]; simp only [OR]
               · rw [if_neg hq]; simp only [OR]; exact ⟨i, u, c, hk, hL'.trans e2, e3, e4⟩
           | gone => exact hl.elim
       · exact skip fun o' sl2 i _ h hl' => by rw [ho] at h; injection h with h; subst h; exact (hl hl').elim
theorem zy9 {s : Nat} {ts' : TS D.T} (hR : TRr D F ρ ts σ) (h : ts.freeze D s = some ts') : ∃ τ, znh σ τ ∧ TRr D F ρ ts' τ := by
 unfold TS.freeze at h
 split at h
 ·rename_i ty t xs w hd0 ho
  injection h with h; subst h
  have hd1 : σ.d = [] := by have := hR.d; rw [hd0] at this; exact this
  obtain ⟨sl, k1, k2⟩ := hR.ob s _ ho
  have hor := k2
  simp only [OR] at k2
  obtain ⟨q1, q2, q3⟩ := k2
  have hsn : s < ρ.length := (List.getElem?_eq_some_iff.1 k1).1
  have hr : VR D ρ F.lv (.sl t xs 0) (.sl (D.len t) sl.ws false) := by
   simp only [VR]
   exact ⟨.sl t xs sl.ws false q1 q2, by omega, by omega⟩
  obtain ⟨os, os', a1, a2, a3, a4⟩ := yhv hR k1 hr ts.nx
  have hacc : z9z F.lv σ.H.L [⟨ty, D.len t, sl.v, sl.ws, w⟩] os := by
   refine ⟨⟨[sl.k], rfl, fun j k a hj ha => ?_, fun i j n hi hj => ?_, fun p hp => ⟨(a3 p hp).1, fun j hj => ?_⟩⟩, a2⟩
   ·cases j with
    | zero =>
      simp at hj ha; subst hj; subst ha
      cases hk : sl.k with
      | none => rw [hk] at q3; exact q3.imp id fun q => ⟨q.1.1, q.2⟩
      | some i => rw [hk] at q3; obtain ⟨ver, cp, e1, e2⟩ := q3; exact ⟨ver, cp, e1, e2⟩
    | succ j => simp at hj
   ·cases i <;> cases j <;> simp at hi hj <;> rfl
   ·obtain ⟨_, s', o, sl', b2, b3, b4, b5, b6, b7⟩ := a3 p hp
    cases j with
    | zero =>
      simp at hj
      exact b3 (hR.inj s' s o _ sl' sl p.1 b4 ho b5 trivial b6 k1 b7 hj)
    | succ j => simp at hj
  obtain ⟨t', c1, c2⟩ := yhw k1 hr (fnd ts.t) σ.t 0 fun j x v hx hv => by
   obtain ⟨u, e1, e2⟩ := hR.tm j x (by simpa using hx)
   rw [hv] at e1; injection e1 with e1; subst e1; exact e2
  obtain ⟨L', ⟨d1, d2⟩, d3, d4⟩ := hacc.yoj (j := 0) rfl c1 a1 σ.H.E σ.e0
  have hσ : σ = ⟨σ.t, ⟨F.lv, σ.H.L, σ.H.E⟩, [], σ.e0⟩ := by
   have e1 := hR.lv; have e2 := hd1
   obtain ⟨t, ⟨l, L, E⟩, d, e0⟩ := σ
   simp only at e1 e2; subst e1; subst e2; rfl
  rw [← hσ] at d2
  refine ⟨_, d2, ?_⟩
  have hob : ∀ s' o, fnd ((s, TO.gone) :: (ts.zr6 D (TV.frz D s t xs)).o) s' = some o → (s' = s ∧ o = .gone) ∨ (s' ≠ s ∧ ∃ o', fnd ts.o s' = some o' ∧ o = TO.map D (TV.frz D s t xs) o') := fun s' o h => by
   rw [kzg] at h
   split at h
   ·rename_i e; injection h with h; exact .inl ⟨e.symm, h.symm⟩
   ·rename_i e
    simp only [TS.zr6] at h
    rw [zth (TO.map D (TV.frz D s t xs)), Option.map_eq_some_iff] at h
    obtain ⟨o', h1, h2⟩ := h
    exact .inr ⟨fun e' => e e'.symm, o', h1, h2.symm⟩
  have hlive : ∀ o : TO D.T, (TO.map D (TV.frz D s t xs) o).live → o.live := fun o h => by cases o <;> first | exact h | trivial
  have old : ∀ s' o, fnd ((s, TO.gone) :: (ts.zr6 D (TV.frz D s t xs)).o) s' = some o → o.live → s' ≠ s ∧ ∃ o', fnd ts.o s' = some o' ∧ o'.live ∧ o = TO.map D (TV.frz D s t xs) o' := fun s' o h hl => by
   rcases hob s' o h with ⟨_, rfl⟩ | ⟨h1, o', h2, rfl⟩
   ·exact hl.elim
   ·exact ⟨h1, o', h2, hlive o' hl, rfl⟩
  refine ⟨hR.nx, c1.length.symm.trans hR.nt, fun j x hj => ?_, fun s' o h => ?_, fun s1 s2 o1 o2 sl1 sl2 i h1 h2 l1 l2 r1 r2 => ?_, fun s1 o1 sl1 i h1 l1 r1 => ?_, rfl, hR.E, hR.e0, (by simp only [TS.zr6, hd0, List.map_nil]; rfl), fun i hi => ?_, hR.pin⟩
  ·simp only [TS.zr6] at hj
   rw [zth (TV.frz D s t xs), Option.map_eq_some_iff] at hj
   obtain ⟨y, hy, rfl⟩ := hj
   obtain ⟨u, e1, e2⟩ := hR.tm j y hy
   have hlt : j < t'.length := by rw [← c1.length]; exact (List.getElem?_eq_some_iff.1 e1).1
   exact ⟨t'[j], List.getElem?_eq_getElem hlt, c2 j y _ (by simpa using hy) (List.getElem?_eq_getElem hlt)⟩
  ·rcases hob s' o h with ⟨rfl, rfl⟩ | ⟨h1, o', h2, rfl⟩
   ·exact ⟨sl, k1, by simp only [OR]⟩
   ·obtain ⟨sl', m1, m2⟩ := hR.ob s' o' h2
    refine ⟨sl', m1, ?_⟩
    by_cases hl : o'.live
    ·cases hk : sl'.k with
     | some i =>
       obtain ⟨ao, n1, n2⟩ := a4 s' o' sl' i (by rw [← hR.nx]; exact (List.getElem?_eq_some_iff.1 m1).1) h1 h2 hl m1 hk
       exact n2 L' (d1.accs.get n1)
     | none =>
       cases o' with
       | cells cs => simp only [OR] at m2; obtain ⟨i, _, e, _⟩ := m2; rw [hk] at e; cases e
       | acc ty' t'' xs' w' => simp only [OR, hk] at m2; simp only [TO.map, OR, hk]; exact m2
       | siter l pos => simp only [OR] at m2; obtain ⟨i, e, _⟩ := m2; rw [hk] at e; cases e
       | bld ty' b' => simp only [OR] at m2; obtain ⟨i, _, _, e, _⟩ := m2; rw [hk] at e; cases e
       | gone => simp only [TO.map, OR]
    ·cases o' with
     | gone => simp only [TO.map, OR]
     | _ => exact (hl trivial).elim
  ·obtain ⟨_, o1', e1, f1, _⟩ := old s1 o1 h1 l1
   obtain ⟨_, o2', e2, f2, _⟩ := old s2 o2 h2 l2
   exact hR.inj s1 s2 o1' o2' sl1 sl2 i e1 e2 f1 f2 r1 r2
  ·obtain ⟨_, o1', e1, f1, _⟩ := old s1 o1 h1 l1
   exact hR.mine s1 o1' sl1 i e1 f1 r1
  ·obtain ⟨h1, h2⟩ := hR.out i hi
   refine ⟨by show i < L'.length; rw [d3]; exact h1, ?_⟩
   show L'[i]? = _
   rw [d4 i h1 (fun p hp e => ?_) fun ver n e => ?_]
   ·exact h2
   ·obtain ⟨_, s', o, sl', b2, b3, b4, b5, b6, b7⟩ := a3 p hp
    exact hR.mine s' o sl' i b4 b5 b6 (by rw [b7, e]) hi
   ·cases hk : sl.k with
    | none => rw [hk] at q3; rcases q3 with ⟨q, _⟩ | ⟨⟨q, _⟩, _⟩ <;> (rw [e] at q; cases q)
    | some j =>
      rw [hk] at q3
      obtain ⟨ver', cp, q, _⟩ := q3
      rw [e] at q; injection q with _ q; subst q
      exact hR.mine s _ sl i ho trivial k1 hk hi
 ·cases h
end
end Go.Ab

