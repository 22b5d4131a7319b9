/-
  THE TYPED MACHINE: regions.
-/
import Derived.Test.YtagebdhlgnlcnaaGreatDoorLib4
import Derived.Test.YtagebdhlgnlcnaaGreatDoorLib2
import Derived.Test.YtagebdhlgnlcnaaGreatDoorLib3
import Derived.Test.YtagebdhlgnlcnaaGreatDoorLib1
import Derived.Lib.Bytealg
import Derived.Laws.RangeAny
namespace Go.Ab
open Go
set_option linter.unusedVariables false
set_option linter.unusedSimpArgs false
set_option linter.unusedSectionVars false
section
variable {P : Program} {D : Dat} {F : Fr} {ρ : List Slot} {ts : TS D.T} {σ : St} {lv : Nat}
def Ent.Flat (P : Program) (e : Ent D) (x : HL D.T (Sh.tysL e.args ++ tysO e.aos)) (o : HL D.T (Sh.tysL e.outs ++ tysO e.ros) ⊕ HL D.T (e.pan.tys ++ tysO e.pos)) : Prop :=
 ∀ (lv : Nat) (L : List (Option AObj)) (E : Nat → Nat → Option AObj) (ρ0 : List Slot) (vargs : List V), ρ0.length = e.aos.length → VRL D ρ0 lv (bldL D (fun k => k) e.args (HL.fst _ x)) vargs →
  (∀ j o, (j, o) ∈ bldOs D (fun k => k) e.aos 0 (HL.snd _ x) → ∃ sl, ρ0[j]? = some sl ∧ OR D ρ0 lv L sl o) →
  (∀ (s s' : Nat) (sl sl' : Slot) (i : Nat), ρ0[s]? = some sl → ρ0[s']? = some sl' → sl.k = some i → sl'.k = some i → s = s') →
  HRel P e.f vargs ⟨lv, L, E⟩ fun out H' => ∃ L' ρ', H' = ⟨lv, L', E⟩ ∧
   match o with
   | .inl y => Left D lv L ρ0 e.p L' ρ' e.ros (HL.snd _ y) ∧ (∀ q ∈ e.ren, ∀ sl, ρ0[q.1]? = some sl → ∃ sl', ρ'[q.2]? = some sl' ∧ sl'.v = sl.v) ∧ ∃ vs, out = .ret (tupOf vs) ∧ VRL D ρ' lv (bldL D (fun k => k) e.outs (HL.fst _ y)) vs
   | .inr y => Left D lv L ρ0 e.p L' ρ' e.pos (HL.snd _ y) ∧ ∃ v, out = .pan v ∧ VR D ρ' lv (bldV D (fun k => k) e.pan (HL.fst _ y)) v
def Ent.Pure (P : Program) (e : Ent D) (x : HL D.T (Sh.tysL e.args ++ tysO e.aos)) (y : HL D.T (Sh.tysL e.outs ++ tysO e.ros)) : Prop :=
 e.aos = [] ∧ e.ros = [] ∧ e.ren = [] ∧ ∀ (lv : Nat) (vargs : List V), VRL D [] lv (bldL D (fun k => k) e.args (HL.fst _ x)) vargs → ∃ vs, (∀ ρ lv', VRL D ρ lv' (bldL D (fun k => k) e.outs (HL.fst _ y)) vs) ∧ PCall P e.f vargs (tupOf vs)
def Ent.Ok (P : Program) (e : Ent D) : Prop := ∀ (R : Type) (x : HL D.T (Sh.tysL e.args ++ tysO e.aos)) (k : HL D.T (Sh.tysL e.outs ++ tysO e.ros) → Option R) (kp : HL D.T (e.pan.tys ++ tysO e.pos) → Option R) (r : R), e.go x k kp = some r →
 match e.pure with
 | true => ∃ y, k y = some r ∧ e.Pure P x y
 | false => (∃ y, k y = some r ∧ e.Flat P x (.inl y)) ∨ ∃ y, kp y = some r ∧ e.Flat P x (.inr y)
theorem TRr.renAfter {M : Bnds D.T} {p nx : Nat} {ρ0 ρ' : List Slot} (hA : ∀ k s, fnd M k = some (.slot s) → ∃ sl, ρ0[k]? = some sl ∧ ρ[s]? = some sl) (hm : Maps (outSlot D M p nx) ρ' ρ) : ∀ (l : List (Nat × Nat)) {ts : TS D.T}, (∀ q ∈ l, ∀ sl, ρ0[q.1]? = some sl → ∃ sl', ρ'[q.2]? = some sl' ∧ sl'.v = sl.v) → TRr D F ρ ts σ → TRr D F ρ (Go.Ab.renAfter D M p nx l ts) σ
 | [], ts, _, hR => hR
 | q :: l, ts, h, hR => by
   simp only [Go.Ab.renAfter]
   split
   · rename_i s hs
     obtain ⟨sl, h1, h2⟩ := hA _ _ hs
     obtain ⟨sl', h3, h4⟩ := h q List.mem_cons_self sl h1
     exact TRr.renAfter hA hm l (fun q hq => h q (List.mem_cons_of_mem _ hq)) (hR.mapV _ fun x v hx => VR.ren h2 (hm _ _ h3) h4 hx)
   · exact TRr.renAfter hA hm l (fun q hq => h q (List.mem_cons_of_mem _ hq)) hR
variable (hD : D.Ok P)
include hD
theorem VR.tupT {cs : List (TV D.T)} {vs : List V} (h : VRL D ρ lv cs vs) : VR D ρ lv (Go.Ab.tupT D cs) (tupOf vs) := by
 cases cs with
 | nil => simp only [VRL] at h; subst h; simp only [Go.Ab.tupT, tupOf, VR]; exact ⟨[], rfl, by simp only [VRL]⟩
 | cons c cs =>
   have h0 := h
   simp only [VRL] at h
   obtain ⟨v, r, rfl, h1, h2⟩ := h
   cases cs with
   | nil => simp only [VRL] at h2; subst h2; exact h1
   | cons d ds =>
     have h20 := h2
     simp only [VRL] at h2
     obtain ⟨v', r', rfl, _, _⟩ := h2
     simp only [Go.Ab.tupT, tupOf, VR]
     exact ⟨_, rfl, h0⟩
theorem Ent.fit_sound (hR : TRr D F ρ ts σ) {e : Ent D} {vs : List (TV D.T)} {vargs : List V} {M : Bnds D.T} {x : HL D.T (Sh.tysL e.args ++ tysO e.aos)} (hv : VRL D ρ F.lv vs vargs) (h : e.fit D vs ts = .ok (M, x)) :
  MOk e.aos.length M ∧ ∃ ρ0 : List Slot, ρ0.length = e.aos.length ∧ Agr ρ M ρ0 ∧ (∀ j sl, ρ0[j]? = some sl → ∃ src, fnd M j = some src ∧ src.is ρ sl ∧ ∀ s, src = .slot s → ∃ o', fnd ts.o s = some o' ∧ o'.live) ∧
   VRL D ρ0 F.lv (bldL D (fun k => k) e.args (HL.fst _ x)) vargs ∧ ∀ j o, (j, o) ∈ bldOs D (fun k => k) e.aos 0 (HL.snd _ x) → ∃ sl, ρ0[j]? = some sl ∧ OR D ρ0 F.lv σ.H.L sl o := by
 unfold Ent.fit at h
 split at h
 ·rename_i M1 y hy
  split at h
  ·rename_i M2 z hz
   cases h
   obtain ⟨a1, a2, a3⟩ := fitL_sound hD e.args hy hv
   obtain ⟨b1, b2, b3, b4⟩ := fitOs_sound hD hR e.aos hz
   have hM : MOk e.aos.length M := b2 (a2 ⟨fun k src h => by simp [fnd] at h, fun k k' s h => by simp [fnd] at h, fun k src h => by cases h⟩)
   obtain ⟨ρ0, c1, c2, c3⟩ := agr_of hR hM fun j hj => by simpa using b3 j hj
   refine ⟨hM, ρ0, c1, c2, fun j sl hj => ?_, by rw [HL.fst_app]; exact a3 ρ0 (b1.agr c2), fun j o hm => ?_⟩
   ·obtain ⟨src, e1, e2⟩ := c3 j sl hj
    obtain ⟨src', e3, e4⟩ := b3 j (by rw [← c1]; exact (List.getElem?_eq_some_iff.1 hj).1)
    rw [Nat.zero_add, e1] at e3; injection e3 with e3; subst e3
    exact ⟨src, e1, e2, e4⟩
   ·rw [HL.snd_app] at hm
    obtain ⟨_, _, _, e5⟩ := b4 ρ0 c2 j o hm
    exact e5
  ·cases h
  ·cases h
 ·cases h
 ·cases h
omit hD in
theorem setH_self (hR : TRr D F ρ ts σ) : { σ with H := ⟨F.lv, σ.H.L, F.E⟩ } = σ := by
 have e1 := hR.lv; have e2 := hR.E
 obtain ⟨t, ⟨l, L, E⟩, d, e0⟩ := σ
 simp only at e1 e2; subst e1; subst e2; rfl
omit hD in
theorem slots_inj (hR : TRr D F ρ ts σ) {M : Bnds D.T} {n : Nat} (hM : MOk n M) {ρ0 : List Slot} (h0 : ∀ j sl, ρ0[j]? = some sl → ∃ src, fnd M j = some src ∧ src.is ρ sl ∧ ∀ s, src = .slot s → ∃ o', fnd ts.o s = some o' ∧ o'.live) :
  ∀ (s s' : Nat) (sl sl' : Slot) (i : Nat), ρ0[s]? = some sl → ρ0[s']? = some sl' → sl.k = some i → sl'.k = some i → s = s' := fun s s' sl sl' i h1 h2 k1 k2 => by
 obtain ⟨src, e1, e2, e3⟩ := h0 s sl h1
 obtain ⟨src', f1, f2, f3⟩ := h0 s' sl' h2
 cases src with
 | nil => simp only [Src.is] at e2; subst e2; cases k1
 | slot q =>
   cases src' with
   | nil => simp only [Src.is] at f2; subst f2; cases k2
   | slot q' =>
     obtain ⟨o, g1, g2⟩ := e3 q rfl
     obtain ⟨o', g3, g4⟩ := f3 q' rfl
     have := hR.inj q q' o o' sl sl' i g1 g3 g2 g4 e2 f2 k1 k2
     subst this
     exact hM.inj s s' q e1 f1
theorem tCall_sound {R : Type} (hR : TRr D F ρ ts σ) {f : Nat} {vs : List (TV D.T)} {vargs : List V} {k kp : TV D.T → TS D.T → Option R} {kf : Nat → Option R} {r : R} (hv : VRL D ρ F.lv vs vargs) : ∀ {tbl : List (Ent D)}, (∀ e ∈ tbl, e.Ok P) → tCall D f vs ts k kp kf tbl = some r →
  ((∃ e ∈ tbl, e.pure = false) ∧ ∃ (Post : Out → Heap → Prop), HRel P f vargs σ.H Post ∧ (∀ rv H', Post (.ret rv) H' → ∃ z ts' ρ', VR D ρ' F.lv z rv ∧ TRr D F ρ' ts' { σ with H := H' } ∧ k z ts' = some r) ∧
    (∀ v H', Post (.pan v) H' → ∃ z ts' ρ', VR D ρ' F.lv z v ∧ TRr D F ρ' ts' { σ with H := H' } ∧ kp z ts' = some r)) ∨
  (∃ rv, PCall P f vargs rv ∧ ∃ z ρ' ts', (∀ ρ', VR D ρ' F.lv z rv) ∧ TRr D F ρ' ts' σ ∧ k z ts' = some r ∧ ts'.t = ts.t ∧ ts'.nt = ts.nt) ∨ ∃ s, kf s = some r
 | [], _, h => by simp [tCall, pCall] at h
 | e :: tbl, htbl, h => by
   have up : ∀ {A B : Prop}, (((∃ e ∈ tbl, e.pure = false) ∧ A) ∨ B) → ((∃ e' ∈ e :: tbl, e'.pure = false) ∧ A) ∨ B := fun {A B} h => h.imp (fun ⟨⟨e', h1, h2⟩, h3⟩ => ⟨⟨e', List.mem_cons_of_mem _ h1, h2⟩, h3⟩) fun h => h
   simp only [tCall] at h
   split at h
   · exact up (tCall_sound hR hv (fun e he => htbl e (List.mem_cons_of_mem _ he)) h)
   · rename_i hf
     have hf := Nat.eq_of_beq_eq_true hf
     subst hf
     split at h
     · exact up (tCall_sound hR hv (fun e he => htbl e (List.mem_cons_of_mem _ he)) h)
     · exact .inr (.inr ⟨_, h⟩)
     · rename_i M x hfit
       split at h
       · rename_i hc
         obtain ⟨c1, c2, c3, c4⟩ := hc
         obtain ⟨hM, ρ0, d1, d2, d3, d4, d5⟩ := Ent.fit_sound hD hR hv hfit
         have hp : ∀ k, k < e.p → ∃ s, fnd M k = some (.slot s) := fun k hk => by
           have := List.all_eq_true.1 c4 k (List.mem_range.2 hk)
           split at this
           · rename_i s hs; exact ⟨s, hs⟩
           · cases this
         have hmk : ∀ k s, (k, Src.slot s) ∈ M → fnd M k = some (.slot s) := fun k s hm => hM.one k _ hm
         have hinj := slots_inj hR hM d3
         have hok := htbl e List.mem_cons_self _ _ _ _ _ h
         cases hpure : e.pure with
         | true =>
           rw [hpure] at hok
           obtain ⟨y, hy, e1, e2, en, e3⟩ := hok
           have hr0 : ρ0 = [] := List.eq_nil_of_length_eq_zero (by rw [d1, e1]; rfl)
           rw [hr0] at d4
           obtain ⟨us, f1, f2⟩ := e3 F.lv vargs d4
           have hleft : Left D F.lv σ.H.L ρ0 e.p σ.H.L [] e.ros (HL.snd _ y) := by
             refine ⟨by rw [e2]; rfl, fun j o hm => ?_, fun s s' sl sl' i h1 => by simp at h1, fun s sl i h1 => by simp at h1, fun i hi _ => ⟨hi, rfl⟩, fun j sl hj hs => ?_⟩
             · obtain ⟨j', _, hlt, _⟩ := bldOs_at e.ros hm
               rw [e2] at hlt; simp at hlt
             · rw [hr0] at hs; simp at hs
           obtain ⟨g1, g2⟩ := TRr.after hR hD hM d2 d3 hmk hp c2 hleft
           rw [setH_self hR] at g1
           rw [en] at hy
           exact .inr (.inl ⟨_, f2, _, _, _, fun ρ' => VR.tupT hD (VRL.maps (ρ := []) (fun j sl hj => by simp at hj) hD e.outs (f1 _ _)), g1, hy, rfl, rfl⟩)
         | false =>
           rw [hpure] at hok
           have hHeap : σ.H = ⟨F.lv, σ.H.L, F.E⟩ := heap_eta σ.H hR.lv hR.E
           refine .inl ⟨⟨e, List.mem_cons_self, hpure⟩, ?_⟩
           rcases hok with ⟨y, hy, hflat⟩ | ⟨y, hy, hflat⟩
           · have hh := hflat F.lv σ.H.L F.E ρ0 vargs d1 d4 d5 hinj
             rw [← hHeap] at hh
             refine ⟨_, hh, fun rv H' ⟨L', ρ', e1, e2, en, vs', e3, e4⟩ => ?_, fun v H' ⟨L', ρ', e1, e2, en, vs', e3, e4⟩ => (by cases e3)⟩
             injection e3 with e3
             subst e1; subst e3
             obtain ⟨g1, g2⟩ := TRr.after hR hD hM d2 d3 hmk hp c2 e2
             exact ⟨_, _, _, VR.tupT hD (VRL.maps g2 hD e.outs e4), g1.renAfter (fun k s hk => (d2 k _ hk).imp fun sl h => ⟨h.1, lookup_append h.2⟩) g2 _ en, hy⟩
           · have hh := hflat F.lv σ.H.L F.E ρ0 vargs d1 d4 d5 hinj
             rw [← hHeap] at hh
             refine ⟨_, hh, fun v H' ⟨L', ρ', e1, e2, vs', e3, e4⟩ => (by cases e3), fun rv H' ⟨L', ρ', e1, e2, vs', e3, e4⟩ => ?_⟩
             injection e3 with e3
             subst e1; subst e3
             obtain ⟨g1, g2⟩ := TRr.after hR hD hM d2 d3 hmk hp c3 e2
             exact ⟨_, _, _, VR.maps g2 hD e.pan e4, g1, hy⟩
       · cases h
theorem tCallC_sound {R : Type} (hR : TRr D F ρ ts σ) {f : Nat} {vs : List (TV D.T)} {vargs : List V} {chk : Bnds D.T → Bool} {k kp : TV D.T → TS D.T → Option R} {r : R} (hv : VRL D ρ F.lv vs vargs) : ∀ {tbl : List (Ent D)}, (∀ e ∈ tbl, e.Ok P ∧ e.pure = false) → tCallC D f vs ts chk k kp tbl = some r →
  ∃ (M : Bnds D.T) (Post : Out → Heap → Prop), chk M = true ∧ (∀ k s, (k, Src.slot s) ∈ M → ∃ o', fnd ts.o s = some o' ∧ o'.live) ∧ HRel P f vargs σ.H Post ∧
   (∀ out H', Post out H' → H'.lv = F.lv ∧ ∀ i, i < σ.H.L.length → (∀ k s sl, (k, Src.slot s) ∈ M → ρ[s]? = some sl → sl.k ≠ some i) → H'.L[i]? = σ.H.L[i]?) ∧
   (∀ rv H', Post (.ret rv) H' → ∃ z ts' ρ', VR D ρ' F.lv z rv ∧ TRr D F ρ' ts' { σ with H := H' } ∧ k z ts' = some r) ∧
   (∀ v H', Post (.pan v) H' → ∃ z ts' ρ', VR D ρ' F.lv z v ∧ TRr D F ρ' ts' { σ with H := H' } ∧ kp z ts' = some r)
 | [], _, h => by simp [tCallC, pCallC] at h
 | e :: tbl, htbl, h => by
   simp only [tCallC] at h
   split at h
   · exact tCallC_sound hR hv (fun e he => htbl e (List.mem_cons_of_mem _ he)) h
   · rename_i hf
     have hf := Nat.eq_of_beq_eq_true hf
     subst hf
     split at h
     · rename_i M x hfit
       split at h
       · rename_i hc
         obtain ⟨c0, c1, c2, c3, c4⟩ := hc
         obtain ⟨hM, ρ0, d1, d2, d3, d4, d5⟩ := Ent.fit_sound hD hR hv hfit
         have hp : ∀ k, k < e.p → ∃ s, fnd M k = some (.slot s) := fun k hk => by
           have := List.all_eq_true.1 c4 k (List.mem_range.2 hk)
           split at this
           · rename_i s hs; exact ⟨s, hs⟩
           · cases this
         have hmk : ∀ k s, (k, Src.slot s) ∈ M → fnd M k = some (.slot s) := fun k s hm => hM.one k _ hm
         have hinj := slots_inj hR hM d3
         obtain ⟨hok, hpure⟩ := htbl e List.mem_cons_self
         have hok := hok _ _ _ _ _ h
         rw [hpure] at hok
         have hHeap : σ.H = ⟨F.lv, σ.H.L, F.E⟩ := heap_eta σ.H hR.lv hR.E
         have hlive : ∀ k s, (k, Src.slot s) ∈ M → ∃ o', fnd ts.o s = some o' ∧ o'.live := fun k s hm => by
           obtain ⟨sl, e1, e2⟩ := d2 k _ (hmk k s hm)
           obtain ⟨src, f1, _, f3⟩ := d3 k sl e1
           rw [hmk k s hm] at f1; injection f1 with f1
           exact f3 s f1.symm
         have frame : ∀ {p : Nat} {L' : List (Option AObj)} {ρ' : List Slot} {os : List OSh} {y : HL D.T (tysO os)}, Left D F.lv σ.H.L ρ0 p L' ρ' os y → ∀ i, i < σ.H.L.length → (∀ k s sl, (k, Src.slot s) ∈ M → ρ[s]? = some sl → sl.k ≠ some i) → L'[i]? = σ.H.L[i]? := fun {p L' ρ' os y} hl i hi hno => by
           refine (hl.out i hi fun k sl0 e1 e2 => ?_).2
           obtain ⟨src, f1, f2, f3⟩ := d3 k sl0 e1
           cases src with
           | nil => simp only [Src.is] at f2; subst f2; cases e2
           | slot s => exact hno k s sl0 (fnd_mem f1) f2 e2
         rcases hok with ⟨y, hy, hflat⟩ | ⟨y, hy, hflat⟩
         · have hh := hflat F.lv σ.H.L F.E ρ0 vargs d1 d4 d5 hinj
           rw [← hHeap] at hh
           refine ⟨M, _, c0, hlive, hh, fun out H' ⟨L', ρ', e1, e2, _⟩ => ⟨by rw [e1], fun i hi hno => by rw [e1]; exact frame e2 i hi hno⟩, fun rv H' ⟨L', ρ', e1, e2, en, vs', e3, e4⟩ => ?_, fun v H' ⟨L', ρ', e1, e2, en, vs', e3, e4⟩ => (by cases e3)⟩
           injection e3 with e3
           subst e1; subst e3
           obtain ⟨g1, g2⟩ := TRr.after hR hD hM d2 d3 hmk hp c2 e2
           exact ⟨_, _, _, VR.tupT hD (VRL.maps g2 hD e.outs e4), g1.renAfter (fun k s hk => (d2 k _ hk).imp fun sl h => ⟨h.1, lookup_append h.2⟩) g2 _ en, hy⟩
         · have hh := hflat F.lv σ.H.L F.E ρ0 vargs d1 d4 d5 hinj
           rw [← hHeap] at hh
           refine ⟨M, _, c0, hlive, hh, fun out H' ⟨L', ρ', e1, e2, _⟩ => ⟨by rw [e1], fun i hi hno => by rw [e1]; exact frame e2 i hi hno⟩, fun v H' ⟨L', ρ', e1, e2, vs', e3, e4⟩ => (by cases e3), fun rv H' ⟨L', ρ', e1, e2, vs', e3, e4⟩ => ?_⟩
           injection e3 with e3
           subst e1; subst e3
           obtain ⟨g1, g2⟩ := TRr.after hR hD hM d2 d3 hmk hp c3 e2
           exact ⟨_, _, _, VR.maps g2 hD e.pan e4, g1, hy⟩
       · cases h
     · exact tCallC_sound hR hv (fun e he => htbl e (List.mem_cons_of_mem _ he)) h
omit hD in
theorem satO_weak {ops : Array Oper} {k : Nat} {σ τ : St} {Q : AExit → St → Prop} (hw : Weak σ τ) (h : SatO P ops k τ Q) : SatO P ops k σ Q := fun W0 g0 H0 W a g hB hS hG => by
 obtain ⟨g', h1, h2⟩ := hw W0 g0 H0 W a g hB hS hG
 exact h W0 g0 H0 W a g' hB h1 h2
omit hD in
theorem drop_take_one {ops : Array Oper} {k : Nat} {o : Oper} (ho : ops[k]? = some o) : (ops.toList.drop k).take 1 = [o] := by
 have hk : k < ops.size := by
  rcases Nat.lt_or_ge k ops.size with q | q
  ·exact q
  ·rw [Array.getElem?_eq_none q] at ho; cases ho
 have hk' : k < ops.toList.length := by simpa using hk
 rw [← List.getElem_cons_drop (h := hk')]
 have : ops.toList[k] = o := by
  have h2 : ops.toList[k]? = some o := by simpa using ho
  rw [List.getElem?_eq_getElem hk'] at h2; injection h2
 simp [this]
omit hD in
theorem satO_op {ops : Array Oper} {k : Nat} {σ : St} {Q : AExit → St → Prop} {o : Oper} {v : V} {H' : Heap} (ho : ops[k]? = some o) (hw : wantedV ops σ o = some true) (hox : ox P σ.H σ.ev o.op = some (v, H')) (h : SatO P ops (k + 1) ({ σ with H := H' }.put o.dst v) Q) : SatO P ops k σ Q :=
 satO_step 1 [] ({ σ with H := H' }.put o.dst v) [] (by rw [drop_take_one ho]; simp [runC, hw, hox]) claims_nil h
omit hD in
theorem satO_skip {ops : Array Oper} {k : Nat} {σ : St} {Q : AExit → St → Prop} {o : Oper} (ho : ops[k]? = some o) (hw : wantedV ops σ o = some false) (h : SatO P ops (k + 1) (σ.put o.dst (.tup [])) Q) : SatO P ops k σ Q :=
 satO_step 1 [] (σ.put o.dst (.tup [])) [] (by rw [drop_take_one ho]; simp [runC, hw]) claims_nil h
omit hD in
theorem satO_pcall {ops : Array Oper} {k : Nat} {σ : St} {Q : AExit → St → Prop} {o : Oper} {c : Call} {f : Nat} {args : List V} {v : V} (ho : ops[k]? = some o) (hw : wantedV ops σ o = some true) (hop : o.op = .call c) (hcal : ∃ x, c.callee = .value x) (ht : target σ.ev c = some (f, args)) (hc : PCall P f args v)
  (h : SatO P ops (k + 1) (σ.put o.dst v) Q) : SatO P ops k σ Q := by
 refine satO_step 1 [(v, none)] (σ.put o.dst v) [⟨f, args, σ.H, v, σ.H⟩] ?_ (claims_cons (hc σ.H) claims_nil) h
 obtain ⟨x, hx⟩ := hcal
 have hox : ox P σ.H σ.ev o.op = none := by rw [hop]; simp only [ox, hx, pBuiltin, Option.map_none]
 rw [drop_take_one ho]
 rw [hop] at hox
 simp only [runC, hw, if_true, hop, hox, ht, Option.getD_none]
omit hD in
def Wants (ops : Array Oper) (ts : TS D.T) (o : Oper) : Prop := o.guard = none ∨ ∃ j want d, o.guard = some (j, want) ∧ (ops[j]?).bind (·.dst) = some d ∧ fnd ts.t d = some (.bool want)
omit hD in
theorem TRr.tmp (hR : TRr D F ρ ts σ) {d : Nat} {x : TV D.T} (h : fnd ts.t d = some x) : VR D ρ F.lv x (σ.t.getD d .any) := hR.ev (o := .tmp d) h
omit hD in
theorem Wants.wanted (hR : TRr D F ρ ts σ) {ops : Array Oper} {o : Oper} (h : Wants ops ts o) : wantedV ops σ o = some true := by
 unfold wantedV
 rcases h with h | ⟨j, want, d, h1, h2, h3⟩
 ·rw [h]
 ·have := hR.tmp h3
  simp only [VR] at this
  rw [h1]
  simp only [h2, this, beq_self_eq_true]
omit hD in
theorem Wants.freeze {ops : Array Oper} {o : Oper} (h : Wants ops ts o) {s : Nat} {ts' : TS D.T} (hf : ts.freeze D s = some ts') : Wants ops ts' o := by
 rcases h with h | ⟨j, want, d, h1, h2, h3⟩
 ·exact .inl h
 ·refine .inr ⟨j, want, d, h1, h2, ?_⟩
  unfold TS.freeze at hf
  split at hf
  ·rename_i ty t xs w _ ho
   injection hf with hf; subst hf
   simp only [TS.mapV]
   rw [fnd_map (TV.frz D s t xs), h3]
   rfl
  ·cases hf
omit hD in
theorem target_of (hR : TRr D F ρ ts σ) {c : Call} {x : Operand} {f : Nat} {a b vs : List (TV D.T)} (hc : c.callee = .value x) (h1 : ts.ev x = some (.fn f a b)) (h2 : ts.evs c.args.toList = some vs) : ∃ args, target σ.ev c = some (f, args) ∧ VRL D ρ F.lv (a ++ vs ++ b) args := by
 have hx := hR.ev h1
 simp only [VR] at hx
 obtain ⟨as, bs, e1, e2, e3⟩ := hx
 exact ⟨as ++ c.args.toList.map σ.ev ++ bs, by simp only [target, hc, e1], (e2.append (hR.evs h2)).append e3⟩
variable {tbl : List (Ent D)}
omit hD in
theorem resolve_sound' {W : World} {a : Act} {g : Gh} {c : Call} {f : Nat} {args : List V} {ty : TypeId} (hρ : ∀ x, Rel W g σ.H (σ.ev x) (a.eval x)) (h : target σ.ev c = some (f, args)) :
  ∃ caps as, RelA W g σ.H args (as ++ caps) ∧ ∀ w : World, (resolve a.eval c ty).run P w = .ok ⟨.fn (.func f) caps, as⟩ w := by
 unfold target at h
 split at h
 ·rename_i fo hc
  split at h
  ·rename_i f' first caps hf
   injection h with h; injection h with h1 h2; subst h1; subst h2
   have hr := hρ fo
   rw [hf] at hr
   generalize hrc : a.eval fo = rc at hr
   cases hr with
   | fn _ _ _ fs cs n1 n2 r1 r2 =>
     refine ⟨cs, fs ++ c.args.map a.eval, relA_append (relA_append ⟨n1, r1⟩ (args_rel hρ c.args)) ⟨n2, r2⟩, fun w => ?_⟩
     simp [resolve, hc, hrc, Deferred.ofValue]
  ·cases h
 ·cases h
omit hD in
theorem satO_defer' {ops : Array Oper} {k : Nat} {σ : St} {Q : AExit → St → Prop} {o : Oper} {c : Call} {f : Nat} {args : List V} (ho : ops[k]? = some o) (hw : wantedV ops σ o = some true) (hop : o.op = .defer c) (ht : target σ.ev c = some (f, args))
  (h : SatO P ops (k + 1) ({ σ with d := (f, args) :: σ.d }.put o.dst .any) Q) : SatO P ops k σ Q := fun W0 g0 H0 W a g hB hS hG => by
 have hk : k < ops.size := by
  rcases Nat.lt_or_ge k ops.size with q | q
  ·exact q
  ·rw [Array.getElem?_eq_none q] at ho; cases ho
 rw [show ops.size - k = (ops.size - (k + 1)) + 1 by omega, List.range'_succ]
 simp only [wpOps, ho]
 rw [wantedV_sound hG hw, if_pos rfl]
 left
 unfold Oper.wp
 obtain ⟨caps, as, k1, k2⟩ := resolve_sound' (P := P) (ty := o.type) hG.ev ht
 have hex : (execOp a.eval o).run P W = .ok (.defer ⟨.fn (.func f) caps, as⟩) W := by
  unfold execOp; rw [hop]; simp [k2 W]
 rw [hex]
 have hG2 : GoodSt W { a with defers := ⟨.fn (.func f) caps, as⟩ :: a.defers } g { σ with d := (f, args) :: σ.d } := by
  refine ⟨hG.good, hG.size, hG.tmps, by simp [hG.dlen], fun j f' vs hj => ?_⟩
  cases j with
  | zero => simp at hj; obtain ⟨rfl, rfl⟩ := hj; exact ⟨caps, as, rfl, k1⟩
  | succ j => exact hG.defs j f' vs (by simpa using hj)
 have hG3 := hG2.next (.refl _ _ _) hG.good (.any undef) o.dst
 have hH : ({ σ with d := (f, args) :: σ.d }.put o.dst .any).H = σ.H := by cases o.dst <;> rfl
 have he : ({ σ with d := (f, args) :: σ.d }.put o.dst .any).e0 = σ.e0 := by cases o.dst <;> rfl
 exact h W0 g0 H0 W _ g hB (by rw [hH, he]; exact hS) hG3
omit hD in
theorem satO_turn' {ops : Array Oper} {k : Nat} {σ : St} {Q : AExit → St → Prop} {o : Oper} {v : V} {H' : Heap} (ho : ops[k]? = some o) (hw : wantedV ops σ o = some true)
  (ht : ∀ W a g, GoodSt W a g σ → Turns P W g σ.H (execOp a.eval o) v H') (h : SatO P ops (k + 1) ({ σ with H := H' }.put o.dst v) Q) : SatO P ops k σ Q := fun W0 g0 H0 W a g hB hS hG => by
 have hk : k < ops.size := by
  rcases Nat.lt_or_ge k ops.size with q | q
  ·exact q
  ·rw [Array.getElem?_eq_none q] at ho; cases ho
 rw [show ops.size - k = (ops.size - (k + 1)) + 1 by omega, List.range'_succ]
 simp only [wpOps, ho]
 rw [wantedV_sound hG hw, if_pos rfl]
 left
 unfold Oper.wp
 obtain ⟨c, W', g', h1, h2, h3, h4⟩ := ht W a g hG
 have hn := hG.next h2 h3 h4 o.dst
 have hH : ({ σ with H := H' }.put o.dst v).H = H' := by cases o.dst <;> rfl
 have he : ({ σ with H := H' }.put o.dst v).e0 = σ.e0 := by cases o.dst <;> rfl
 have fin := h W0 g0 H0 W' (a.put o.dst c) g' hB (by rw [hH, he]; exact ⟨hS.1, hS.2.trans h2⟩) hn
 rcases h1 with h1 | ⟨h1, rfl⟩
 ·rw [h1]; exact fin
 ·rw [h1]; exact fin
omit hD in
theorem TRr.defer (hR : TRr D F ρ ts σ) {f : Nat} {xs : List (TV D.T)} {args : List V} (h : VRL D ρ F.lv xs args) : TRr D F ρ { ts with d := (f, xs) :: ts.d } { σ with d := (f, args) :: σ.d } :=
 ⟨hR.nx, hR.nt, hR.tm, hR.ob, hR.inj, hR.mine, hR.lv, hR.E, hR.e0, ⟨args, σ.d, rfl, h, hR.d⟩, hR.out, hR.pin⟩
omit hD in
theorem bytesV_of : ∀ (xs : List Int) (ws : List V), ws.length = xs.length → (∀ (j : Nat) (x : Int) (w : V), xs[j]? = some x → ws[j]? = some w → DR D (.int .u8) x w) → bytesV ws = strI xs
 | [], ws, hl, h => by obtain rfl : ws = [] := List.eq_nil_of_length_eq_zero hl; rfl
 | x :: xs, [], hl, h => by simp at hl
 | x :: xs, w :: ws, hl, h => by
   have h0 := h 0 x w rfl rfl
   have ih := bytesV_of xs ws (by simpa using hl) fun j y u hy hu => h (j + 1) y u (by simpa using hy) (by simpa using hu)
   cases h0
   simp only [bytesV, strI, ih]
   cases x with
   | ofNat m => cases strI xs <;> rfl
   | negSucc m => cases strI xs <;> rfl
theorem tOne_sound {R : Type} {ops : Array Oper} {n : Nat} {o : Oper} {Q : AExit → St → Prop} {k kp : TV D.T → TS D.T → Option R} {r : R} (ho : ops[n]? = some o) (htbl : ∀ e ∈ tbl, e.Ok P)
  (hk : ∀ z ts' σ' ρ' v, TRr D F ρ' ts' σ' → VR D ρ' F.lv z v → k z ts' = some r → SatO P ops (n + 1) (σ'.put o.dst v) Q)
  (hkp : ∀ z ts' σ' ρ' v, TRr D F ρ' ts' σ' → VR D ρ' F.lv z v → kp z ts' = some r → Q (.panic v) σ') : ∀ (fuel : Nat) {ts : TS D.T} {σ : St} {ρ : List Slot}, TRr D F ρ ts σ → Wants ops ts o → tOne P D tbl o.op k kp fuel ts = some r → SatO P ops n σ Q
 | 0, ts, σ, ρ, hR, hw, h => by simp [tOne] at h
 | fuel + 1, ts, σ, ρ, hR, hw, h => by
   have hkf : ∀ s, (match ts.freeze D s with | some ts' => tOne P D tbl o.op k kp fuel ts' | none => none) = some r → SatO P ops n σ Q := fun s hs => by
     cases hf : ts.freeze D s with
     | none => rw [hf] at hs; cases hs
     | some ts' =>
       rw [hf] at hs
       obtain ⟨τ, h1, h2⟩ := freeze_sound hR hf
       exact satO_weak h1 (tOne_sound ho htbl hk hkp fuel h2 (hw.freeze hf) hs)
   have hop : ∀ {kf : Nat → Option R}, (∀ s, kf s = some r → SatO P ops n σ Q) → tOp P D ts o.op k kf = some r → SatO P ops n σ Q := fun {kf} hkf h => by
     rcases tOp_sound hD hR h with ⟨z, ts', v, H', ρ', h1, h2, h3, h4⟩ | ⟨s, hs⟩
     · exact satO_op ho (hw.wanted hR) h1 (hk z ts' _ ρ' v h3 h2 h4)
     · exact hkf s hs
   unfold tOne at h
   simp only at h
   split at h
   · rename_i c hc
     split at h
     · rename_i x hcal
       split at h
       · rename_i f a b vs hx hvs
         obtain ⟨args, t1, t2⟩ := target_of hR hcal hx hvs
         rcases tCall_sound hD hR t2 htbl h with ⟨_, Post, h1, h2, h3⟩ | ⟨rv, h1, z, ρ', ts', h2, h3, h4, _⟩ | ⟨s, hs⟩
         · refine satO_call ho (hw.wanted hR) hc t1 h1 (fun rv H' hp => ?_) fun v H' hp => ?_
           · obtain ⟨z, ts', ρ', k1, k2, k3⟩ := h2 rv H' hp
             exact hk z ts' _ ρ' rv k2 k1 k3
           · obtain ⟨z, ts', ρ', k1, k2, k3⟩ := h3 v H' hp
             exact hkp z ts' _ ρ' v k2 k1 k3
         · exact satO_pcall ho (hw.wanted hR) hc ⟨x, hcal⟩ t1 h1 (hk z ts' σ ρ' rv h3 (h2 _) h4)
         · exact hkf s hs
       · cases h
     · exact hop hkf h
   · rename_i x hc
     split at h
     · rename_i t v hx
       have hv := hR.ev hx
       simp only [VR] at hv
       obtain ⟨u, e1, e2⟩ := hv
       exact satO_panic ho (hw.wanted hR) hc e1 (hkp _ ts σ ρ _ hR (by simp only [VR]; exact ⟨u, rfl, e2⟩) h)
     · cases h
   · rename_i c hc
     split at h
     · rename_i x hcal
       split at h
       · rename_i f a b vs hx hvs
         obtain ⟨args, t1, t2⟩ := target_of hR hcal hx hvs
         exact satO_defer' ho (hw.wanted hR) hc t1 (hk .any _ _ ρ .any (hR.defer t2) (by simp only [VR]) h)
       · cases h
     · cases h
   · rename_i bo t x y ty hc
     split at h
     · rename_i hx hy
       split at h
       · rename_i hi hu
         have h1 := hR.ev hx
         have h2 := hR.ev hy
         simp only [VR] at h1 h2
         have turn : ∀ {b : Bool}, hEqNil P bo t x y .nili .nili = some (.bool b) → k (.bool b) ts = some r → SatO P ops n σ Q := fun {b} hb hkk => by
           refine satO_turn' ho (hw.wanted hR) (fun W a g hG => more_sound hG.good hG.ev (v := .bool b) (H' := σ.H) ?_) (hk (.bool b) ts _ ρ (.bool b) hR (by simp only [VR]) hkk)
           rw [hc]
           simp only [hMore, hEq2, h1, h2, hb, Option.map_some]
         split at h
         · exact turn (by simp only [hEqNil, hi, hu]) h
         · exact turn (by simp only [hEqNil, hi, hu]) h
         · cases h
       · cases h
     · exact hop hkf h
   · rename_i t hc
     split at h
     · rename_i i hz hi
       split at h
       · rename_i hb
         simp only [Bool.and_eq_true] at hb
         have hsz : i.size = 2 := Nat.eq_of_beq_eq_true hb.2
         have hm : hMore P σ.H σ.ev o.op = some (.ap σ.H.lv σ.H.L.length 0 0 0, σ.H.push (.arr 0 t 2 [.agg [.nilp, .nils]] (some 1))) := by
           rw [hc]
           simp only [hMore, hb.1, hAllocA, hz, hi, hsz]
           rfl
         refine satO_turn' ho (hw.wanted hR) (fun W a g hG => more_sound hG.good hG.ev hm) (hk (.bp ts.nx 0) _ _ (ρ ++ [⟨.any, some σ.H.L.length, []⟩]) _ ?_ ?_ h)
         · refine hR.new _ _ _ hR.lv hR.E (by simp [Heap.push]) (fun i hi => by simp only [Heap.push]; rw [List.getElem?_append_left hi]) (fun i hi => by injection hi with hi; omega) ?_
           simp only [OR]
           exact ⟨σ.H.L.length, .nilp, .nils, rfl, by simp [Heap.push], .inl rfl, by simp only [bufT, VR]⟩
         · simp only [VR]
           exact ⟨⟨.any, some σ.H.L.length, []⟩, σ.H.L.length, by rw [← hR.nx]; simp, rfl, by rw [hR.lv]⟩
       · exact hop hkf h
     · exact hop hkf h
   · rename_i s d x hc
     split at h
     · rename_i xs fl hx
       split at h
       · rename_i e hus hud
         split at h
         · rename_i hue
           obtain ⟨y, hy, h⟩ := bnd_of h
           have hv := hR.ev hx
           simp only [VR] at hv
           have hs : hStr P s d (σ.ev x) = some (.str y) := by
             unfold hStr
             rw [hus, hud]
             simp only [hue]
             obtain ⟨hv, _⟩ := hv
             generalize σ.ev x = u at hv
             cases hv with
             | nil => simp only [strI, Option.some.injEq] at hy; subst hy; rfl
             | sl _ _ ws full hl hh =>
               simp only [Dat.len]
               rw [bytesV_of xs ws hl hh, hy]
               rfl
           refine satO_turn' ho (hw.wanted hR) (fun W a g hG => ?_) (hk (.str y) ts _ ρ (.str y) hR (by simp only [VR]) h)
           have hx' := hG.ev x
           unfold execOp
           rw [hc]
           exact sound_hStr hG.good hs hx'
         · cases h
       · cases h
     · exact hop hkf h
   · exact hop hkf h
omit hD in
theorem guard_sound {R : Type} {ops : Array Oper} {n : Nat} {o : Oper} {go skip : TS D.T → Option R} {r : R} {G : Prop} (hR : TRr D F ρ ts σ) (h : tGuard D ops.toList o ts go skip = some r)
  (h1 : ∀ ts', ts'.o = ts.o → TRr D F ρ ts' σ → Wants ops ts' o → go ts' = some r → G) (h2 : ∀ ts', ts'.o = ts.o → TRr D F ρ ts' σ → wantedV ops σ o = some false → skip ts' = some r → G) : G := by
 unfold tGuard at h
 split at h
 ·rename_i hg; exact h1 ts rfl hR (.inl hg) h
 ·rename_i j want hg
  have hj : ops.toList[j]? = ops[j]? := by simp
  rw [hj] at h
  split at h
  ·cases h
  ·rename_i d hd
   have tell : ∀ b : Bool, fnd ts.t d = some (.bool b) → TRr D F ρ { ts with t := (d, .bool b) :: ts.t } σ ∧ fnd ({ ts with t := (d, .bool b) :: ts.t } : TS D.T).t d = some (.bool b) ∧ σ.t.getD d .any = .bool b := fun b hb => by
    obtain ⟨v, e1, e2⟩ := hR.tm d _ hb
    refine ⟨hR.tell e1 e2, by simp only [fnd_cons, if_true], ?_⟩
    simp only [VR] at e2
    rw [List.getD_eq_getElem?_getD, e1, e2]; rfl
   simp only [pIf_ite] at h
   split at h
   ·rename_i b hb
    have wf : ∀ b' : Bool, b' = b → (b' == want) = false → wantedV ops σ o = some false := fun b' e hne => by
     unfold wantedV
     rw [hg]; simp only [hd, (tell b hb).2.2]; rw [← e, hne]
    split at h
    ·rename_i hbt
     subst hbt
     obtain ⟨t1, t2, t3⟩ := tell true hb
     split at h
     ·rename_i hwt; subst hwt; exact h1 _ (by rfl) t1 (.inr ⟨j, true, d, hg, hd, t2⟩) h
     ·rename_i hwt; exact h2 _ (by rfl) t1 (wf true rfl (by simpa using hwt)) h
    ·rename_i hbf
     have hbf : b = false := by simpa using hbf
     subst hbf
     obtain ⟨t1, t2, t3⟩ := tell false hb
     split at h
     ·rename_i hwt; subst hwt; exact h2 _ (by rfl) t1 (wf false rfl rfl) h
     ·rename_i hwt; have hwt : want = false := by simpa using hwt
      subst hwt; exact h1 _ (by rfl) t1 (.inr ⟨j, false, d, hg, hd, t2⟩) h
   ·rename_i vs hv
    have := hR.tmp hv
    simp only [VR] at this
    obtain ⟨us, e1, e2⟩ := this
    exact h2 ts rfl hR (by unfold wantedV; rw [hg]; simp only [hd, e1]) h
   ·cases h
theorem tOneC_sound {R : Type} {ops : Array Oper} {n : Nat} {o : Oper} {Q : AExit → St → Prop} {k kp : TV D.T → TS D.T → Option R} {r : R} (ho : ops[n]? = some o) (htbl : ∀ e ∈ tbl, e.Ok P)
  (hk : ∀ z ts' σ' ρ' v, TRr D F ρ' ts' σ' → VR D ρ' F.lv z v → k z ts' = some r → SatO P ops (n + 1) (σ'.put o.dst v) Q) (hkp : ∀ z ts' σ' ρ' v, TRr D F ρ' ts' σ' → VR D ρ' F.lv z v → kp z ts' = some r → Q (.panic v) σ') {ts : TS D.T} {σ : St} {ρ : List Slot}
  (hR : TRr D F ρ ts σ) (hw : Wants ops ts o) (h : tOneC P D tbl ops.toList o k kp ts = some r) : SatO P ops n σ Q := by
 unfold tOneC at h
 split at h
 ·rename_i t x lo hcp
  split at h
  ·rename_i cx clo hx hlo
   rcases tCut_sound hR h (hR.ev hx) (hR.ev hlo) with ⟨z, v, h1, h2, h3⟩ | h
   ·refine satO_op (H' := σ.H) ho (hw.wanted hR) ?_ (hk z ts _ ρ v hR h2 h3)
    unfold cpB at hcp
    split at hcp
    ·rename_i t' x' lo' d hop hdst
     split at hcp
     ·injection hcp with hcp
      injection hcp with e1 hcp
      injection hcp with e2 e3
      subst e1; subst e2; subst e3
      rw [hop]
      simp only [ox, pv, Option.map_some, Option.map_none, h1]
     ·cases hcp
    ·cases hcp
   ·exact tOne_sound hD ho htbl hk hkp 9 hR hw h
  ·cases h
 ·exact tOne_sound hD ho htbl hk hkp 9 hR hw h
theorem runOps_sound {R : Type} {ops : Array Oper} {Q : AExit → St → Prop} {kn : TS D.T → Option R} {kp : TV D.T → TS D.T → Option R} {r : R} (htbl : ∀ e ∈ tbl, e.Ok P)
  (hkn : ∀ ts' σ' ρ', TRr D F ρ' ts' σ' → kn ts' = some r → Q .normal σ') (hkp : ∀ z ts' σ' ρ' v, TRr D F ρ' ts' σ' → VR D ρ' F.lv z v → kp z ts' = some r → Q (.panic v) σ') :
  ∀ (l : List Oper) (n : Nat) {ts : TS D.T} {σ : St} {ρ : List Slot}, (∀ j, l[j]? = ops[n + j]?) → TRr D F ρ ts σ → runOps P D tbl ops.toList kn kp l ts = some r → SatO P ops n σ Q
 | [], n, ts, σ, ρ, hl, hR, h => by
   simp only [runOps] at h
   exact satO_nil (by have := hl 0; simp at this; exact this) (hkn ts σ ρ hR h)
 | o :: l, n, ts, σ, ρ, hl, hR, h => by
   have ho : ops[n]? = some o := by simpa using (hl 0).symm
   have hl' : ∀ j, l[j]? = ops[n + 1 + j]? := fun j => by have := hl (j + 1); simpa [Nat.add_assoc, Nat.add_comm 1 j] using this
   simp only [runOps, pOp] at h
   refine guard_sound (n := n) hR h (fun ts1 _ hR1 hw h1 => ?_) fun ts1 _ hR1 hw h1 => ?_
   · refine tOneC_sound hD ho htbl (fun z ts' σ' ρ' v a1 a2 a3 => ?_) hkp hR1 hw h1
     split at a3
     · rename_i ts2 hp
       exact runOps_sound htbl hkn hkp l (n + 1) hl' (a1.put hp a2) a3
     · cases a3
   · split at h1
     · rename_i ts2 hp
       exact satO_skip ho hw (runOps_sound htbl hkn hkp l (n + 1) hl' (hR1.put hp (by simp only [VR]; exact ⟨[], rfl, by simp only [VRL]⟩)) h1)
     · cases h1
theorem runPure_sound {R : Type} {ops : Array Oper} {kn : TS D.T → Option R} {r : R} (htbl : ∀ e ∈ tbl, e.Ok P) :
  ∀ (l : List Oper) {ts : TS D.T} {σ : St}, TRr D F ρ ts σ → runPure P D tbl ops.toList kn l ts = some r → ∃ ans σ' cl ts', runQ P ops l ans σ = some (σ', [], cl) ∧ (∀ c ∈ cl, c.ok P) ∧ TRr D F ρ ts' σ' ∧ kn ts' = some r
 | [], ts, σ, hR, h => ⟨[], σ, [], ts, rfl, by simp, hR, h⟩
 | o :: l, ts, σ, hR, h => by
   simp only [runPure, pOp] at h
   refine guard_sound (ops := ops) (n := 0) hR h (fun ts1 _ hR1 hw h1 => ?_) fun ts1 _ hR1 hw h1 => ?_
   · have hwt := hw.wanted hR1
     have hpv : ∀ {op : Op}, op = o.op → tP P D ts1 op (fun v => match ts1.put D o.dst v with | some ts => runPure P D tbl ops.toList kn l ts | none => none) (fun _ => none) = some r → ∃ ans σ' cl ts', runQ P ops (o :: l) ans σ = some (σ', [], cl) ∧ (∀ c ∈ cl, c.ok P) ∧ TRr D F ρ ts' σ' ∧ kn ts' = some r := fun {op} he hh => by
       subst he
       rcases tP_sound hD hR1 hh with ⟨x, v, a1, a2, a3⟩ | ⟨s, hs⟩
       · cases hp : ts1.put D o.dst x with
         | none => rw [hp] at a3; cases a3
         | some ts2 =>
           rw [hp] at a3
           obtain ⟨ans, σ', cl, ts', b1, b2, b3, b4⟩ := runPure_sound htbl l (hR1.put hp a2) a3
           exact ⟨ans, σ', cl, ts', by simp only [runQ, hwt, if_true, a1]; exact b1, b2, b3, b4⟩
       · cases hs
     split at h1
     · rename_i c hc
       split at h1
       · rename_i x hcal
         split at h1
         · rename_i f a b vs hx hvs
           obtain ⟨args, t1, t2⟩ := target_of hR1 hcal hx hvs
           rcases tCall_sound hD hR1 t2 (fun e he => htbl e (List.mem_filter.1 he).1) h1 with ⟨⟨e, he, hne⟩, _⟩ | ⟨rv, e1, z, ρ', ts', e2, e3, e4, _⟩ | ⟨s, hs⟩
           · have := (List.mem_filter.1 he).2
             rw [hne] at this; cases this
           · split at e4
             · rename_i ts2 hp
               obtain ⟨ans, σ', cl, ts', b1, b2, b3, b4⟩ := runPure_sound htbl l (hR1.put hp (e2 ρ)) e4
               refine ⟨rv :: ans, σ', ⟨f, args, σ.H, rv, σ.H⟩ :: cl, ts', ?_, claims_cons (e1 σ.H) b2, b3, b4⟩
               have hpn : pv P σ.H σ.ev (.call c) = none := by simp [pv, pBuiltin, hcal]
               simp only [runQ, hwt, if_true, hc, hpn, t1, b1]
             · cases e4
           · cases hs
         · cases h1
       · exact hpv rfl h1
     · unfold tPC at h1
       split at h1
       · rename_i t x lo hcp
         split at h1
         · rename_i cx clo hx hlo
           rcases tCut_sound hR1 h1 (hR1.ev hx) (hR1.ev hlo) with ⟨z, v, a1, a2, a3⟩ | h1
           · cases hp : ts1.put D o.dst z with
             | none => rw [hp] at a3; cases a3
             | some ts2 =>
               rw [hp] at a3
               obtain ⟨ans, σ', cl, ts', b1, b2, b3, b4⟩ := runPure_sound htbl l (hR1.put hp a2) a3
               refine ⟨ans, σ', cl, ts', ?_, b2, b3, b4⟩
               have hpv' : pv P σ.H σ.ev o.op = some v := by
                 unfold cpB at hcp
                 split at hcp
                 · rename_i t' x' lo' d hop hdst
                   split at hcp
                   · injection hcp with hcp
                     injection hcp with e1 hcp
                     injection hcp with e2 e3
                     subst e1; subst e2; subst e3
                     rw [hop]
                     simp only [pv, Option.map_some, Option.map_none, a1]
                   · cases hcp
                 · cases hcp
               simp only [runQ, hwt, if_true, hpv']; exact b1
           · exact hpv rfl h1
         · cases h1
       · exact hpv rfl h1
   · split at h1
     · rename_i ts2 hp
       obtain ⟨ans, σ', cl, ts', b1, b2, b3, b4⟩ := runPure_sound htbl l (hR1.put hp (v := .tup []) (by simp only [VR]; exact ⟨[], rfl, by simp only [VRL]⟩)) h1
       exact ⟨ans, σ', cl, ts', by simp only [runQ, hw]; simpa using b1, b2, b3, b4⟩
     · cases h1
def Keyed (ρ : List Slot) (s i : Nat) : Prop := ∃ sl, ρ[s]? = some sl ∧ sl.k = some i
omit hD in
theorem liveB_get {ts : TS D.T} {s : Nat} (h : liveB ts s = true) : ∃ o, fnd ts.o s = some o ∧ o.live := by
 unfold liveB at h
 split at h
 ·cases h
 ·rename_i o hne ho; exact ⟨o, ho, by cases o <;> first | trivial | exact (hne ho).elim⟩
 ·cases h
omit hD in
theorem get_liveB {ts : TS D.T} {s : Nat} {o : TO D.T} (h : fnd ts.o s = some o) (hl : o.live) : liveB ts s = true := by
 unfold liveB; rw [h]; cases o <;> first | rfl | exact hl.elim
omit hD in
theorem keyed_lt (hR : TRr D F ρ ts σ) {s i : Nat} (hl : liveB ts s = true) (hk : Keyed ρ s i) : i < σ.H.L.length := by
 obtain ⟨o, h1, h2⟩ := liveB_get hl
 obtain ⟨sl, h3, h4⟩ := hk
 obtain ⟨sl', h5, h6⟩ := hR.ob s o h1
 rw [h3] at h5; injection h5 with h5; subst h5
 exact h6.lt h2 h4
omit hD in
theorem keyed_inj (hR : TRr D F ρ ts σ) {s s' i : Nat} (hl : liveB ts s = true) (hl' : liveB ts s' = true) (hk : Keyed ρ s i) (hk' : Keyed ρ s' i) : s = s' := by
 obtain ⟨o, h1, h2⟩ := liveB_get hl
 obtain ⟨sl, h3, h4⟩ := hk
 obtain ⟨o', h1', h2'⟩ := liveB_get hl'
 obtain ⟨sl', h3', h4'⟩ := hk'
 exact hR.inj s s' o o' sl sl' i h1 h1' h2 h2' h3 h3' h4 h4'
structure Prev (ρ : List Slot) (ts : TS D.T) (rds : Rds) (wrs : Wrs) (prev : List (Nat × Info)) : Prop where
 q : ∀ p ∈ prev, p.2.eff = false → (∀ x, ¬ p.2.K x) ∨ ∃ R, (p.1, R) ∈ rds ∧ ∀ l, R = some l → ∀ x, p.2.K x → ∃ s ∈ l, liveB ts s = true ∧ Keyed ρ s x
 e : ∀ p ∈ prev, p.2.eff = true → ∃ w, (p.1, w) ∈ wrs ∧ ∀ s, w = some s → ∀ x, p.2.W x → liveB ts s = true ∧ Keyed ρ s x
def qInfo (ρ : List Slot) (R : List Nat) : Info := ⟨false, fun i => ∃ s ∈ R, Keyed ρ s i, fun _ => False, false⟩
def eInfo (W : Nat → Prop) : Info := ⟨true, fun _ => False, W, false⟩
def cInfo (W : Nat → Prop) : Info := ⟨true, fun _ => False, W, true⟩
omit hD in
theorem beq_ne {q s : Nat} (h : (!Nat.beq q s) = true) : q ≠ s := fun e => by subst e; rw [Nat.beq_refl] at h; cases h
omit hD in
theorem pairs_quiet (hR : TRr D F ρ ts σ) {ops : Array Oper} {k : Nat} {rds : Rds} {wrs : Wrs} {prev : List (Nat × Info)} (hp : Prev (D := D) ρ ts rds wrs prev) {R : List Nat} (hok : rdOk ops.toList k R wrs = true) (hlive : R.all (liveB ts) = true) : GP .any ops prev k (qInfo ρ R) := fun p hj hf => by
 refine ⟨fun h => (by cases h.2), fun _ h => (by cases h), fun _ he x ⟨s, hs, hk⟩ hw => ?_⟩
 obtain ⟨w, hm, hw'⟩ := hp.e p hj he
 have h1 := List.all_eq_true.1 hok (p.1, w) hm
 rw [Bool.or_eq_true] at h1
 rcases h1 with h1 | h1
 ·exact ordB_free h1 hf
 ·cases w with
  | none => cases R with
    | nil => cases hs
    | cons a r => cases h1
  | some s' =>
    cases R with
    | nil => cases hs
    | cons a r =>
      have h2 := beq_ne (List.all_eq_true.1 h1 s hs)
      obtain ⟨k1, k2⟩ := hw' s' rfl x hw
      exact h2 (keyed_inj hR (List.all_eq_true.1 hlive s hs) k1 hk k2)
omit hD in
theorem pairs_eff {ops : Array Oper} {k : Nat} {rds : Rds} {wrs : Wrs} {prev : List (Nat × Info)} (hp : Prev (D := D) ρ ts rds wrs prev) {w : Option Nat} {W : Nat → Prop} (hok : effOk ops.toList k w rds = true) (hes : effsOk ops.toList k wrs = true)
  (hW : ∀ s, w = some s → ∀ q x, liveB ts q = true → Keyed ρ q x → q ≠ s → ¬ W x) : GP .any ops prev k (eInfo W) := fun p hj hf => by
 refine ⟨fun ⟨h, _⟩ => ?_, fun hq _ x hx hw => ?_, fun h => (by cases h)⟩
 ·obtain ⟨w', hm, _⟩ := hp.e p hj h
  exact ordB_free (List.all_eq_true.1 hes (p.1, w') hm) hf
 ·rcases hp.q p hj hq with h | ⟨R, hm, hR⟩
  ·exact h x hx
  ·have h1 := List.all_eq_true.1 hok (p.1, R) hm
   rw [Bool.or_eq_true] at h1
   rcases h1 with h1 | h1
   ·exact ordB_free h1 hf
   ·cases R with
    | none => cases w <;> cases h1
    | some l =>
      obtain ⟨s, hs, k1, k2⟩ := hR l rfl x hx
      cases l with
      | nil => cases hs
      | cons a r =>
        cases w with
        | none => cases h1
        | some s' => exact hW s' rfl s x k1 k2 (beq_ne (List.all_eq_true.1 h1 s hs)) hw
omit hD in
theorem Prev.quiet {ρ : List Slot} {ts ts' : TS D.T} {k : Nat} {rds : Rds} {wrs : Wrs} {prev : List (Nat × Info)} (hp : Prev (D := D) ρ ts rds wrs prev) {R : List Nat} (hlive : R.all (liveB ts) = true) (ho : ts'.o = ts.o) :
  Prev (D := D) ρ ts' ((k, some R) :: rds) wrs ((k, qInfo ρ R) :: prev) := by
 have hl : ∀ s, liveB ts' s = liveB ts s := fun s => by unfold liveB; rw [ho]
 refine ⟨fun p hj hq => ?_, fun p hj he => ?_⟩
 ·rcases List.mem_cons.1 hj with rfl | hj
  ·exact .inr ⟨some R, List.mem_cons_self, fun l hl' x ⟨s, hs, hk⟩ => by injection hl' with hl'; subst hl'; exact ⟨s, hs, by rw [hl]; exact List.all_eq_true.1 hlive s hs, hk⟩⟩
  ·rcases hp.q p hj hq with h | ⟨R, hm, hR⟩
   ·exact .inl h
   ·exact .inr ⟨R, List.mem_cons_of_mem _ hm, fun l hl' x hx => by obtain ⟨s, a, b, c⟩ := hR l hl' x hx; exact ⟨s, a, by rw [hl]; exact b, c⟩⟩
 ·rcases List.mem_cons.1 hj with rfl | hj
  ·cases he
  ·obtain ⟨w, hm, hw⟩ := hp.e p hj he
   exact ⟨w, hm, fun s hs x hx => by rw [hl]; exact hw s hs x hx⟩
omit hD in
theorem Prev.eff {ρ ρ' : List Slot} {ts ts' : TS D.T} {k : Nat} {rds : Rds} {wrs : Wrs} {prev : List (Nat × Info)} (hp : Prev (D := D) ρ ts rds wrs prev) {w : Option Nat} {W : Nat → Prop} {c : Info} (hc : c.eff = true ∧ c.W = W)
  (hold : ∀ s0, w = some s0 → ∀ s x, liveB ts s = true → Keyed ρ s x → liveB ts' s = true ∧ Keyed ρ' s x) (hnew : ∀ s, w = some s → ∀ x, W x → liveB ts' s = true ∧ Keyed ρ' s x) :
  Prev (D := D) ρ' ts' (loseR w rds) ((k, w) :: loseW w wrs) ((k, c) :: prev) := by
 obtain ⟨hce, hcW⟩ := hc
 refine ⟨fun p hj hq => ?_, fun p hj he => ?_⟩
 ·rcases List.mem_cons.1 hj with rfl | hj
  ·rw [hce] at hq; cases hq
  ·rcases hp.q p hj hq with h | ⟨R, hm, hR⟩
   ·exact .inl h
   ·cases w with
    | some s0 => exact .inr ⟨R, hm, fun l hl x hx => by obtain ⟨s, a, b, c⟩ := hR l hl x hx; exact ⟨s, a, hold s0 rfl s x b c⟩⟩
    | none =>
      by_cases hemp : R = some []
      · subst hemp
        exact .inl fun x hx => by obtain ⟨s, a, _⟩ := hR [] rfl x hx; cases a
      · refine .inr ⟨none, List.mem_map.2 ⟨(p.1, R), hm, ?_⟩, fun l hl => by cases hl⟩
        cases R with
        | none => rfl
        | some l => cases l with
          | nil => exact (hemp rfl).elim
          | cons a r => rfl
 ·rcases List.mem_cons.1 hj with rfl | hj
  ·rw [hcW]
   exact ⟨w, List.mem_cons_self, hnew⟩
  ·obtain ⟨w', hm, hw⟩ := hp.e p hj he
   cases w with
   | some s0 => exact ⟨w', List.mem_cons_of_mem _ hm, fun s hs x hx => by obtain ⟨a, b⟩ := hw s hs x hx; exact hold s0 rfl s x a b⟩
   | none => exact ⟨none, List.mem_cons_of_mem _ (List.mem_map.2 ⟨(p.1, w'), hm, rfl⟩), fun s hs => by cases hs⟩
def Lvl (F : Fr) (H : Heap) : Prop := H.lv = F.lv
omit hD in
theorem plainT_V {ρ : List Slot} {lv : Nat} {x : TV D.T} {v : V} (h : VR D ρ lv x v) (hp : x.plainT = true) : v.plain = true := by
 cases x <;> simp only [TV.plainT, Bool.false_eq_true] at hp
 case sl t xs fl => simp only [VR] at h; obtain ⟨h, _⟩ := h; cases h <;> rfl
 case ap s t i x off =>
  simp only [VR] at h
  obtain ⟨sl, w, h1, h2, h3, h4, h5⟩ := h
  split at h5
  ·subst h5; rfl
  ·obtain ⟨ver, n, _, h5⟩ := h5; subst h5; rfl
 case fn f a b => simp only [VR] at h; obtain ⟨as, bs, rfl, _⟩ := h; rfl
 case iface t x => simp only [VR] at h; obtain ⟨y, rfl, _⟩ := h; rfl
 case ref cs off => simp only [VR] at h; obtain ⟨y, rfl, _⟩ := h; rfl
 case ptr s off => simp only [VR] at h; obtain ⟨y, i, _, _, rfl⟩ := h; rfl
 case agg cs => simp only [VR] at h; obtain ⟨y, rfl, _⟩ := h; rfl
 case tup cs => simp only [VR] at h; obtain ⟨y, rfl, _⟩ := h; rfl
 all_goals (simp only [VR] at h; subst h; rfl)
omit hD in
theorem plainO_V (hR : TRr D F ρ ts σ) {x : Operand} {R : List Nat} (h : plainO ts x = some R) : (σ.ev x).plain = true ∧ R = [] := by
 unfold plainO at h
 split at h
 ·rename_i v hv
  split at h
  ·rename_i hp; injection h with h; exact ⟨plainT_V (hR.ev hv) hp, h.symm⟩
  ·cases h
 ·cases h
omit hD in
theorem heap_same (hR : TRr D F ρ ts σ) {s i : Nat} {R : List Nat} (hk : Keyed ρ s i) (hs0 : s ∈ R) {H : Heap} (hl : Lvl F H) (hs : Same (qInfo ρ R).K σ.H H) : H.get F.lv i = σ.H.get F.lv i := by
 unfold Heap.get
 have hl : H.lv = F.lv := hl
 rw [hl, hR.lv, if_pos rfl, if_pos rfl, hs i ⟨s, hs0, hk⟩]
omit hD in
theorem ownO_same (hR : TRr D F ρ ts σ) {x : Operand} {R : List Nat} (h : ownO ts x = some R) {H : Heap} (hl : Lvl F H) (hs : Same (qInfo ρ R).K σ.H H) :
  (σ.ev x).plain = true ∨ ∃ l i ver off n full, σ.ev x = .hs l i ver off n full ∧ H.get l i = σ.H.get l i := by
 unfold ownO at h
 split at h
 ·rename_i s hx
  split at h
  ·rename_i ty t xs w ho
   injection h with h; subst h
   have hv := hR.ev hx
   simp only [VR] at hv
   obtain ⟨sl, h1, h2, h3⟩ := hv
   obtain ⟨sl', k1, k2⟩ := hR.ob s _ ho
   rw [h1] at k1; injection k1 with k1; subst k1
   rw [h2]
   simp only [OR] at k2
   obtain ⟨q1, q2, q3⟩ := k2
   cases hk : sl.k with
   | none =>
     rw [hk] at q3
     rcases q3 with ⟨e, _⟩ | ⟨⟨e, _⟩, _⟩ <;> (left; rw [e]; rfl)
   | some i =>
     rw [hk] at q3
     obtain ⟨ver, cp, e1, e2⟩ := q3
     right
     exact ⟨_, _, _, _, _, _, e1, heap_same hR ⟨sl, h1, hk⟩ (by simp) hl hs⟩
  ·cases h
 ·exact .inl (plainO_V hR h).1
omit hD in
theorem rdK_same (hR : TRr D F ρ ts σ) {op : Op} {R : List Nat} (h : rdK ts op = some R) {H : Heap} (hl : Lvl F H) (hs : Same (qInfo ρ R).K σ.H H) : pv P H σ.ev op = pv P σ.H σ.ev op := by
 cases op <;> simp only [rdK] at h <;> first | (cases h; done) | skip
 case load t a =>
  split at h
  ·rename_i s off ha
   injection h with h; subst h
   have hv := hR.ev ha
   simp only [VR] at hv
   obtain ⟨sl, i, h1, h2, h3⟩ := hv
   simp only [pv, h3]
   refine pLoad_ptr_same ?_
   unfold Heap.get
   have hl : H.lv = F.lv := hl
   rw [hl, hR.lv, if_pos rfl, if_pos rfl, hs i ⟨s, by simp, sl, h1, h2⟩]
  ·rename_i s τ n y off ha
   injection h with h; subst h
   have hv := hR.ev ha
   simp only [VR] at hv
   obtain ⟨sl, w, h1, h2, h3, h4, h5⟩ := hv
   cases hk : sl.k with
   | none => rw [hk] at h5; simp only [pv, h5]; exact pLoad_ref_same
   | some j =>
     rw [hk] at h5
     obtain ⟨ver, m, e1, e2⟩ := h5
     simp only [pv, e2]
     exact pLoad_ap_same (heap_same hR ⟨sl, h1, hk⟩ (by simp) hl hs)
  ·rename_i cs off ha
   have hv := hR.ev ha
   simp only [VR] at hv
   obtain ⟨vs, h3, _⟩ := hv
   simp only [pv, h3]
   exact pLoad_ref_same
  ·cases h
 case indexAddr t x i =>
  simp only [pv]
  rcases ownO_same hR h hl hs with h | ⟨l, j, ver, off, n, full, h, hg⟩
  ·exact pIndexAddr_plain h
  ·rw [h]; exact pIndexAddr_hs_same hg
 case slice t x lo hi mx => simp only [pv]; exact pSlice_plain (plainO_V hR h).1
 case call c =>
  simp only [pv, pBuiltin]
  split at h
  ·rename_i x hc ha
   simp only [hc, ha]
   split
   ·rename_i x' t hx ht
    injection hx with hx; subst hx
    rcases ownO_same hR h hl hs with h | ⟨l, j, ver, off, n, full, h, hg⟩
    ·exact pLen_plain h
    ·rw [h]; exact pLen_hs_same hg
   ·rfl
  ·rename_i hc; simp only [hc]
  ·rename_i hc; simp only [hc]
  ·cases h
 case makeFunc fn a b => cases fn <;> rfl
 all_goals rfl
theorem tStore_ptr {R : Type} (hR : TRr D F ρ ts σ) {t s off : Nat} {x : TV D.T} {va vx : V} {k : TV D.T → TS D.T → Option R} {kf : Nat → Option R} {r : R} (h : tStore P D ts t (.ptr s off) x k kf = some r) (ha : VR D ρ F.lv (.ptr s off) va) (hx : VR D ρ F.lv x vx) :
  ∃ i cs cs' H', Keyed ρ s i ∧ fnd ts.o s = some (.cells cs) ∧ hStore P σ.H t va vx = some (.any, H') ∧ (∀ j, j ≠ i → H'.L[j]? = σ.H.L[j]?) ∧ H'.lv = F.lv ∧ TRr D F ρ (ts.set D s (.cells cs')) { σ with H := H' } ∧ k .any (ts.set D s (.cells cs')) = some r := by
 unfold tStore at h
 split at h
 ·rename_i hc
  simp only [Bool.and_eq_true, beq_iff_eq] at hc
  obtain ⟨⟨c1, c2⟩, c3⟩ := hc
  have hcells := hx.cells c1
  have hcond : (vx.solid && (P.info? t).isSome && vx.cells.length == P.cellsOf t) = true := by
   simp only [Bool.and_eq_true, beq_iff_eq]; exact ⟨⟨hx.solid c1, c2⟩, by rw [← hcells.length]; exact c3⟩
  simp only [VR] at ha
  obtain ⟨sl, i, h1, h2, rfl⟩ := ha
  simp only at h
  split at h
  ·rename_i cs ho
   split at h
   ·rename_i hoff
    obtain ⟨sl', k1, k2⟩ := hR.ob s _ ho
    rw [h1] at k1; injection k1 with k1; subst k1
    simp only [OR] at k2
    obtain ⟨i', vs, q1, q2, q3⟩ := k2
    rw [h2] at q1; injection q1 with q1; subst q1
    have hlt := (List.getElem?_eq_some_iff.1 q2).1
    refine ⟨i, cs, _, σ.H.set F.lv i (.cells (splice vs off vx.cells)), ⟨sl, h1, h2⟩, ho, ?_, fun j hj => ?_, ?_, ?_, h⟩
    ·unfold hStore
     rw [if_pos hcond]
     simp only [hR.get q2]
     rw [if_pos (by rw [← hcells.length, ← q3.length]; exact hoff)]
    ·rw [hR.setH]; exact List.getElem?_set_ne (Ne.symm hj)
    ·rw [hR.setH]; exact hR.lv
    ·rw [hR.setH]
     exact hR.upd ho trivial h1 h2 _ _ (by simp only [OR]; exact ⟨i, _, h2, by simp [hlt], q3.splice hcells off⟩)
   ·cases h
  ·cases h
 ·cases h
omit hD in
theorem put_o {ts ts' : TS D.T} {dst : Option Nat} {v : TV D.T} (h : ts.put D dst v = some ts') : ts'.o = ts.o := by
 unfold TS.put at h
 split at h
 ·injection h with h; subst h; rfl
 ·split at h
  ·injection h with h; subst h; rfl
  ·cases h
omit hD in
theorem live_new (hR : TRr D F ρ ts σ) {o : TO D.T} {s : Nat} (h : liveB ts s = true) : liveB (ts.new D o) s = true := by
 obtain ⟨o', h1, h2⟩ := liveB_get h
 obtain ⟨sl, h3, _⟩ := hR.ob s o' h1
 have hlt := (List.getElem?_eq_some_iff.1 h3).1
 refine get_liveB (o := o') ?_ h2
 simp only [TS.new, fnd_cons]
 rw [if_neg (by rw [← hR.nx]; omega)]; exact h1
omit hD in
theorem keyed_more {s x : Nat} (e : List Slot) (h : Keyed ρ s x) : Keyed (ρ ++ e) s x := by
 obtain ⟨sl, h1, h2⟩ := h
 exact ⟨sl, lookup_append h1, h2⟩
def KpQ (Q : AExit → St → Prop) (v : V) (σ : St) : Prop := ∀ t', t'.length = σ.t.length → Q (.panic v) { σ with t := t' }
omit hD in
theorem pairs_call (hR : TRr D F ρ ts σ) {ops : Array Oper} {k : Nat} {rds : Rds} {wrs : Wrs} {prev : List (Nat × Info)} (hp : Prev (D := D) ρ ts rds wrs prev) {M : Bnds D.T} (hok : callOk ops.toList k rds M = true) (hes : effsOk ops.toList k wrs = true) (hlive : ∀ k s, (k, Src.slot s) ∈ M → ∃ o', fnd ts.o s = some o' ∧ o'.live) :
  GP .any ops prev k (cInfo fun i => ¬ (i < σ.H.L.length ∧ ∀ k s sl, (k, Src.slot s) ∈ M → ρ[s]? = some sl → sl.k ≠ some i)) := fun p hj hf => by
 refine ⟨fun ⟨h, _⟩ => ?_, fun hq _ x hx hw => ?_, fun h => (by cases h)⟩
 ·obtain ⟨w', hm, _⟩ := hp.e p hj h
  exact ordB_free (List.all_eq_true.1 hes (p.1, w') hm) hf
 ·rcases hp.q p hj hq with h | ⟨R, hm, hR'⟩
  ·exact h x hx
  ·have h1 := List.all_eq_true.1 hok (p.1, R) hm
   rw [Bool.or_eq_true] at h1
   rcases h1 with h1 | h1
   ·exact ordB_free h1 hf
   ·cases R with
    | none => cases h1
    | some l =>
      obtain ⟨s, hs, k1, k2⟩ := hR' l rfl x hx
      refine hw ⟨keyed_lt hR k1 k2, fun k' s' sl hm' hsl hk => ?_⟩
      have h2 := List.all_eq_true.1 (List.all_eq_true.1 h1 s hs) _ hm'
      obtain ⟨o', e1, e2⟩ := hlive k' s' hm'
      exact beq_ne h2 (keyed_inj hR k1 (get_liveB e1 e2) k2 ⟨sl, hsl, hk⟩)
omit hD in
theorem tAppD_sound {R : Type} {t u : Nat} {s x : TV D.T} {vs vx : V} {k : TV D.T → Option R} {r : R} (h : tAppD P D t u s x k = some r) (hs : VR D ρ lv s vs) (hx : VR D ρ lv x vx) :
  ∃ z v, pAppData P t u vs vx = some v ∧ (∀ ρ' lv', VR D ρ' lv' z v) ∧ k z = some r := by
 unfold tAppD at h
 split at h
 case h_2 => cases h
 rename_i t' xs
 split at h
 case h_2 => cases h
 rename_i e du ht hu
 split at h
 case h_2 => cases h
 rename_i i τ hi hτ
 split at h
 case h_2 => cases h
 rename_i z hz
 split at h
 case h_2 => cases h
 rename_i hc
 split at h
 case h_2 => cases h
 rename_i xs' ys hxs hys
 obtain ⟨zs, hzs, h⟩ := bnd_of h
 obtain ⟨hroom, rfl⟩ := ext_some hzs
 obtain ⟨rfl, rfl⟩ := lcast_some hxs
 simp only [Bool.and_eq_true, beq_iff_eq, decide_eq_true_eq] at hc
 obtain ⟨⟨⟨⟨c1, c2⟩, c3⟩, c4⟩, c5⟩ := hc
 have c5 := Nat.eq_of_beq_eq_true c5
 have hsrc : ∃ us, srcOf emptyH (D.len t') vx = some us ∧ DRL D t' ys us := by
  unfold tSrcD at hys
  split at hys
  ·injection hys with hys; subst hys
   simp only [VR] at hx; subst hx
   exact ⟨[], rfl, DRL.nil _⟩
  ·rename_i t2 ws fl
   obtain ⟨rfl, rfl⟩ := lcast_some hys
   simp only [VR] at hx
   obtain ⟨hx, _⟩ := hx
   cases hx with
   | nil => exact ⟨[], rfl, DRL.nil _⟩
   | sl _ _ ws full hl hh => exact ⟨ws, by simp [srcOf, elemsOf], hl, hh⟩
  ·cases hys
 obtain ⟨us, hus, hyu⟩ := hsrc
 simp only [VR] at hs
 obtain ⟨hs, hf, _⟩ := hs
 obtain ⟨ws, rfl⟩ := hf (by omega)
 cases hs with
 | sl _ _ _ _ hl hh =>
   have hxy := DRL.append (D := D) ⟨hl, hh⟩ hyu
   refine ⟨_, .sl (D.len t') (ws ++ us) false, ?_, fun ρ' lv' => ?_, h⟩
   · unfold pAppData
     simp only [ht, hu, hi, hz]
     rw [← c5, hus]
     simp only
     have hb : (notInt du && decide (0 < D.len t') && decide (i.bytes ≤ 524288) && z.cells.size == D.len t' && Nat.beq (D.len t') (D.len t') && Nat.ble (ws.length + us.length) roomB) = true := by
       have h1 : Nat.beq (D.len t') (D.len t') = true := Nat.beq_refl _
       have h2 : Nat.ble (ws.length + us.length) roomB = true := by rw [Nat.ble_eq, hl, hyu.1]; exact hroom
       simp only [Bool.and_eq_true, beq_iff_eq, decide_eq_true_eq]
       exact ⟨⟨⟨⟨⟨c1, by omega⟩, c3⟩, by omega⟩, h1⟩, h2⟩
     rw [hb]
   · simp only [VR]
     exact ⟨.sl _ _ _ _ hxy.1 hxy.2, fun h => by omega, fun h => by cases h⟩
theorem runComm_sound {R : Type} {ops : Array Oper} {Q : AExit → St → Prop} {kn : TS D.T → Option R} {kp : TV D.T → TS D.T → Option R} {r : R} (htbl : ∀ e ∈ tbl, e.Ok P) (hkn : ∀ ts' σ' ρ', TRr D F ρ' ts' σ' → kn ts' = some r → Q .normal σ')
  (hkp : ∀ z ts' σ' ρ' v, TRr D F ρ' ts' σ' → VR D ρ' F.lv z v → kp z ts' = some r → Q (.panic v) σ') :
  ∀ (l : List Nat) (rds : Rds) (wrs : Wrs) (prev : List (Nat × Info)) {ts : TS D.T} {σ : St} {ρ : List Slot}, TRr D F ρ ts σ → Prev (D := D) ρ ts rds wrs prev → runComm P D tbl ops.toList kn kp l rds wrs ts = some r →
   PathOk P ops .any (Lvl F) (KpQ Q) (Q .normal) l prev σ
 | [], rds, wrs, prev, ts, σ, ρ, hR, hp, h => hkn ts σ ρ hR h
 | k :: l, rds, wrs, prev, ts, σ, ρ, hR, hp, h => by
   simp only [runComm] at h
   split at h
   · cases h
   rename_i o ho'
   have ho : ops[k]? = some o := by simpa using ho'
   have one : ∀ {c : Info} {v : V} {H' : Heap} {ts2 : TS D.T} {ρ2 : List Slot} {rds2 : Rds} {wrs2 : Wrs}, c.call = false → MV P ops (Lvl F) c σ o v H' → GP .any ops prev k c → TRr D F ρ2 ts2 (moved σ o v H') → Prev (D := D) ρ2 ts2 rds2 wrs2 ((k, c) :: prev) → runComm P D tbl ops.toList kn kp l rds2 wrs2 ts2 = some r →
       PathOk P ops .any (Lvl F) (KpQ Q) (Q .normal) (k :: l) prev σ := fun {c v H' ts2 ρ2 rds2 wrs2} hcc hm hc hR2 hp2 h2 =>
     ⟨o, c, ho, hc, .inl ⟨v, H', hcc, hm, runComm_sound htbl hkn hkp l rds2 wrs2 _ hR2 hp2 h2⟩⟩
   have emp : GP .any ops prev k (qInfo ρ []) := fun p hj hf => ⟨fun h => (by cases h.2), fun _ h => (by cases h), fun _ _ x ⟨s, hs, _⟩ => (by cases hs)⟩
   have mH : ∀ {v : V} {ts2 : TS D.T} {ρ2 : List Slot}, TRr D F ρ2 ts2 (σ.put o.dst v) → TRr D F ρ2 ts2 (moved σ o v σ.H) := fun {v ts2 ρ2} h => h
   simp only [pOp] at h
   refine guard_sound (n := k) hR h (fun ts1 ho1 hR1 hw h1 => ?_) fun ts1 ho1 hR1 hw h1 => ?_
   · have hp1 : Prev (D := D) ρ ts1 rds wrs prev := by
       have hl : ∀ s, liveB ts1 s = liveB ts s := fun s => by unfold liveB; rw [ho1]
       exact ⟨fun p hj hq => (hp.q p hj hq).imp_right fun ⟨R, a, b⟩ => ⟨R, a, fun l e x hx => by obtain ⟨s, c, d, f⟩ := b l e x hx; exact ⟨s, c, by rw [hl]; exact d, f⟩⟩, fun p hj he => by obtain ⟨w, a, b⟩ := hp.e p hj he; exact ⟨w, a, fun s e x hx => by rw [hl]; exact b s e x hx⟩⟩
     have hwt := hw.wanted hR1
     have hlv : Lvl F σ.H := hR1.lv
     split at h1
     · rename_i heff
       split at h1
       · -- an append, taken for data
         split at h1
         case h_2 => cases h1
         rename_i c hc
         split at h1
         case h_2 => cases h1
         rename_i s x t u hcal hargs htys
         split at h1
         case h_2 => cases h1
         rename_i sv xv hs hx
         obtain ⟨z, v, a1, a2, a3⟩ := tAppD_sound h1 (hR1.ev hs) (hR1.ev hx)
         split at a3
         · rename_i ts2 hput
           exact one (c := qInfo ρ []) (v := v) (H' := σ.H) rfl (.inr ⟨hwt, hlv, .inl ⟨rfl, rfl, fun H'' k1 k2 => .inr (.inr (.inr (.inr ⟨c, s, x, t, u, hc, hcal, hargs, htys, a1⟩)))⟩⟩) emp (mH (hR1.put hput (a2 _ _))) (hp1.quiet (R := []) rfl (put_o hput)) a3
         · cases a3
       split at h1
       · rename_i hc
         rw [Bool.and_eq_true] at hc
         obtain ⟨hc1, hc2⟩ := hc
         have fin : ∀ {W : Nat → Prop} {v : V} {H' : Heap} {z : TV D.T} {ts' ts2 : TS D.T} {ρ2 : List Slot}, ox P σ.H σ.ev o.op = some (v, H') → (∀ i, ¬ W i → H'.L[i]? = σ.H.L[i]?) → TRr D F ρ2 ts' { σ with H := H' } → VR D ρ2 F.lv z v →
             (∀ s0, wrK ts1 o.op = some s0 → ∀ s x, liveB ts1 s = true → Keyed ρ s x → liveB ts' s = true ∧ Keyed ρ2 s x) → (∀ s, wrK ts1 o.op = some s → ∀ x, W x → liveB ts' s = true ∧ Keyed ρ2 s x) →
             (∀ s, wrK ts1 o.op = some s → ∀ q x, liveB ts1 q = true → Keyed ρ q x → q ≠ s → ¬ W x) → ts'.put D o.dst z = some ts2 → runComm P D tbl ops.toList kn kp l (loseR (wrK ts1 o.op) rds) ((k, wrK ts1 o.op) :: loseW (wrK ts1 o.op) wrs) ts2 = some r →
             PathOk P ops .any (Lvl F) (KpQ Q) (Q .normal) (k :: l) prev σ :=
           fun {W v H' z ts' ts2 ρ2} g1 g2 g3 g4 g5 g6 g7 g8 g9 => by
             have hH : Lvl F H' := g3.lv
             have ho2 := put_o g8
             have hl2 : ∀ s, liveB ts2 s = liveB ts' s := fun s => by unfold liveB; rw [ho2]
             exact one (c := eInfo W) rfl (.inr ⟨hwt, hlv, .inr ⟨rfl, heff, .inl g1, hH, g2⟩⟩) (pairs_eff hp1 hc1 hc2 g7) (g3.put g8 g4) (hp1.eff ⟨rfl, rfl⟩ (fun s0 e s x a b => by rw [hl2]; exact g5 s0 e s x a b) fun s e x hx => by rw [hl2]; exact g6 s e x hx) g9
         have push : ∀ {cs : List (TV D.T)} {vs : List V} {ts2 : TS D.T}, wrK ts1 o.op = some ts1.nx → VRL D ρ F.lv cs vs → ox P σ.H σ.ev o.op = some (.ptr σ.H.lv σ.H.L.length 0, σ.H.push (.cells vs)) → (ts1.new D (.cells cs)).put D o.dst (.ptr ts1.nx 0) = some ts2 →
             runComm P D tbl ops.toList kn kp l (loseR (wrK ts1 o.op) rds) ((k, wrK ts1 o.op) :: loseW (wrK ts1 o.op) wrs) ts2 = some r →
             PathOk P ops .any (Lvl F) (KpQ Q) (Q .normal) (k :: l) prev σ := fun {cs vs ts2} g0 g1 g2 g3 g4 => by
           obtain ⟨h3, h4⟩ := hR1.newCells hD g1
           refine fin (W := fun i => i = σ.H.L.length) g2 (fun i hi => ?_) h3 h4 (fun s0 _ s x a b => ⟨live_new hR1 a, keyed_more _ b⟩) (fun s hs x hx => ?_) (fun s hs q x a b c e => ?_) g3 g4
           · simp only [Heap.push]
             rw [List.getElem?_append]
             split
             · rfl
             · rename_i hge
               have hi : i ≠ σ.H.L.length := hi
               rw [List.getElem?_eq_none (by simp; omega), List.getElem?_eq_none (by omega)]
           · rw [g0] at hs; injection hs with hs; subst hs
             refine ⟨get_liveB (o := .cells cs) (by simp only [TS.new, fnd_cons, if_true]) trivial, ⟨.any, some σ.H.L.length, []⟩, by rw [← hR1.nx]; simp, by rw [hx]⟩
           · have := keyed_lt hR1 a b
             omega
         have other : wrK ts1 o.op = none → tOp P D ts1 o.op (fun v ts' => match ts'.put D o.dst v with | some ts2 => runComm P D tbl ops.toList kn kp l (loseR (wrK ts1 o.op) rds) ((k, wrK ts1 o.op) :: loseW (wrK ts1 o.op) wrs) ts2 | none => none) (fun _ => none) = some r →
             PathOk P ops .any (Lvl F) (KpQ Q) (Q .normal) (k :: l) prev σ := fun g0 hh => by
           rcases tOp_sound hD hR1 hh with ⟨z, ts', v, H', ρ', a1, a2, a3, a4⟩ | ⟨s, hs⟩
           · split at a4
             · rename_i ts2 hput
               exact fin (W := fun _ => True) a1 (fun i hi => (hi trivial).elim) a3 a2 (fun s0 e => by rw [g0] at e; cases e) (fun s0 e => by rw [g0] at e; cases e) (fun s0 e => by rw [g0] at e; cases e) hput a4
             · cases a4
           · cases hs
         cases hop : o.op with
         | alloc t =>
           rw [hop] at h1
           simp only [tOp] at h1
           split at h1
           · rename_i z hz
             split at h1
             · rename_i hs
               obtain ⟨v, b1, b2⟩ := tZero_sound (ρ := ρ) (lv := F.lv) hz
               split at h1
               · rename_i ts2 hput
                 rw [← hop] at h1
                 exact push (by rw [hop]; rfl) (b2.cells hs) (by rw [hop]; simp only [ox, hAlloc, b1]; rw [if_pos (b2.solid hs)]) hput h1
               · cases h1
             · cases h1
           · cases h1
         | box t x =>
           rw [hop] at h1
           simp only [tOp] at h1
           split at h1
           · rename_i v hx
             split at h1
             · rename_i hs
               have b2 := hR1.ev hx
               split at h1
               · rename_i ts2 hput
                 rw [← hop] at h1
                 exact push (by rw [hop]; rfl) (b2.cells hs) (by rw [hop]; simp only [ox, hBox]; rw [if_pos (b2.solid hs)]) hput h1
               · cases h1
             · cases h1
           · cases h1
         | store t a x =>
           by_cases hw0 : wrK ts1 o.op = none
           · exact other hw0 h1
           · rw [hop] at h1
             simp only [tOp] at h1
             split at h1
             · rename_i av xv ha hx
               rw [hop] at hw0
               simp only [wrK, ha] at hw0
               split at hw0
               · rename_i s off heq
                 injection heq with heq; subst heq
                 have hwk : wrK ts1 o.op = some s := by rw [hop]; simp only [wrK, ha]
                 obtain ⟨i, cs, cs', H', b1, b2, b3, b4, b5, b6, b7⟩ := tStore_ptr hD hR1 h1 (hR1.ev ha) (hR1.ev hx)
                 split at b7
                 · rename_i ts2 hput
                   rw [← hop] at b7
                   have lset : ∀ q, liveB ts1 q = true → liveB (ts1.set D s (.cells cs')) q = true := fun q hq => by
                     obtain ⟨o', c1, c2⟩ := liveB_get hq
                     by_cases e : s = q
                     · exact get_liveB (o := .cells cs') (by simp only [TS.set, fnd_cons, if_pos e]) trivial
                     · exact get_liveB (o := o') (by simp only [TS.set, fnd_cons, if_neg e]; exact c1) c2
                   have lives : liveB ts1 s = true := get_liveB b2 trivial
                   refine fin (W := fun j => j = i) (by rw [hop]; simp only [ox]; exact b3) (fun j hj => b4 j hj) b6 (by simp only [VR]) (fun s0 _ q x a b => ⟨lset q a, b⟩) (fun s0 hs x hx => ?_) (fun s0 hs q x a b c e => ?_) hput b7
                   · rw [hwk] at hs; injection hs with hs; subst hs
                     exact ⟨lset s lives, by rw [hx]; exact b1⟩
                   · rw [hwk] at hs; injection hs with hs; subst hs
                     subst e
                     exact c (keyed_inj hR1 a lives b b1)
                 · cases b7
               · exact (hw0 rfl).elim
             · cases h1
         | call c => exact other (by rw [hop]; rfl) h1
         | _ => rw [hop] at heff; cases heff
       · cases h1
     · rename_i heff
       split at h1
       · rename_i R hR0
         split at h1
         · rename_i hc
           rw [Bool.and_eq_true] at hc
           obtain ⟨hc1, hc2⟩ := hc
           rcases tP_sound hD hR1 h1 with ⟨x, v, a1, a2, a3⟩ | ⟨s, hs⟩
           · split at a3
             · rename_i ts2 hput
               refine one (c := qInfo ρ R) (v := v) (H' := σ.H) rfl (.inr ⟨hwt, hlv, .inl ⟨rfl, rfl, fun H'' k1 k2 => .inl ?_⟩⟩) (pairs_quiet hR1 hp1 hc1 hc2) (mH (hR1.put hput a2)) (hp1.quiet hc2 (put_o hput)) a3
               rw [rdK_same hR1 hR0 k1 k2]; exact a1
             · cases a3
           · cases hs
         · cases h1
       · split at h1
         · rename_i c hc
           split at h1
           · rename_i x hcal
             split at h1
             · rename_i f a b vs hx hvs
               obtain ⟨args, t1, t2⟩ := target_of hR1 hcal hx hvs
               split at h1
               · rcases tCall_sound hD hR1 t2 (fun e he => htbl e (List.mem_filter.1 he).1) h1 with ⟨⟨e, he, hne⟩, _⟩ | ⟨rv, e1, z, ρ', ts', e2, e3, e4, _⟩ | ⟨s, hs⟩
                 · have := (List.mem_filter.1 he).2
                   rw [hne] at this; cases this
                 · split at e4
                   · rename_i ts2 hput
                     exact one (c := qInfo ρ []) (v := rv) (H' := σ.H) rfl (.inr ⟨hwt, hlv, .inl ⟨rfl, rfl, fun H'' k1 k2 => .inr (.inl ⟨c, f, args, hc, t1, e1 _⟩)⟩⟩) emp (mH (hR1.put hput (e2 ρ))) (hp1.quiet (R := []) rfl (put_o hput)) e4
                   · cases e4
                 · cases hs
               · split at h1
                 · rename_i hlat
                   rw [Bool.and_eq_true] at hlat
                   obtain ⟨hlat, hefs⟩ := hlat
                   obtain ⟨M, Post, m1, m2, m3, m4, m5, m6⟩ := tCallC_sound hD hR1 t2 (fun e he => by
                     obtain ⟨e1, e2⟩ := List.mem_filter.1 he
                     exact ⟨htbl e e1, by simpa using e2⟩) h1
                   let W : Nat → Prop := fun i => ¬ (i < σ.H.L.length ∧ ∀ k s sl, (k, Src.slot s) ∈ M → ρ[s]? = some sl → sl.k ≠ some i)
                   have hpairs := pairs_call hR1 hp1 m1 hefs m2
                   refine ⟨o, cInfo W, ho, hpairs, .inr ⟨fun j hj => ?_, rfl, rfl, hwt, c, f, args, Post, hc, t1, m3, fun v H' hpo => ⟨(m4 _ H' hpo).1, fun i hi => ?_, ?_⟩, fun v H' hpo => ?_⟩⟩
                   · exact ordB_free (List.all_eq_true.1 hlat j hj)
                   · have hi : ¬ ¬ _ := hi
                     obtain ⟨i1, i2⟩ := Classical.not_not.1 hi
                     exact (m4 _ H' hpo).2 i i1 i2
                   · obtain ⟨z, ts', ρ', k1, k2, k3⟩ := m5 v H' hpo
                     split at k3
                     · rename_i ts2 hput
                       exact runComm_sound htbl hkn hkp l _ _ _ (k2.put hput k1) (hp1.eff ⟨rfl, rfl⟩ (fun s0 e => by cases e) (fun s e => by cases e)) k3
                     · cases k3
                   · obtain ⟨z, ts', ρ', k1, k2, k3⟩ := m6 v H' hpo
                     intro t' ht'
                     refine hkp z _ _ ρ' v ?_ k1 k3
                     exact ⟨k2.nx, ht'.trans k2.nt, fun j x hj => by simp [fnd] at hj, k2.ob, k2.inj, k2.mine, k2.lv, k2.E, k2.e0, k2.d, k2.out, k2.pin⟩
                 · cases h1
             · cases h1
           · cases h1
         · cases h1
   · have hp1 : Prev (D := D) ρ ts1 rds wrs prev := by
       have hl : ∀ s, liveB ts1 s = liveB ts s := fun s => by unfold liveB; rw [ho1]
       exact ⟨fun p hj hq => (hp.q p hj hq).imp_right fun ⟨R, a, b⟩ => ⟨R, a, fun l e x hx => by obtain ⟨s, c, d, f⟩ := b l e x hx; exact ⟨s, c, by rw [hl]; exact d, f⟩⟩, fun p hj he => by obtain ⟨w, a, b⟩ := hp.e p hj he; exact ⟨w, a, fun s e x hx => by rw [hl]; exact b s e x hx⟩⟩
     split at h1
     · rename_i ts2 hput
       exact one (c := qInfo ρ []) (v := .tup []) (H' := σ.H) rfl (.inl ⟨hw, rfl, rfl⟩) emp (mH (hR1.put hput (v := .tup []) (by simp only [VR]; exact ⟨[], rfl, by simp only [VRL]⟩))) (hp1.quiet (R := []) rfl (put_o hput)) h1
     · cases h1
theorem runRegion_sound {R : Type} {id : Nat} {ops : Array Oper} {d : Bool} {Q : AExit → St → Prop} {kn : TS D.T → Option R} {kp : TV D.T → TS D.T → Option R} {r : R} (htbl : ∀ e ∈ tbl, e.Ok P)
  (hkn : ∀ ts' σ' ρ', TRr D F ρ' ts' σ' → kn ts' = some r → Q .normal σ') (hkp : ∀ z ts' σ' ρ' v, TRr D F ρ' ts' σ' → VR D ρ' F.lv z v → kp z ts' = some r → Q (.panic v) σ')
  (hR : TRr D F ρ ts σ) (h : runRegion P D tbl ops d ts kn kp = some r) : Sat P (.region id ops d) σ Q := by
 unfold runRegion at h
 split at h
 ·rename_i hd
  subst hd
  simp only at h
  split at h
  ·rename_i hm
   split at h
   ·split at h
    ·rename_i hB
     obtain ⟨ans, σ', cl, ts', b1, b2, b3, b4⟩ := runPure_sound hD htbl ops.toList hR h
     exact satO_drw hm hB ans σ' cl b1 b2 (hkn ts' σ' ρ b3 b4)
    ·cases h
   ·split at h
    ·rename_i hB
     obtain ⟨ans, σ', cl, ts', b1, b2, b3, b4⟩ := runPure_sound hD htbl _ hR h
     exact satO_drt _ hm hB ans σ' cl b1 b2 (runOps_sound hD htbl hkn hkp _ _ (fun j => by simp) b3 b4)
    ·split at h
     ·rename_i hB
      simp only [Bool.and_eq_true] at hB
      obtain ⟨⟨h1, h2⟩, h3⟩ := hB
      refine sat_comm hm _ h1 (Nat.eq_of_beq_eq_true h2) (fun j hj => ?_) (runComm_sound hD htbl hkn hkp _ [] [] [] hR ⟨fun p hp => (by cases hp), fun p hp => (by cases hp)⟩ h)
      have h4 := List.all_eq_true.1 h3 j (List.mem_range.2 hj)
      obtain ⟨q, hq, he⟩ := List.any_eq_true.1 h4
      rw [Nat.eq_of_beq_eq_true he]; exact hq
     ·cases h
  ·cases h
 ·rename_i hd
  have hd : d = false := by simpa using hd
  subst hd
  exact satO_reg (runOps_sound hD htbl hkn hkp ops.toList 0 (fun j => by simp) hR h)
end
end Go.Ab


namespace Go.Ab
open Go
set_option linter.unusedVariables false
set_option linter.unusedSimpArgs false
set_option linter.unusedSectionVars false
section
variable {P : Program}
def LoopWp (P : Program) (c : Code) (Q : Exit → Act → World → Prop) (a : Act) (w : World) : Prop :=
 ∀ (b : Frame) (k : List Item) (cs : List Frame), ∃ e a' w', Q e a' w' ∧ Arrives P (lone (b.at a (.code c :: .inLoop c :: k)) cs w) b k cs e a' w'
theorem LoopWp.wp {c : Code} {Q : Exit → Act → World → Prop} {a : Act} {w : World} (h : LoopWp P c Q a w) : (Code.loop c).wp P Q a w := fun b k cs => by
 obtain ⟨e, a', w', hq, harr⟩ := h b k cs
 exact ⟨e, a', w', hq, .of_steps (.one step_loop) harr⟩
theorem LoopWp.round {c : Code} {Q : Exit → Act → World → Prop} {a : Act} {w : World} (h : c.wp P (Exit.then (LoopWp P c Q) Q) a w) : LoopWp P c Q a w := fun b k cs => by
 obtain ⟨e, a₁, w₁, hq, harr⟩ := h b (.inLoop c :: k) cs
 cases e with
 | normal =>
   obtain ⟨e₂, a₂, w₂, hq₂, harr₂⟩ := hq b k cs
   exact ⟨e₂, a₂, w₂, hq₂, .of_steps (Steps.trans harr (.one step_inLoop)) harr₂⟩
 | exit id => exact ⟨_, a₁, w₁, hq, .pass (x := .inLoop c) rfl (fun _ _ => .inl (by simp)) harr⟩
 | goto l => exact ⟨_, a₁, w₁, hq, .pass (x := .inLoop c) rfl (fun _ _ => .inl (by simp)) harr⟩
 | ret => exact ⟨_, a₁, w₁, hq, .pass (x := .inLoop c) rfl (fun _ _ => .inl (by simp)) harr⟩
 | panic ch => exact ⟨_, a₁, w₁, hq, .pass (x := .inLoop c) rfl (fun _ _ => .inl (by simp)) harr⟩
 | outgrown => exact ⟨_, a₁, w₁, hq, .pass (x := .inLoop c) rfl (fun _ _ => .inl (by simp)) harr⟩
def SatL (P : Program) (c : Code) (σ : St) (Q : AExit → St → Prop) : Prop :=
 ∀ W0 g0 H0 W a g, Base W0 g0 H0 → (σ.e0 = H0.E ∧ Step W0 g0 H0 W g σ.H) → GoodSt W a g σ → LoopWp P c (Lift W0 g0 H0 Q) a W
theorem SatL.sat {c : Code} {σ : St} {Q : AExit → St → Prop} (h : SatL P c σ Q) : Sat P (.loop c) σ Q := fun W0 g0 H0 W a g hB hS hG => (h W0 g0 H0 W a g hB hS hG).wp
theorem SatL.round {c : Code} {σ : St} {Q : AExit → St → Prop} (h : Sat P c σ (AExit.then (fun σ' => SatL P c σ' Q) Q)) : SatL P c σ Q := fun W0 g0 H0 W a g hB hS hG => by
 refine LoopWp.round (wp_mono (h W0 g0 H0 W a g hB hS hG) fun e a w ⟨g, σ, e', h1, h2, h3, h4⟩ => ?_)
 cases h1 with
 | normal => exact h4 W0 g0 H0 w a g hB h2 h3
 | exit id => exact ⟨g, σ, _, .exit id, h2, h3, h4⟩
 | ret => exact ⟨g, σ, _, .ret, h2, h3, h4⟩
 | panic v c hr => exact ⟨g, σ, _, .panic v c hr, h2, h3, h4⟩
end
section
variable {P : Program} {D : Dat} {F : Fr} {R : Type}
structure KOk (D : Dat) (F : Fr) (K : Ks D.T R) (Q : AExit → St → Prop) (r : R) : Prop where
 kn : ∀ ts σ, TR D F ts σ → K.kn ts = some r → Q .normal σ
 kx : ∀ id k ts σ, fnd K.kx id = some k → TR D F ts σ → k ts = some r → Q (.exit id) σ
 kr : ∀ ts σ, TR D F ts σ → K.kr ts = some r → Q .ret σ
 kp : ∀ z ts σ ρ v, TRr D F ρ ts σ → VR D ρ F.lv z v → K.kp z ts = some r → Q (.panic v) σ
def AC.Claim (P : Program) (a : AC) (σ : St) (Q : AExit → St → Prop) : Prop :=
 match a with
 | .loop b => SatL P b.erase σ Q
 | a => Sat P a.erase σ Q
theorem AC.Claim.sat {a : AC} {σ : St} {Q : AExit → St → Prop} (h : a.Claim P σ Q) : Sat P a.erase σ Q := by
 cases a <;> first | exact h | exact SatL.sat h
def Labs (P : Program) (φ : Nat → AC → (AExit → St → Prop) → Prop) : AC → (AExit → St → Prop) → Prop
 | .seq a b, Q => Labs P φ a (AExit.then (fun σ => Sat P b.erase σ Q) Q) ∧ Labs P φ b Q
 | .cond _ a b, Q => Labs P φ a Q ∧ Labs P φ b Q
 | .block id a, Q => Labs P φ a (AExit.inBlock id Q)
 | .loop a, Q => Labs P φ a (AExit.then (fun σ => SatL P a.erase σ Q) Q)
 | .lab l a, Q => φ l a Q ∧ Labs P φ a Q
 | _, _ => True
def AC.site (P : Program) (l : Nat) : AC → (AExit → St → Prop) → Option (AC × (AExit → St → Prop))
 | .seq a b, Q => match AC.site P l a (AExit.then (fun σ => Sat P b.erase σ Q) Q) with
   | some x => some x
   | none => AC.site P l b Q
 | .cond _ a b, Q => match AC.site P l a Q with
   | some x => some x
   | none => AC.site P l b Q
 | .block id a, Q => AC.site P l a (AExit.inBlock id Q)
 | .loop a, Q => AC.site P l a (AExit.then (fun σ => SatL P a.erase σ Q) Q)
 | .lab l' a, Q => match Nat.beq l' l with
   | true => some (a, Q)
   | false => AC.site P l a Q
 | _, _ => none
def AC.labels : AC → List Nat
 | .seq a b => a.labels ++ b.labels
 | .cond _ a b => a.labels ++ b.labels
 | .block _ a => a.labels
 | .loop a => a.labels
 | .lab l a => l :: a.labels
 | _ => []
theorem site_mem {l : Nat} : ∀ {c : AC} {Q : AExit → St → Prop} {x : AC × (AExit → St → Prop)}, c.site P l Q = some x → l ∈ c.labels
 | .seq a b, Q, x, h => by
   simp only [AC.site] at h
   split at h
   · rename_i y hy; exact List.mem_append_left _ (site_mem hy)
   · exact List.mem_append_right _ (site_mem h)
 | .cond _ a b, Q, x, h => by
   simp only [AC.site] at h
   split at h
   · rename_i y hy; exact List.mem_append_left _ (site_mem hy)
   · exact List.mem_append_right _ (site_mem h)
 | .block id a, Q, x, h => site_mem (c := a) h
 | .loop a, Q, x, h => site_mem (c := a) h
 | .lab l' a, Q, x, h => by
   simp only [AC.site] at h
   split at h
   · rename_i e; rw [Nat.eq_of_beq_eq_true e]; exact List.mem_cons_self
   · exact List.mem_cons_of_mem _ (site_mem h)
 | .skip, Q, x, h => by cases h
 | .region _ _ _, Q, x, h => by cases h
 | .exit _, Q, x, h => by cases h
 | .ret, Q, x, h => by cases h
 | .other _, Q, x, h => by cases h
theorem site_none {l : Nat} {c : AC} {Q : AExit → St → Prop} (h : l ∉ c.labels) : c.site P l Q = none := by
 cases hs : c.site P l Q with
 | none => rfl
 | some x => exact (h (site_mem hs)).elim
theorem labs_of {φ : Nat → AC → (AExit → St → Prop) → Prop} : ∀ {c : AC} {Q : AExit → St → Prop}, c.labels.Nodup → (∀ l a Q', c.site P l Q = some (a, Q') → φ l a Q') → Labs P φ c Q
 | .seq a b, Q, hn, h => by
   simp only [AC.labels] at hn
   have hn := List.nodup_append.1 hn
   refine ⟨labs_of hn.1 fun l x Q' hs => h l x Q' (by simp only [AC.site, hs]), labs_of hn.2.1 fun l x Q' hs => h l x Q' ?_⟩
   have hl := site_mem hs
   simp only [AC.site, site_none (P := P) (Q := AExit.then (fun σ => Sat P b.erase σ Q) Q) (fun hm => hn.2.2 l hm l hl rfl)]
   exact hs
 | .cond _ a b, Q, hn, h => by
   simp only [AC.labels] at hn
   have hn := List.nodup_append.1 hn
   refine ⟨labs_of hn.1 fun l x Q' hs => h l x Q' (by simp only [AC.site, hs]), labs_of hn.2.1 fun l x Q' hs => h l x Q' ?_⟩
   have hl := site_mem hs
   simp only [AC.site, site_none (P := P) (Q := Q) (fun hm => hn.2.2 l hm l hl rfl)]
   exact hs
 | .block id a, Q, hn, h => labs_of (c := a) hn fun l x Q' hs => h l x Q' hs
 | .loop a, Q, hn, h => labs_of (c := a) hn fun l x Q' hs => h l x Q' hs
 | .lab l' a, Q, hn, h => by
   simp only [AC.labels, List.nodup_cons] at hn
   refine ⟨h l' a Q (by simp only [AC.site, Nat.beq_refl]), labs_of hn.2 fun l x Q' hs => h l x Q' ?_⟩
   have hl := site_mem hs
   have : Nat.beq l' l = false := by
     cases e : Nat.beq l' l with
     | false => rfl
     | true => have := Nat.eq_of_beq_eq_true e; subst this; exact (hn.1 hl).elim
   simp only [AC.site, this]
   exact hs
 | .skip, Q, hn, h => trivial
 | .region _ _ _, Q, hn, h => trivial
 | .exit _, Q, hn, h => trivial
 | .ret, Q, hn, h => trivial
 | .other _, Q, hn, h => trivial
variable {J : Nat → TS D.T → Option R} {tbl : List (Ent D)} {r : R} (hD : D.Ok P) (htbl : ∀ e ∈ tbl, e.Ok P)
def LOk (P : Program) (D : Dat) (F : Fr) (J : Nat → TS D.T → Option R) (r : R) (l : Nat) (a : AC) (Q : AExit → St → Prop) : Prop := ∀ ts σ, TR D F ts σ → J l ts = some r → a.Claim P σ Q
include hD htbl
theorem run_sound : ∀ {c : AC} {ts : TS D.T} {σ : St} {K : Ks D.T R} {Q : AExit → St → Prop}, KOk D F K Q r → Labs P (LOk P D F J r) c Q → TR D F ts σ → run P D tbl J c ts K = some r → Sat P c.erase σ Q
 | .skip, ts, σ, K, Q, hK, hL, hT, h => sat_skip (hK.kn ts σ hT h)
 | .region id ops d, ts, σ, K, Q, hK, hL, hT, h => by
   obtain ⟨τ, ρ, h1, h2⟩ := hT
   exact sat_weak h1 (runRegion_sound hD htbl (fun ts' σ' ρ' hR hk => hK.kn ts' σ' hR.tr hk) (fun z ts' σ' ρ' v => hK.kp z ts' σ' ρ' v) h2 h)
 | .seq a b, ts, σ, K, Q, hK, hL, hT, h => by
   simp only [run] at h
   exact sat_seq (run_sound (K := { K with kn := fun ts => run P D tbl J b ts K }) (Q := AExit.then (fun σ => Sat P b.erase σ Q) Q) ⟨fun ts σ hT hk => run_sound hK hL.2 hT hk, hK.kx, hK.kr, hK.kp⟩ hL.1 hT h)
 | .cond c a b, ts, σ, K, Q, hK, hL, hT, h => by
   simp only [run] at h
   obtain ⟨τ, ρ, h1, h2⟩ := hT
   refine sat_weak h1 ?_
   split at h
   · rename_i v hv
     have he := h2.ev hv
     simp only [VR] at he
     split at h
     · rename_i t
       obtain ⟨w, e1, e2⟩ := h2.tm t _ hv
       simp only [VR] at e2
       subst e2
       refine sat_cond he (fun hb => ?_) fun hb => ?_
       · subst hb
         exact run_sound hK hL.1 (h2.tell e1 (by simp only [VR])).tr h
       · subst hb
         exact run_sound hK hL.2 (h2.tell e1 (by simp only [VR])).tr h
     · refine sat_cond he (fun hb => ?_) fun hb => ?_
       · subst hb
         exact run_sound hK hL.1 h2.tr h
       · subst hb
         exact run_sound hK hL.2 h2.tr h
   · cases h
 | .block id a, ts, σ, K, Q, hK, hL, hT, h => by
   simp only [run] at h
   refine sat_block (run_sound (K := { K with kx := (id, K.kn) :: K.kx }) (Q := AExit.inBlock id Q) ⟨fun ts σ hT hk => hK.kn ts σ hT hk, fun id' k ts σ hf hT hk => ?_, hK.kr, hK.kp⟩ hL hT h)
   replace hf : fnd ((id, K.kn) :: K.kx) id' = some k := hf
   rw [fnd_cons] at hf
   show condP (Nat.beq id' id) (Q .normal σ) (Q (.exit id') σ)
   split at hf
   · rename_i e
     injection hf with hf; subst hf; subst e
     rw [Nat.beq_refl]
     exact hK.kn ts σ hT hk
   · rename_i e
     have : Nat.beq id' id = false := by
       cases e' : Nat.beq id' id with
       | false => rfl
       | true => exact (e (Nat.eq_of_beq_eq_true e').symm).elim
     rw [this]
     exact hK.kx id' k ts σ hf hT hk
 | .loop a, ts, σ, K, Q, hK, hL, hT, h => by simp [run] at h
 | .exit id, ts, σ, K, Q, hK, hL, hT, h => by
   simp only [run] at h
   split at h
   · rename_i k hk; exact sat_exit (hK.kx id k ts σ hk hT h)
   · cases h
 | .ret, ts, σ, K, Q, hK, hL, hT, h => sat_ret (hK.kr ts σ hT h)
 | .lab l a, ts, σ, K, Q, hK, hL, hT, h => (hL.1 ts σ hT h).sat
 | .other c, ts, σ, K, Q, hK, hL, hT, h => by simp [run] at h
omit hD htbl in
theorem at_none {l : Nat} : ∀ {c : AC} {K : Ks D.T R} {kl : TS D.T → Option R} {Q : AExit → St → Prop}, AC.at P D tbl J l c K kl = none → c.site P l Q = none
 | .seq a b, K, kl, Q, h => by
   simp only [AC.at] at h
   split at h
   · cases h
   · rename_i hn
     simp only [AC.site]
     rw [at_none hn]
     exact at_none h
 | .cond _ a b, K, kl, Q, h => by
   simp only [AC.at] at h
   split at h
   · cases h
   · rename_i hn
     simp only [AC.site]
     rw [at_none hn]
     exact at_none h
 | .block id a, K, kl, Q, h => at_none (c := a) (K := { K with kx := (id, K.kn) :: K.kx }) (kl := fun _ => none) h
 | .loop a, K, kl, Q, h => at_none (c := a) (K := { K with kn := kl }) (kl := fun _ => none) h
 | .lab l' a, K, kl, Q, h => by
   simp only [AC.at] at h
   split at h
   · cases h
   · rename_i e
     simp only [AC.site, e]
     exact at_none (c := a) h
 | .skip, K, kl, Q, h => rfl
 | .region _ _ _, K, kl, Q, h => rfl
 | .exit _, K, kl, Q, h => rfl
 | .ret, K, kl, Q, h => rfl
 | .other _, K, kl, Q, h => rfl
theorem at_sound {l : Nat} : ∀ {c : AC} {K : Ks D.T R} {kl : TS D.T → Option R} {Q : AExit → St → Prop} {f : TS D.T → Option R}, KOk D F K Q r → (∀ b, c = .loop b → ∀ ts σ, TR D F ts σ → kl ts = some r → SatL P b.erase σ Q) → Labs P (LOk P D F J r) c Q → AC.at P D tbl J l c K kl = some f →
  ∃ a Q', c.site P l Q = some (a, Q') ∧ ∀ ts σ, TR D F ts σ → f ts = some r → a.Claim P σ Q'
 | .seq a b, K, kl, Q, f, hK, hkl, hL, h => by
   simp only [AC.at] at h
   split at h
   · rename_i g hg
     injection h with h; subst h
     obtain ⟨x, Q', h1, h2⟩ := at_sound (c := a) (K := { K with kn := fun ts => run P D tbl J b ts K }) (Q := AExit.then (fun σ => Sat P b.erase σ Q) Q) ⟨fun ts σ hT hk => run_sound hD htbl hK hL.2 hT hk, hK.kx, hK.kr, hK.kp⟩ (fun _ _ ts σ _ hk => by cases hk) hL.1 hg
     exact ⟨x, Q', by simp only [AC.site, h1], h2⟩
   · rename_i hn
     obtain ⟨x, Q', h1, h2⟩ := at_sound (c := b) hK (fun _ _ ts σ _ hk => by cases hk) hL.2 h
     refine ⟨x, Q', ?_, h2⟩
     simp only [AC.site]
     rw [at_none hn]
     exact h1
 | .cond _ a b, K, kl, Q, f, hK, hkl, hL, h => by
   simp only [AC.at] at h
   split at h
   · rename_i g hg
     injection h with h; subst h
     obtain ⟨x, Q', h1, h2⟩ := at_sound (c := a) hK (fun _ _ ts σ _ hk => by cases hk) hL.1 hg
     exact ⟨x, Q', by simp only [AC.site, h1], h2⟩
   · rename_i hn
     obtain ⟨x, Q', h1, h2⟩ := at_sound (c := b) hK (fun _ _ ts σ _ hk => by cases hk) hL.2 h
     refine ⟨x, Q', ?_, h2⟩
     simp only [AC.site]
     rw [at_none hn]
     exact h1
 | .block id a, K, kl, Q, f, hK, hkl, hL, h => by
   simp only [AC.at] at h
   refine at_sound (c := a) (K := { K with kx := (id, K.kn) :: K.kx }) (Q := AExit.inBlock id Q) ⟨fun ts σ hT hk => hK.kn ts σ hT hk, fun id' k ts σ hf hT hk => ?_, hK.kr, hK.kp⟩ (fun _ _ ts σ _ hk => by cases hk) hL h
   replace hf : fnd ((id, K.kn) :: K.kx) id' = some k := hf
   rw [fnd_cons] at hf
   show condP (Nat.beq id' id) (Q .normal σ) (Q (.exit id') σ)
   split at hf
   · rename_i e
     injection hf with hf; subst hf; subst e
     rw [Nat.beq_refl]
     exact hK.kn ts σ hT hk
   · rename_i e
     have : Nat.beq id' id = false := by
       cases e' : Nat.beq id' id with
       | false => rfl
       | true => exact (e (Nat.eq_of_beq_eq_true e').symm).elim
     rw [this]
     exact hK.kx id' k ts σ hf hT hk
 | .loop a, K, kl, Q, f, hK, hkl, hL, h => by
   simp only [AC.at] at h
   exact at_sound (c := a) (K := { K with kn := kl }) (Q := AExit.then (fun σ => SatL P a.erase σ Q) Q) ⟨fun ts σ hT hk => hkl a rfl ts σ hT hk, hK.kx, hK.kr, hK.kp⟩ (fun _ _ ts σ _ hk => by cases hk) hL h
 | .lab l' a, K, kl, Q, f, hK, hkl, hL, h => by
   simp only [AC.at] at h
   split at h
   · rename_i e
     have e := Nat.eq_of_beq_eq_true e
     subst e
     injection h with h; subst h
     refine ⟨a, Q, by simp only [AC.site, Nat.beq_refl], fun ts σ hT hf => ?_⟩
     unfold runLab at hf
     split at hf
     · rename_i b
       exact SatL.round (run_sound hD htbl (K := { K with kn := J l' }) (Q := AExit.then (fun σ => SatL P b.erase σ Q) Q) ⟨fun ts σ hT hk => hL.1 ts σ hT hk, hK.kx, hK.kr, hK.kp⟩ hL.2 hT hf)
     · rename_i hne
       have := run_sound hD htbl hK hL.2 hT hf
       cases a <;> first | exact this | exact (hne _ rfl).elim
   · rename_i e
     obtain ⟨x, Q', h1, h2⟩ := at_sound (c := a) hK (fun b hb ts σ hT hk => by subst hb; exact hL.1 ts σ hT hk) hL.2 h
     exact ⟨x, Q', by simp only [AC.site, e]; exact h1, h2⟩
 | .skip, K, kl, Q, f, hK, hkl, hL, h => by cases h
 | .region _ _ _, K, kl, Q, f, hK, hkl, hL, h => by cases h
 | .exit _, K, kl, Q, f, hK, hkl, hL, h => by cases h
 | .ret, K, kl, Q, f, hK, hkl, hL, h => by cases h
 | .other _, K, kl, Q, f, hK, hkl, hL, h => by cases h
end
end Go.Ab


namespace Go.Ab
open Go
set_option linter.unusedVariables false
set_option linter.unusedSimpArgs false
set_option linter.unusedSectionVars false
section
variable {P : Program} {D : Dat} {F : Fr} {ρ : List Slot} {ts : TS D.T} {σ : St} {lv : Nat} {R : Type}
theorem argT_fnd {α : Type} : ∀ (l : List α) (k j : Nat) (a : α), fnd (argT l k) j = some a → k ≤ j ∧ l[j - k]? = some a
 | [], k, j, a, h => by simp [argT, fnd] at h
 | b :: l, k, j, a, h => by
   simp only [argT, fnd_cons] at h
   split at h
   · rename_i e; injection h with h; subst h; subst e; simp
   · obtain ⟨h1, h2⟩ := argT_fnd l (k + 1) j a h
     refine ⟨by omega, ?_⟩
     rw [show j - k = (j - (k + 1)) + 1 by omega]
     simpa using h2
theorem bldOs_fnd : ∀ (os : List OSh) {k : Nat} {x : HL D.T (tysO os)} {j : Nat}, k ≤ j → j < k + os.length → ∃ o, fnd (bldOs D (fun k => k) os k x) j = some o ∧ o.live
 | [], k, x, j, h1, h2 => by simp at h2; omega
 | o :: os, k, x, j, h1, h2 => by
   show ∃ o', fnd ((k, bldO D (fun k => k) o (HL.fst _ x)) :: bldOs D (fun k => k) os (k + 1) (HL.snd _ x)) j = some o' ∧ o'.live
   rw [fnd_cons]
   split
   · exact ⟨_, rfl, bldO_live⟩
   · exact bldOs_fnd os (by omega) (by simp only [List.length_cons] at h2; omega)
theorem bldOs_one : ∀ (os : List OSh) {k : Nat} {x : HL D.T (tysO os)} {j : Nat} {o : TO D.T}, (j, o) ∈ bldOs D (fun k => k) os k x → fnd (bldOs D (fun k => k) os k x) j = some o
 | [], k, x, j, o, h => by cases h
 | osh :: os, k, x, j, o, h => by
   replace h : (j, o) ∈ (k, bldO D (fun k => k) osh (HL.fst _ x)) :: bldOs D (fun k => k) os (k + 1) (HL.snd _ x) := h
   show fnd ((k, bldO D (fun k => k) osh (HL.fst _ x)) :: bldOs D (fun k => k) os (k + 1) (HL.snd _ x)) j = some o
   rw [fnd_cons]
   rcases List.mem_cons.1 h with h | h
   · injection h with h1 h2; subst h1; subst h2; rw [if_pos rfl]
   · obtain ⟨j', h1, _, h3, _⟩ := bldOs_at os h
     rw [if_neg (by omega)]
     exact bldOs_one os h
theorem resT_sound (hD : D.Ok P) (hR : TRr D F ρ ts σ) : ∀ {rs : List ResultVar} {cs : List (TV D.T)}, resT P D ts rs = some cs → ∃ vs, resL P σ rs = some vs ∧ VRL D ρ F.lv cs vs
 | [], cs, h => by simp only [resT, Option.some.injEq] at h; subst h; exact ⟨[], rfl, by simp only [VRL]⟩
 | .tmp t :: rs, cs, h => by
   simp only [resT] at h
   split at h
   · rename_i v vs hv hvs
     injection h with h; subst h
     obtain ⟨us, h1, h2⟩ := resT_sound hD hR hvs
     exact ⟨σ.t.getD t .any :: us, by simp only [resL, resV, h1], by simp only [VRL]; exact ⟨_, _, rfl, hR.tmp hv, h2⟩⟩
   · cases h
 | .cell a t :: rs, cs, h => by
   simp only [resT] at h
   split at h
   · rename_i p hp
     split at h
     · rename_i v vs hv hvs
       injection h with h; subst h
       obtain ⟨us, h1, h2⟩ := resT_sound hD hR hvs
       obtain ⟨u, h3, h4⟩ := tLoad_sound hD hR hv (hR.tmp hp)
       exact ⟨u :: us, by simp only [resL, resV, h3, h1], by simp only [VRL]; exact ⟨_, _, rfl, h4, h2⟩⟩
     · cases h
   · cases h
theorem sat_ends {c : Code} {σ : St} {Q : AExit → St → Prop} (h : Sat P c σ fun e σ => ∃ τ, Weak σ τ ∧ (∀ v, e ≠ .panic v) ∧ Q e τ) : Sat P c σ Q := fun W0 g0 H0 W a g hB hS hG => by
 refine wp_mono (h W0 g0 H0 W a g hB hS hG) fun e a w ⟨g, σ, e', h1, h2, h3, τ, h4, h5, h6⟩ => ?_
 obtain ⟨g', k1, k2⟩ := h4 W0 g0 H0 w a g hB h2 h3
 refine ⟨g', τ, e', ?_, k1, k2, h6⟩
 cases h1 with
 | normal => exact .normal
 | exit id => exact .exit id
 | ret => exact .ret
 | panic v c hr => exact (h5 v rfl).elim
def EndQ (D : Dat) (F : Fr) (l : LSh) (pack : HL D.T l.tys → R) (r : R) (e : AExit) (σ : St) : Prop :=
 match e with
 | .normal | .ret => ∃ x, pack x = r ∧ TR D F (l.bld D x) σ
 | _ => False
theorem endK_ok (hD : D.Ok P) {l : LSh} (hp : F.pin.length ≤ l.pin) (hp2 : l.pin ≤ l.os.length) {pack : HL D.T l.tys → R} {r : R} : KOk D F (endK D l pack) (EndQ D F l pack r) r := by
 refine ⟨fun ts σ hT h => ?_, fun id k ts σ h => by simp [endK, fnd] at h, fun ts σ hT h => ?_, fun z ts σ ρ v _ _ h => by simp [endK] at h⟩
 ·obtain ⟨x, h1, h2⟩ := LSh.enter_sound hD hp hp2 hT h
  injection h1 with h1
  exact ⟨x, h1, h2⟩
 ·obtain ⟨x, h1, h2⟩ := LSh.enter_sound hD hp hp2 hT h
  injection h1 with h1
  exact ⟨x, h1, h2⟩
def Runs (P : Program) (D : Dat) (c : Code) (p : Nat) (args : List Sh) (aos : List OSh) (nt : Nat) (K : Ks D.T R) (go : HL D.T (Sh.tysL args ++ tysO aos) → Option R) : Prop :=
 ∀ F Q r, F.pin.length ≤ p → KOk D F K Q r → ∀ x σ, TR D F (entry D args aos nt x) σ → go x = some r → Sat P c σ Q
theorem enter_temps {args : List V} {n : Nat} (cs : List (TV D.T)) (h : VRL D ρ lv cs args) : ∀ (j : Nat) (x : TV D.T), fnd (argT cs 0) j = some x → ∃ v, (args ++ List.replicate n V.any)[j]? = some v ∧ VR D ρ lv x v := fun j x hj => by
 obtain ⟨_, h1⟩ := argT_fnd cs 0 j x hj
 obtain ⟨v, h2, h3⟩ := h.get j x (by simpa using h1)
 exact ⟨v, by rw [List.getElem?_append_left (List.getElem?_eq_some_iff.1 h2).1]; exact h2, h3⟩
theorem flat_ok (hD : D.Ok P) {e : Ent D} {fn : Func} {code : Code} {nt : Nat} {l : LSh} {pack : HL D.T l.tys → R} {un : R → HL D.T (Sh.tysL e.outs ++ tysO e.ros)} {go : HL D.T (Sh.tysL e.args ++ tysO e.aos) → Option R}
  (hf : P.funcs[e.f]? = some fn) (hb : fn.body = some code) (hnt : fn.ntmps = nt) (hent : ∀ args w, (callFunc e.f args).run P w = .ok (.enter e.f args) w) (hargs : e.args.length ≤ nt)
  (hgo : ∀ (R' : Type) (x : HL D.T (Sh.tysL e.args ++ tysO e.aos)) (k : HL D.T (Sh.tysL e.outs ++ tysO e.ros) → Option R') (kp : HL D.T (e.pan.tys ++ tysO e.pos) → Option R'), e.go x k kp = (go x).bind fun r => k (un r))
  (hpure : e.pure = false) (hren : e.ren = []) (hp1 : e.p ≤ l.pin) (hp2 : l.pin ≤ l.os.length) (hlen : l.os.length = e.ros.length)
  (hout : ∀ x, resT P D (l.bld D x) fn.results.toList = some (bldL D (fun k => k) e.outs (HL.fst _ (un (pack x)))) ∧ (l.bld D x).o = bldOs D (fun k => k) e.ros 0 (HL.snd _ (un (pack x))))
  (hrun : Runs P D code e.p e.args e.aos nt (endK D l pack) go) : e.Ok P := fun R' x k kp r h => by
 rw [hpure]
 rw [hgo] at h
 obtain ⟨r0, h1, h2⟩ := bnd_hi h
 refine .inl ⟨un r0, h2, fun lv L E ρ0 vargs k1 k2 k3 k4 => ?_⟩
 have hvl : vargs.length = e.args.length := by
  rw [← k2.length]
  have : ∀ (l : List Sh) (y : HL D.T (Sh.tysL l)), (bldL D (fun k => k) l y).length = l.length := fun l => by
   induction l with
   | nil => intro y; rfl
   | cons s l ih => intro y; show (bldV D (fun k => k) s (HL.fst _ y) :: bldL D (fun k => k) l (HL.snd _ y)).length = _; rw [List.length_cons, ih, List.length_cons]
  exact this _ _
 let F : Fr := ⟨lv, E, E, L, fun i => i < L.length ∧ ∀ (k : Nat) (sl0 : Slot), ρ0[k]? = some sl0 → sl0.k ≠ some i, ρ0.take e.p⟩
 have hobj : ∀ s o, fnd (bldOs D (fun k => k) e.aos 0 (HL.snd _ x)) s = some o → ∃ sl, ρ0[s]? = some sl ∧ OR D ρ0 lv L sl o := fun s o ho => k3 s o (fnd_mem ho)
 have hR0 : TRr D F ρ0 (entry D e.args e.aos nt x) ⟨vargs ++ List.replicate (nt - vargs.length) .any, ⟨lv, L, E⟩, [], E⟩ := by
  refine ⟨k1, by simp only [entry, List.length_append, List.length_replicate]; omega, enter_temps _ k2, hobj, fun s s' o o' sl sl' i a1 a2 l1 l2 r1 r2 => k4 s s' sl sl' i r1 r2, fun s o sl i a1 l1 r1 hk ho => ho.2 s sl r1 hk, rfl, rfl, rfl, rfl, fun i hi => ⟨hi.1, rfl⟩, fun j sl hj => ?_⟩
  simp only [F, List.getElem?_take] at hj
  split at hj
  ·exact hj
  ·cases hj
 refine hrel_flat hf hb hnt hent (sat_ends ((hrun F _ r0 (by simp only [F, List.length_take]; omega) (endK_ok hD (by simp only [F, List.length_take]; omega) hp2) x _ hR0.tr h1).mono fun ex σ hq => ?_))
 have key : ∀ ex, (ex = .normal ∨ ex = .ret) → (∃ x, pack x = r0 ∧ TR D F (l.bld D x) σ) → ∃ τ, Weak σ τ ∧ (∀ v, ex ≠ .panic v) ∧ EndsF P fn (fun out H' => ∃ L' ρ', H' = ⟨lv, L', E⟩ ∧ Left D lv L ρ0 e.p L' ρ' e.ros (HL.snd _ (un r0)) ∧ (∀ q ∈ e.ren, ∀ sl, ρ0[q.1]? = some sl → ∃ sl', ρ'[q.2]? = some sl' ∧ sl'.v = sl.v) ∧ ∃ vs, out = .ret (tupOf vs) ∧ VRL D ρ' lv (bldL D (fun k => k) e.outs (HL.fst _ (un r0))) vs) ex τ := fun ex hex ⟨y, hy, τ, ρ', w1, w2⟩ => by
  subst hy
  obtain ⟨o1, o2⟩ := hout y
  obtain ⟨vs, q1, q2⟩ := resT_sound hD w2 o1
  have hH : τ.H = ⟨lv, τ.H.L, E⟩ := heap_eta (F := F) τ.H w2.lv w2.E
  have hleft : Left D lv L ρ0 e.p τ.H.L ρ' e.ros (HL.snd _ (un (pack y))) := by
   have hlen' : ρ'.length = e.ros.length := by rw [w2.nx, ← hlen]; rfl
   have live : ∀ s sl, ρ'[s]? = some sl → ∃ o, fnd (l.bld D y).o s = some o ∧ o.live := fun s sl hs => by
    rw [o2]; exact bldOs_fnd e.ros (Nat.zero_le _) (by rw [Nat.zero_add, ← hlen']; exact (List.getElem?_eq_some_iff.1 hs).1)
   refine ⟨hlen', fun j o hm => ?_, fun s s' sl sl' i r1 r2 c1 c2 => ?_, fun s sl i r1 c1 => ?_, fun i hi hno => w2.out i ⟨hi, hno⟩, fun j sl hj hs => ?_⟩
   ·exact w2.ob j o (by rw [o2]; exact bldOs_one e.ros hm)
   ·obtain ⟨o, a1, a2⟩ := live s sl r1
    obtain ⟨o', b1, b2⟩ := live s' sl' r2
    exact w2.inj s s' o o' sl sl' i a1 b1 a2 b2 r1 r2 c1 c2
   ·obtain ⟨o, a1, a2⟩ := live s sl r1
    have := w2.mine s o sl i a1 a2 r1 c1
    by_cases hlt : i < L.length
    ·right
     by_cases hex : ∃ (k : Nat) (sl0 : Slot), ρ0[k]? = some sl0 ∧ sl0.k = some i
     ·exact hex
     ·exact (this ⟨hlt, fun k sl0 e1 e2 => hex ⟨k, sl0, e1, e2⟩⟩).elim
    ·left; omega
   ·exact w2.pin j sl (by simp only [F, List.getElem?_take]; rw [if_pos hj]; exact hs)
  refine ⟨τ, w1, fun v e => by rcases hex with h | h <;> (rw [h] at e; cases e), ?_⟩
  rcases hex with rfl | rfl
  ·exact ⟨tupOf vs, tupOf vs, by simp only [resultsV, q1, Option.map_some], w2.d, .refl _, τ.H.L, ρ', hH, hleft, (by rw [hren]; intro q hq; cases hq), vs, rfl, q2⟩
  ·exact ⟨tupOf vs, tupOf vs, by simp only [resultsV, q1, Option.map_some], w2.d, .refl _, τ.H.L, ρ', hH, hleft, (by rw [hren]; intro q hq; cases hq), vs, rfl, q2⟩
 cases ex with
 | normal => exact key _ (.inl rfl) hq
 | ret => exact key _ (.inr rfl) hq
 | exit id => exact hq.elim
 | panic v => exact hq.elim
mutual
theorem VRn.lvl {lv' : Nat} : ∀ {x : TV D.T} {v : V}, VR D [] lv x v → VR D [] lv' x v
 | .own s, v, h => by simp only [VR] at h; obtain ⟨sl, h1, _⟩ := h; simp at h1
 | .osl s lo, v, h => by simp only [VR] at h; obtain ⟨sl, j, ver, h1, _⟩ := h; simp at h1
 | .ptr s off, v, h => by simp only [VR] at h; obtain ⟨sl, i, h1, _⟩ := h; simp at h1
 | .bp s off, v, h => by simp only [VR] at h; obtain ⟨sl, i, h1, _⟩ := h; simp at h1
 | .map s, v, h => by simp only [VR] at h; obtain ⟨sl, i, h1, _⟩ := h; simp at h1
 | .ap s t i x off, v, h => by simp only [VR] at h; obtain ⟨sl, w, h1, _⟩ := h; simp at h1
 | .ref cs off, v, h => by simp only [VR] at h ⊢; obtain ⟨vs, h1, h2⟩ := h; exact ⟨vs, h1, VRLn.lvl h2⟩
 | .fn f a b, v, h => by simp only [VR] at h ⊢; obtain ⟨as, bs, h1, h2, h3⟩ := h; exact ⟨as, bs, h1, VRLn.lvl h2, VRLn.lvl h3⟩
 | .iface t x, v, h => by simp only [VR] at h ⊢; obtain ⟨y, h1, h2⟩ := h; exact ⟨y, h1, VRn.lvl h2⟩
 | .agg cs, v, h => by simp only [VR] at h ⊢; obtain ⟨vs, h1, h2⟩ := h; exact ⟨vs, h1, VRLn.lvl h2⟩
 | .tup cs, v, h => by simp only [VR] at h ⊢; obtain ⟨vs, h1, h2⟩ := h; exact ⟨vs, h1, VRLn.lvl h2⟩
 | .any, v, h => by simp only [VR]
 | .bool b, v, h => by simpa only [VR] using h
 | .int k n, v, h => by simpa only [VR] using h
 | .str b, v, h => by simpa only [VR] using h
 | .nilp, v, h => by simpa only [VR] using h
 | .nils, v, h => by simpa only [VR] using h
 | .mapn, v, h => by simpa only [VR] using h
 | .nilf, v, h => by simpa only [VR] using h
 | .nili, v, h => by simpa only [VR] using h
 | .sl t xs fl, v, h => by simpa only [VR] using h
theorem VRLn.lvl {lv' : Nat} : ∀ {cs : List (TV D.T)} {vs : List V}, VRL D [] lv cs vs → VRL D [] lv' cs vs
 | [], vs, h => by simpa only [VRL] using h
 | c :: cs, vs, h => by simp only [VRL] at h ⊢; obtain ⟨v, r, h1, h2, h3⟩ := h; exact ⟨v, r, h1, VRn.lvl h2, VRLn.lvl h3⟩
end
theorem DR.vs (hD : D.Ok P) {H : Heap} {Dm : Nat → Nat → Prop} {t : DTy} {x : t.S D.T} {v : V} (h : DR D t x v) :
  VS H Dm v (D.el t x) ∧ ∀ (j : Nat) (u u' : V), v.cells[j]? = some u → (D.el t x).cells[j]? = some u' → VS H Dm u u' := by
 have one : ∀ {t : DTy} {x : t.S D.T} {v : V}, v.cells = [v] → (D.el t x).cells = [D.el t x] → VS H Dm v (D.el t x) →
   VS H Dm v (D.el t x) ∧ ∀ (j : Nat) (u u' : V), v.cells[j]? = some u → (D.el t x).cells[j]? = some u' → VS H Dm u u' := fun {t x v} h1 h2 h => ⟨h, fun j u u' hu hu' => by
  rw [h1] at hu; rw [h2] at hu'
  cases j with
  | zero => simp at hu hu'; subst hu; subst hu'; exact h
  | succ j => simp at hu⟩
 induction h with
 | bool b => exact one rfl rfl (.keep _ (by simp [V.kin]))
 | int k n => exact one rfl rfl (.keep _ (by simp [V.kin]))
 | str s => exact one rfl rfl (.keep _ (by simp [V.kin]))
 | nat n => exact one (t := .nat) rfl rfl (.any _)
 | nil t => exact one rfl rfl (.nil _ _)
 | sl t xs ws full hl h ih =>
   refine one rfl rfl (.sl _ _ _ _ (by simp [hl]) (fun j a b ha hb => ?_) fun j a b q v u ha hb hv hu => ?_)
   · rw [List.getElem?_map, Option.map_eq_some_iff] at hb
     obtain ⟨x, hx, rfl⟩ := hb
     rw [(h j x a hx ha).cells hD, el_cells hD]
   · rw [List.getElem?_map, Option.map_eq_some_iff] at hb
     obtain ⟨x, hx, rfl⟩ := hb
     exact (ih j x a hx ha).2 q v u hv hu
 | st i x vs hl h ih =>
   have cell : ∀ (j : Nat) (u u' : V), vs[j]? = some u → (D.els (D.fl i) (D.get i x))[j]? = some u' → VS H Dm u u' := fun j u u' hu hu' => by
     rw [els_nth, Option.map_eq_some_iff] at hu'
     obtain ⟨p, hp, rfl⟩ := hu'
     exact (ih j p u hp hu).1
   have e : D.el (.st i) x = .agg (D.els (D.fl i) (D.get i x)) := hD.enc i x
   rw [e]
   exact ⟨.agg _ _ (by rw [els_len, hl]) cell, fun j u u' hu hu' => cell j u u' hu hu'⟩
 | enc i x => exact ⟨.keep _ (hD.kin i x _), fun j u u' hu hu' => by
   rw [show D.el (.st i) x = D.enc i x from rfl, hu] at hu'
   injection hu' with hu'
   subst hu'
   exact .keep _ (kinL_get (kin_cells (hD.kin i x _)) j u hu)⟩
theorem VR.toDR (hD : D.Ok P) {t : DTy} {x : t.S D.T} {v : V} (ht : t ≠ .nat) (h : VR D ρ lv (D.tv t x) v) : DR D t x v := by
 have leaf : ∀ {t : DTy} {x : t.S D.T} {v : V}, t ≠ .nat → (∀ i, t ≠ .st i) → VR D ρ lv (D.leaf t x) v → DR D t x v := fun {t x v} h1 h2 h => by
  cases t with
  | bool => simp only [Dat.leaf, VR] at h; subst h; exact .bool _
  | int k => simp only [Dat.leaf, VR] at h; subst h; exact .int _ _
  | str => simp only [Dat.leaf, VR] at h; subst h; exact .str _
  | nat => exact (h1 rfl).elim
  | sl t => simp only [Dat.leaf, VR] at h; exact h.1
  | st i => exact (h2 i rfl).elim
 cases t with
 | st i =>
   simp only [Dat.tv, VR] at h
   obtain ⟨vs, rfl, h⟩ := h
   refine .st i x vs (by rw [← h.length, leaves_len]) fun j p u hp hu => ?_
   have hm := hD.flat i p.1 (List.mem_of_getElem? (HL.nth_some _ _ _ _ hp).2)
   have := h.get2 (j := j) (c := D.leaf p.1 p.2) (by rw [leaves_nth, hp]; rfl) hu
   obtain ⟨t, y⟩ := p
   refine leaf (fun e => ?_) (fun i e => ?_) this
   · subst e; exact hm.elim
   · subst e; exact hm.elim
 | nat => exact (ht rfl).elim
 | bool => exact leaf ht (by simp) h
 | int k => exact leaf ht (by simp) h
 | str => exact leaf ht (by simp) h
 | sl t => exact leaf ht (by simp) h
def allD : List Sh → Bool
 | [] => true
 | .d t :: l => !decide (t = .nat) && allD l
 | _ => false
def canon (D : Dat) : (l : List Sh) → HL D.T (Sh.tysL l) → List V
 | [], _ => []
 | .d t :: l, x => D.el t (HL.fst (Sh.tys (.d t)) x).1 :: canon D l (HL.snd (Sh.tys (.d t)) x)
 | s :: l, x => .any :: canon D l (HL.snd s.tys x)
theorem VRL.lvl {lv' : Nat} {cs : List (TV D.T)} {vs : List V} (h : VRL D [] lv cs vs) : VRL D [] lv' cs vs := VRLn.lvl h
theorem canon_rel (hD : D.Ok P) : ∀ {l : List Sh} {x : HL D.T (Sh.tysL l)}, allD l = true → VRL D ρ lv (bldL D (fun k => k) l x) (canon D l x)
 | [], x, h => (by simp only [VRL] : VRL D ρ lv [] [])
 | .d t :: l, x, h => by
   simp only [allD, Bool.and_eq_true] at h
   show VRL D ρ lv (D.tv t (HL.fst (Sh.tys (.d t)) x).1 :: bldL D (fun k => k) l (HL.snd (Sh.tys (.d t)) x)) (D.el t (HL.fst (Sh.tys (.d t)) x).1 :: canon D l (HL.snd (Sh.tys (.d t)) x))
   simp only [VRL]
   exact ⟨_, _, rfl, VR.tv hD (DR.el t _), canon_rel hD h.2⟩
theorem canon_vs (hD : D.Ok P) {H : Heap} {Dm : Nat → Nat → Prop} : ∀ {l : List Sh} {x : HL D.T (Sh.tysL l)} {vs : List V}, allD l = true → VRL D ρ lv (bldL D (fun k => k) l x) vs → VSL H Dm vs (canon D l x)
 | [], x, vs, h, hv => by
   replace hv : VRL D ρ lv [] vs := hv
   simp only [VRL] at hv; subst hv; exact .nil
 | .d t :: l, x, vs, h, hv => by
   simp only [allD, Bool.and_eq_true, Bool.not_eq_true', decide_eq_false_iff_not] at h
   replace hv : VRL D ρ lv (D.tv t (HL.fst (Sh.tys (.d t)) x).1 :: bldL D (fun k => k) l (HL.snd (Sh.tys (.d t)) x)) vs := hv
   simp only [VRL] at hv
   obtain ⟨v, r, rfl, h1, h2⟩ := hv
   exact .cons ((VR.toDR hD h.1 h1).vs hD).1 (canon_vs hD h.2 h2)
theorem vs_tupOf {H : Heap} {Dm : Nat → Nat → Prop} {vs us : List V} (h : VSL H Dm vs us) : VS H Dm (tupOf vs) (tupOf us) := by
 cases h with
 | nil => exact .tup' .nil
 | cons h1 r =>
   cases r with
   | nil => exact h1
   | cons h2 r => exact .tup' (.cons h1 (.cons h2 r))
theorem pure_ok (hD : D.Ok P) {e : Ent D} {fn : Func} {code : Code} {nt : Nat} {l : LSh} {pack : HL D.T l.tys → R} {un : R → HL D.T (Sh.tysL e.outs ++ tysO e.ros)} {go : HL D.T (Sh.tysL e.args ++ tysO e.aos) → Option R}
  (hf : P.funcs[e.f]? = some fn) (hb : fn.body = some code) (hnt : fn.ntmps = nt) (hent : ∀ args w, (callFunc e.f args).run P w = .ok (.enter e.f args) w) (hargs : e.args.length ≤ nt)
  (hgo : ∀ (R' : Type) (x : HL D.T (Sh.tysL e.args ++ tysO e.aos)) (k : HL D.T (Sh.tysL e.outs ++ tysO e.ros) → Option R') (kp : HL D.T (e.pan.tys ++ tysO e.pos) → Option R'), e.go x k kp = (go x).bind fun r => k (un r))
  (hpure : e.pure = true) (hren : e.ren = []) (haos : e.aos = []) (hros : e.ros = []) (houts : allD e.outs = true) (hp2 : l.pin ≤ l.os.length)
  (hout : ∀ x, resT P D (l.bld D x) fn.results.toList = some (bldL D (fun k => k) e.outs (HL.fst _ (un (pack x)))))
  (hrun : Runs P D code e.p e.args e.aos nt (endK D l pack) go) : e.Ok P := fun R' x k kp r h => by
 rw [hpure]
 rw [hgo] at h
 obtain ⟨r0, h1, h2⟩ := bnd_hi h
 refine ⟨un r0, h2, haos, hros, hren, fun lv0 vargs k2 => ⟨canon D e.outs (HL.fst _ (un r0)), fun ρ lv => canon_rel hD houts, ?_⟩⟩
 have hvl : vargs.length = e.args.length := by
  rw [← k2.length]
  have : ∀ (l : List Sh) (y : HL D.T (Sh.tysL l)), (bldL D (fun k => k) l y).length = l.length := fun l => by
   induction l with
   | nil => intro y; rfl
   | cons s l ih => intro y; show (bldV D (fun k => k) s (HL.fst _ y) :: bldL D (fun k => k) l (HL.snd _ y)).length = _; rw [List.length_cons, ih, List.length_cons]
  exact this _ _
 refine pcall_of hf hb hnt hent fun lv E => ?_
 let F : Fr := ⟨lv + 1, E, E, [], fun i => False, []⟩
 have hnob : ∀ s (o : TO D.T), fnd (bldOs D (fun k => k) e.aos 0 (HL.snd _ x)) s = some o → False := fun s o ho => by
  obtain ⟨j, _, hlt, _⟩ := bldOs_at e.aos (fnd_mem ho)
  rw [haos] at hlt; simp at hlt
 have k2' : VRL D [] (lv + 1) (bldL D (fun k => k) e.args (HL.fst _ x)) vargs := VRL.lvl k2
 have hR0 : TRr D F [] (entry D e.args e.aos nt x) ⟨vargs ++ List.replicate (nt - vargs.length) .any, ⟨lv + 1, [], E⟩, [], E⟩ := by
  refine ⟨by simp only [entry, haos]; rfl, by simp only [entry, List.length_append, List.length_replicate]; omega, enter_temps _ k2', fun s o ho => (hnob s o ho).elim, fun s s' o o' sl sl' i a1 => (hnob s o a1).elim, fun s o sl i a1 => (hnob s o a1).elim, rfl, rfl, rfl, rfl, fun i hi => hi.elim, fun j sl hj => by simp [F] at hj⟩
 refine sat_ends ((hrun F _ r0 (by simp [F]) (endK_ok hD (by simp [F]) hp2) x _ hR0.tr h1).mono fun ex σ hq => ?_)
 have key : ∀ ex, (ex = .normal ∨ ex = .ret) → (∃ x, pack x = r0 ∧ TR D F (l.bld D x) σ) → ∃ τ, Weak σ τ ∧ (∀ v, ex ≠ .panic v) ∧ Ends P fn lv E (tupOf (canon D e.outs (HL.fst _ (un r0)))) ex τ := fun ex hex ⟨y, hy, τ, ρ', w1, w2⟩ => by
  subst hy
  obtain ⟨vs, q1, q2⟩ := resT_sound hD w2 (hout y)
  have hv := vs_tupOf (canon_vs hD (H := τ.H) (Dm := outer lv) houts q2)
  refine ⟨τ, w1, fun v e => by rcases hex with h | h <;> (rw [h] at e; cases e), ?_⟩
  rcases hex with rfl | rfl
  ·exact ⟨tupOf vs, by simp only [resultsV, q1, Option.map_some], w2.d, w2.E, hv⟩
  ·exact ⟨tupOf vs, by simp only [resultsV, q1, Option.map_some], w2.d, w2.E, hv⟩
 cases ex with
 | normal => exact key _ (.inl rfl) hq
 | ret => exact key _ (.inr rfl) hq
 | exit id => exact hq.elim
 | panic v => exact hq.elim
structure FI (D : Dat) where
 R : Type
 ent : Nat → Ent D
 c : AC
 K : Ks D.T R
 p : Nat
 args : List Sh
 aos : List OSh
 nt : Nat
 labs : Nat → List (Nat × Lb D R)
 go : Nat → HL D.T (Sh.tysL args ++ tysO aos) → Option R
def LAll {α : Type} (φ : Nat → α → Prop) : List (Nat × α) → Prop
 | [] => True
 | p :: l => φ p.1 p.2 ∧ LAll φ l
theorem LAll.get {α : Type} {φ : Nat → α → Prop} : ∀ {l : List (Nat × α)} {j : Nat} {a : α}, LAll φ l → (j, a) ∈ l → φ j a
 | p :: l, j, a, h, hm => by
   rcases List.mem_cons.1 hm with hm | hm
   · subst hm; exact h.1
   · exact LAll.get h.2 hm
def atStep (P : Program) (D : Dat) {R : Type} (tbl : List (Ent D)) (J : Nat → TS D.T → Option R) (l : Nat) (c : AC) (K : Ks D.T R) (ts : TS D.T) : Option R :=
 match AC.at P D tbl J l c K (fun _ => none) with
 | some g => g ts
 | none => none
structure FI.Good (P : Program) (D : Dat) (tbl : Nat → List (Ent D)) (f : FI D) : Prop where
 nodup : f.c.labels.Nodup
 zero : ∀ x, f.go 0 x = none
 lzero : ∀ l lb x, fnd (f.labs 0) l = some lb → lb.go x = none
 pins : ∀ n l lb, fnd (f.labs n) l = some lb → f.p ≤ lb.sh.pin ∧ lb.sh.pin ≤ lb.sh.os.length
 step : ∀ n x, f.go (n + 1) x = run P D (tbl n) (jump D (f.labs n)) f.c (entry D f.args f.aos f.nt x) f.K
 lstep : ∀ n l lb x, fnd (f.labs (n + 1)) l = some lb → lb.go x = atStep P D (tbl n) (jump D (f.labs n)) l f.c f.K (lb.sh.bld D x)
 ok : ∀ n, Runs P D f.c.erase f.p f.args f.aos f.nt f.K (f.go n) → (f.ent n).Ok P
def FI.Labs (P : Program) (D : Dat) (f : FI D) (n : Nat) : Prop :=
 ∀ F Q r, F.pin.length ≤ f.p → KOk D F f.K Q r → ∀ l a Q', f.c.site P l Q = some (a, Q') → ∀ ts σ, TR D F ts σ → jump D (f.labs n) l ts = some r → a.Claim P σ Q'
theorem FI.Good.labs (hD : D.Ok P) {tbl : Nat → List (Ent D)} {f : FI D} (h : f.Good P D tbl) : ∀ n, (∀ m, m < n → ∀ e ∈ tbl m, e.Ok P) → f.Labs P D n
 | 0, _ => fun F Q r hp hK l a Q' hs ts σ hT hj => by
   unfold jump at hj
   split at hj
   · rename_i lb hlb
     obtain ⟨p1, p2⟩ := h.pins 0 l lb hlb
     obtain ⟨x, h1, _⟩ := LSh.enter_sound hD (by omega) p2 hT hj
     rw [h.lzero l lb x hlb] at h1; cases h1
   · cases hj
 | n + 1, ht => fun F Q r hp hK l a Q' hs ts σ hT hj => by
   have ih := FI.Good.labs hD h n fun m hm => ht m (by omega)
   unfold jump at hj
   split at hj
   · rename_i lb hlb
     obtain ⟨p1, p2⟩ := h.pins (n + 1) l lb hlb
     obtain ⟨x, h1, h2⟩ := LSh.enter_sound hD (by omega) p2 hT hj
     rw [h.lstep n l lb x hlb] at h1
     unfold atStep at h1
     split at h1
     · rename_i g hg
       obtain ⟨a', Q'', e1, e2⟩ := at_sound hD (ht n (by omega)) hK (fun b _ ts σ _ hk => by cases hk) (labs_of (P := P) (φ := LOk P D F (jump D (f.labs n)) r) h.nodup fun l a Q' hs ts σ hT hj => ih F Q r hp hK l a Q' hs ts σ hT hj) hg
       rw [hs] at e1; injection e1 with e1; injection e1 with e1 e3; subst e1; subst e3
       exact e2 _ σ h2 h1
     · cases h1
   · cases hj
theorem FI.Good.runs (hD : D.Ok P) {tbl : Nat → List (Ent D)} {f : FI D} (h : f.Good P D tbl) : ∀ n, (∀ m, m < n → ∀ e ∈ tbl m, e.Ok P) → Runs P D f.c.erase f.p f.args f.aos f.nt f.K (f.go n)
 | 0, _ => fun F Q r hp hK x σ hT hg => by rw [h.zero] at hg; cases hg
 | n + 1, ht => fun F Q r hp hK x σ hT hg => by
   rw [h.step] at hg
   have ih := h.labs hD n fun m hm => ht m (by omega)
   exact run_sound hD (ht n (by omega)) hK (labs_of (P := P) (φ := LOk P D F (jump D (f.labs n)) r) h.nodup fun l a Q' hs ts σ hT hj => ih F Q r hp hK l a Q' hs ts σ hT hj) hT hg
theorem ring (hD : D.Ok P) {fs : List (FI D)} {base : Nat → List (Ent D)} (hb : ∀ n, ∀ e ∈ base n, e.Ok P) (h : ∀ f ∈ fs, f.Good P D fun n => fs.map (·.ent n) ++ base n) : ∀ n, ∀ f ∈ fs, (f.ent n).Ok P := fun n => by
 induction n using Nat.strongRecOn with
 | ind n ih =>
   intro f hf
   refine (h f hf).ok n ((h f hf).runs hD n fun m hm e he => ?_)
   rcases List.mem_append.1 he with he | he
   · obtain ⟨g, hg, rfl⟩ := List.mem_map.1 he
     exact ih m hm g hg
   · exact hb m e he
end
end Go.Ab


namespace Go.Ab
open Go
set_option linter.unusedVariables false
set_option linter.unusedSectionVars false
section
variable {P : Program} {D : Dat} {R : Type}
def FI.of (D : Dat) (f nt p : Nat) (args : List Sh) (aos : List OSh) (outs : List Sh) (ros : List OSh) (pure : Bool) (l : LSh) {R : Type} (pack : HL D.T l.tys → R) (un : R → HL D.T (Sh.tysL outs ++ tysO ros))
  (go : Nat → HL D.T (Sh.tysL args ++ tysO aos) → Option R) (labs : Nat → List (Nat × Lb D R)) (c : AC) : FI D :=
 { R := R, ent := fun n => { f := f, p := p, args := args, aos := aos, outs := outs, ros := ros, pan := .nilp, pos := ros, pure := pure, go := fun x k _ => (go n x).bind fun r => k (un r) },
   c := c, K := endK D l pack, p := p, args := args, aos := aos, nt := nt, labs := labs, go := go }
def tb (l : List (FI D)) (n : Nat) : List (Ent D) := l.map (·.ent n)
def FOk (P : Program) (f : FI D) : Prop := ∀ n, (f.ent n).Ok P
def OkL (P : Program) : List (FI D) → Prop
 | [] => True
 | f :: l => FOk P f ∧ OkL P l
def GoodL (P : Program) (tbl : Nat → List (Ent D)) : List (FI D) → Prop
 | [] => True
 | f :: l => f.Good P D tbl ∧ GoodL P tbl l
theorem OkL.get : ∀ {l : List (FI D)} {f : FI D}, OkL P l → f ∈ l → FOk P f
 | g :: l, f, h, hm => by
   rcases List.mem_cons.1 hm with rfl | hm
   · exact h.1
   · exact OkL.get h.2 hm
theorem OkL.of : ∀ {l : List (FI D)}, (∀ f ∈ l, FOk P f) → OkL P l
 | [], h => trivial
 | f :: l, h => ⟨h f List.mem_cons_self, OkL.of fun g hg => h g (List.mem_cons_of_mem _ hg)⟩
theorem GoodL.get {tbl : Nat → List (Ent D)} : ∀ {l : List (FI D)} {f : FI D}, GoodL P tbl l → f ∈ l → f.Good P D tbl
 | g :: l, f, h, hm => by
   rcases List.mem_cons.1 hm with rfl | hm
   · exact h.1
   · exact GoodL.get h.2 hm
theorem ring_ok (hD : D.Ok P) {fs bs : List (FI D)} (hb : OkL P bs) (h : GoodL P (tb (fs ++ bs)) fs) : OkL P fs :=
 OkL.of fun f hf n => ring hD (base := fun n => bs.map (·.ent n)) (fun n e he => by
  obtain ⟨b, hm, rfl⟩ := List.mem_map.1 he
  exact hb.get hm n) (fun g hg => by
  have := h.get hg
  have e : (tb (fs ++ bs)) = fun n => fs.map (·.ent n) ++ bs.map (·.ent n) := by funext n; simp [tb]
  rw [e] at this
  exact this) n f hf
def chkB (p nt : Nat) (args outs : List Sh) (aos ros : List OSh) (pure : Bool) (l : LSh) (c : AC) : Bool :=
 Nat.ble args.length nt && Nat.ble p l.pin && Nat.ble l.pin l.os.length &&
 (match pure with
  | true => aos.isEmpty && ros.isEmpty && allD outs
  | false => Nat.beq l.os.length ros.length)
def pinsB (p : Nat) : List (Nat × Lb D R) → Bool
 | [] => true
 | (_, lb) :: r => Nat.ble p lb.sh.pin && Nat.ble lb.sh.pin lb.sh.os.length && pinsB p r
theorem pinsB_all {p : Nat} : ∀ {l : List (Nat × Lb D R)}, pinsB p l = true → LAll (fun _ lb => p ≤ lb.sh.pin ∧ lb.sh.pin ≤ lb.sh.os.length) l
 | [], h => trivial
 | (_, lb) :: r, h => by
   simp only [pinsB, Bool.and_eq_true, Nat.ble_eq] at h
   exact ⟨h.1, pinsB_all h.2⟩
theorem FI.of_good {hD : D.Ok P} {f nt p : Nat} {args : List Sh} {aos : List OSh} {outs : List Sh} {ros : List OSh} {pure : Bool} {l : LSh} {pack : HL D.T l.tys → R} {un : R → HL D.T (Sh.tysL outs ++ tysO ros)}
  {go : Nat → HL D.T (Sh.tysL args ++ tysO aos) → Option R} {labs : Nat → List (Nat × Lb D R)} {c : AC} {tbl : Nat → List (Ent D)} {fn : Func}
  (hf : P.funcs[f]? = some fn) (hnt : fn.ntmps = nt) (hent : ∀ args w, (callFunc f args).run P w = .ok (.enter f args) w)
  (hb : fn.body = some c.erase) (hnd : c.labels.Nodup) (hchk : chkB p nt args outs aos ros pure l c = true) (hp : ∀ n, pinsB p (labs n) = true)
  (hout : ∀ x, resT P D (l.bld D x) fn.results.toList = some (bldL D (fun k => k) outs (HL.fst _ (un (pack x)))))
  (hz : ∀ x, go 0 x = none) (hlz : LAll (fun _ lb => ∀ x, lb.go x = none) (labs 0))
  (hs : ∀ n x, go (n + 1) x = run P D (tbl n) (jump D (labs n)) c (entry D args aos nt x) (endK D l pack))
  (hls : ∀ n, LAll (fun j lb => ∀ x, lb.go x = atStep P D (tbl n) (jump D (labs n)) j c (endK D l pack) (lb.sh.bld D x)) (labs (n + 1)))
  (hros : ∀ x, pure = true ∨ (l.bld D x).o = bldOs D (fun k => k) ros 0 (HL.snd _ (un (pack x)))) :
  (FI.of D f nt p args aos outs ros pure l pack un go labs c).Good P D tbl where
 nodup := hnd
 zero := hz
 lzero := fun j lb x h => hlz.get (fnd_mem h) x
 pins := fun n j lb h => (pinsB_all (hp n)).get (fnd_mem h)
 step := hs
 lstep := fun n j lb x h => (hls n).get (fnd_mem h) x
 ok := fun n h => by
  simp only [chkB, Bool.and_eq_true, Nat.ble_eq] at hchk
  obtain ⟨⟨⟨h1, h2⟩, h3⟩, h4⟩ := hchk
  cases pure with
  | true =>
    simp only [Bool.and_eq_true, List.isEmpty_iff] at h4
    obtain ⟨⟨rfl, rfl⟩, h6⟩ := h4
    exact pure_ok (l := l) (pack := pack) (un := un) (go := go n) (code := c.erase) hD hf hb hnt hent h1 (fun _ _ _ _ => rfl) rfl rfl rfl rfl h6 h3 hout h
  | false =>
    exact flat_ok (l := l) (pack := pack) (un := un) (go := go n) (code := c.erase) hD hf hb hnt hent h1 (fun _ _ _ _ => rfl) rfl rfl h2 h3 (Nat.eq_of_beq_eq_true h4) (fun x => ⟨hout x, (hros x).resolve_left (by simp)⟩) h
end
end Go.Ab


namespace Go.Ab
open Go
set_option linter.unusedVariables false
set_option linter.unusedSimpArgs false
set_option linter.unusedSectionVars false
section
variable {P : Program} {D : Dat} {F : Fr} {ρ : List Slot} {ts : TS D.T} {σ : St} {lv : Nat} {R X : Type}
structure Given (D : Dat) (lv : Nat) (L : List (Option AObj)) (ρ0 : List Slot) (args : List Sh) (aos : List OSh) (x : HL D.T (Sh.tysL args ++ tysO aos)) (vargs : List V) : Prop where
 len : ρ0.length = aos.length
 args : VRL D ρ0 lv (bldL D (fun k => k) args (HL.fst _ x)) vargs
 ob : ∀ j o, (j, o) ∈ bldOs D (fun k => k) aos 0 (HL.snd _ x) → ∃ sl, ρ0[j]? = some sl ∧ OR D ρ0 lv L sl o
 inj : ∀ (s s' : Nat) (sl sl' : Slot) (i : Nat), ρ0[s]? = some sl → ρ0[s']? = some sl' → sl.k = some i → sl'.k = some i → s = s'
def ModeOk (D : Dat) (lv : Nat) : (m : Option Sh) → HL D.T (modeTys m) → AMode → Prop
 | none, _, am => am = .ret
 | some s, x, am => ∃ v, am = .pan v false ∧ VR D [] lv (bldV D (fun k => k) s x) v
def DEnt.Ok (P : Program) (de : DEnt D) : Prop := ∀ x mx y, de.go x mx = some y → ∀ (lv : Nat) (L : List (Option AObj)) (E : Nat → Nat → Option AObj) (ρ0 : List Slot) (vargs : List V), Given D lv L ρ0 de.args de.aos x vargs →
 ∀ (am : AMode), ModeOk D lv de.m mx am → ∀ (W : World) (g : Gh) (cargs : Array Value) (u : FrameMode), Good W g ⟨lv, L, E⟩ → RelA W g ⟨lv, L, E⟩ vargs cargs → MRel W g ⟨lv, L, E⟩ am u →
  (∀ w, (callFunc de.f cargs).run P w = .ok (.enter de.f cargs) w) ∧ CallsD P de.f cargs u W (fun e u' W' => ∃ v L' g' ρ', e = .returned v ∧ Step W g ⟨lv, L, E⟩ W' g' ⟨lv, L', E⟩ ∧ Good W' g' ⟨lv, L', E⟩ ∧ settle u' = .returning ∧ Left D lv L ρ0 de.aos.length L' ρ' de.ros y)
def DesOk (P : Program) : List (DEnt D) → Prop
 | [] => True
 | d :: l => d.Ok P ∧ DesOk P l
theorem DesOk.get : ∀ {l : List (DEnt D)}, DesOk P l → ∀ d ∈ l, d.Ok P
 | d :: l, h, e, he => by
   rcases List.mem_cons.1 he with rfl | he
   · exact h.1
   · exact DesOk.get h.2 e he
end
theorem one_ok {P : Program} {D : Dat} (hD : D.Ok P) {f : FI D} {bs : List (FI D)} (hb : OkL P bs) (h : f.Good P D (tb bs)) : OkL P [f] :=
 ⟨fun n => h.ok n (h.runs hD n fun m _ e he => by
  obtain ⟨b, hm, rfl⟩ := List.mem_map.1 he
  exact hb.get hm m), trivial⟩
end Go.Ab


namespace Go.Ab
open Go
set_option linter.unusedVariables false
theorem ix_nat {α : Type} (l : List α) (k : Nat) : ix l (k : Int) = l[k]? := by simp [ix]
theorem wrk {k : Nat} (h : k ≤ 4611686018427387904) : IntKind.i64.wrap ((k : Int) + 1) = ((k + 1 : Nat) : Int) := by rw [wr1 h]; rfl
theorem ix_lt {α : Type} {l : List α} {k : Nat} (h : k < l.length) : ix l (k : Int) = some l[k] := by rw [ix_nat, List.getElem?_eq_getElem h]
theorem ext_ok {α : Type} {x y : List α} (h : x.length + y.length ≤ 1048576) : ext x y = some (x ++ y) := by unfold ext; rw [if_pos]; simp [roomB]; omega
theorem cat_ok {x y : List UInt8} (h : x.length + y.length ≤ 16777216) : cat x y = some (x ++ y) := by unfold cat; rw [if_pos]; simp [maxLen]; omega
theorem down {len : Nat} {Q : Nat → Prop} (h0 : Q len) (hs : ∀ k, k < len → Q (k + 1) → Q k) : ∀ k, k ≤ len → Q k := by
 intro k hk
 obtain ⟨m, rfl⟩ : ∃ m, k = len - m := ⟨len - k, by omega⟩
 induction m with
 | zero => exact h0
 | succ m ih =>
   by_cases h : m < len
   · refine hs _ (by omega) ?_
     rw [show len - (m + 1) + 1 = len - m by omega]
     exact ih (by omega)
   · rw [show len - (m + 1) = len - m by omega]; exact ih (by omega)
end Go.Ab


namespace Go.Ab
open Go
set_option linter.unusedVariables false
set_option linter.unusedSimpArgs false
def Ev {α : Type} (f : Nat → Option α) (r : α) : Prop := ∃ n, ∀ m, n ≤ m → f m = some r
section
variable {α β : Type} {r : α}
theorem Ev.get {f : Nat → Option α} (h : Ev f r) : ∃ n, f n = some r := by obtain ⟨n, hn⟩ := h; exact ⟨n, hn n (Nat.le_refl _)⟩
theorem Ev.succ {f g : Nat → Option α} (h : ∀ n, f (n + 1) = g n) (hg : Ev g r) : Ev f r := by
 obtain ⟨n, hn⟩ := hg
 refine ⟨n + 1, fun m hm => ?_⟩
 obtain ⟨q, rfl⟩ : ∃ q, m = q + 1 := ⟨m - 1, by omega⟩
 rw [h]; exact hn q (by omega)
theorem Ev.same {f g : Nat → Option α} (h : ∀ n, f n = g n) (hg : Ev g r) : Ev f r := by
 obtain ⟨n, hn⟩ := hg
 exact ⟨n, fun m hm => by rw [h]; exact hn m hm⟩
theorem Ev.pure {o : Option α} (h : o = some r) : Ev (fun _ => o) r := ⟨0, fun _ _ => h⟩
theorem Ev.bind {a : Nat → Option β} {k : Nat → β → Option α} {y : β} (ha : Ev a y) (hk : Ev (fun n => k n y) r) : Ev (fun n => (a n).bind (k n)) r := by
 obtain ⟨n, hn⟩ := ha
 obtain ⟨q, hq⟩ := hk
 exact ⟨max n q, fun m hm => by show (a m).bind (k m) = _; rw [hn m (by omega)]; exact hq m (by omega)⟩
theorem Ev.t {c : Bool} {a b : Nat → Option α} (hc : c = true) (ha : Ev a r) : Ev (fun n => if c = true then a n else b n) r := by subst hc; exact ha
theorem Ev.f {c : Bool} {a b : Nat → Option α} (hc : c = false) (ha : Ev b r) : Ev (fun n => if c = true then a n else b n) r := by subst hc; exact ha
theorem Ev.cond {c : Bool} {a b : Nat → Option α} (ht : c = true → Ev a r) (hf : c = false → Ev b r) : Ev (fun n => if c = true then a n else b n) r := by
 cases c
 ·exact hf rfl
 ·exact ht rfl
theorem Ev.to {f : Nat → Option α} {r' : α} (h : Ev f r') (e : r' = r) : Ev f r := e ▸ h
end
section
variable {α β γ : Type} {xs : List α}
end
end Go.Ab


namespace Go.Ab
open Go
set_option linter.unusedVariables false
set_option linter.unusedSimpArgs false
section
variable {α β : Type} {r : α}
theorem Ev.succ_iff {f g : Nat → Option α} (h : ∀ n, f (n + 1) = g n) : Ev f r ↔ Ev g r :=
 ⟨fun ⟨n, hn⟩ => ⟨n, fun m hm => by rw [← h]; exact hn _ (by omega)⟩, Ev.succ h⟩
theorem evS (f : Nat → Option α) (r : α) {g : Nat → Option α} (h : ∀ n, f (n + 1) = g n) : Ev f r ↔ Ev g r := Ev.succ_iff h
theorem Ev.det {f : Nat → Option α} {x y : α} (h : Ev f x) (k : Ev f y) : x = y := by
 obtain ⟨n, hn⟩ := h; obtain ⟨q, hq⟩ := k
 have := hn (max n q) (by omega); rw [hq (max n q) (by omega)] at this; injection this with this; exact this.symm
theorem Ev.bind_iff {a : Nat → Option β} {k : Nat → β → Option α} {y : β} (ha : Ev a y) : Ev (fun n => (a n).bind (k n)) r ↔ Ev (fun n => k n y) r :=
 ⟨fun h => by
  obtain ⟨n, hn⟩ := h; obtain ⟨q, hq⟩ := ha
  refine ⟨max n q, fun m hm => ?_⟩
  have := hn m (by omega)
  simp only [hq m (by omega)] at this
  exact this, Ev.bind ha⟩
theorem Ev.opt_iff {o : Option β} {k : Nat → β → Option α} {y : β} (ho : o = some y) : Ev (fun n => o.bind (k n)) r ↔ Ev (fun n => k n y) r := by subst ho; exact Iff.rfl
theorem Ev.pif_t {a b : Nat → Option α} {c : Bool} (hc : c = true) : Ev (fun n => pIf c (a n) (b n)) r ↔ Ev a r := by subst hc; exact Iff.rfl
theorem Ev.pif_f {a b : Nat → Option α} {c : Bool} (hc : c = false) : Ev (fun n => pIf c (a n) (b n)) r ↔ Ev b r := by subst hc; exact Iff.rfl
theorem Ev.pif {a b : Nat → Option α} {c : Bool} : Ev (fun n => pIf c (a n) (b n)) r ↔ if c = true then Ev a r else Ev b r := by cases c <;> exact Iff.rfl
theorem Ev.some_iff {x : α} : Ev (fun _ => some x) r ↔ x = r := ⟨fun ⟨n, h⟩ => by have := h n (Nat.le_refl _); injection this, fun h => ⟨0, fun _ _ => by rw [h]⟩⟩
end
theorem wI {x : Int} (h : -9223372036854775808 ≤ x ∧ x ≤ 9223372036854775807) : IntKind.i64.wrap x = x := IntWalk.i64_in _ h
theorem wU {x : Int} (h : 0 ≤ x ∧ x ≤ 18446744073709551615) : IntKind.u64.wrap x = x := IntWalk.u64_in _ h
theorem wUn {x : Int} (h : -18446744073709551616 ≤ x ∧ x < 0) : IntKind.u64.wrap x = x + 18446744073709551616 := by
 unfold IntKind.wrap
 simp only [IntKind.bits, IntKind.signed, Bool.false_and, Bool.false_eq_true, if_false]
 omega
theorem mxI_nat {a b : Nat} : mxI (a : Int) (b : Int) = ((max a b : Nat) : Int) := by unfold mxI; split <;> omega
end Go.Ab


namespace Go.Ab
open Go
set_option linter.unusedVariables false
set_option linter.unusedSimpArgs false
def isDig (c : UInt8) : Bool := decide (48 ≤ c.toNat) && decide (c.toNat ≤ 57)
def cutAt (b : UInt8) (s : List UInt8) : List UInt8 × List UInt8 × Bool := (s.takeWhile (· != b), (s.dropWhile (· != b)).tail, s.any (· == b))
def parts (b : UInt8) : List UInt8 → List (List UInt8)
 | [] => [[]]
 | c :: t => if c == b then [] :: parts b t else match parts b t with
   | h :: r => (c :: h) :: r
   | [] => [[c]]
def steps (s : List UInt8) : List (List UInt8) := if s == [] then [] else parts 47 s
end Go.Ab


namespace Go.Ab
open Go
set_option linter.unusedVariables false
set_option linter.unusedSimpArgs false
theorem decL_low {s : List UInt8} {k : Nat} (h : k < s.length) (ha : s[k].toNat < 128) : decL s k = (s[k].toNat, 1) := by
 have h' : k < (ByteArray.mk s.toArray).size := by simpa [ByteArray.size] using h
 have e : (ByteArray.mk s.toArray)[k] = s[k] := rfl
 have := decode_ascii ⟨s.toArray⟩ k h' (by rw [e]; exact ha)
 rw [e] at this
 exact this
theorem decL_high {s : List UInt8} {k : Nat} (h : k < s.length) (ha : 128 ≤ s[k].toNat) : 128 ≤ (decL s k).1 ∧ 1 ≤ (decL s k).2 := by
 have h' : k < (ByteArray.mk s.toArray).size := by simpa [ByteArray.size] using h
 have e : (ByteArray.mk s.toArray)[k] = s[k] := rfl
 exact decode_high ⟨s.toArray⟩ k h' (by rw [e]; exact ha)
theorem sub_nat {α : Type} {l : List α} {lo hi : Nat} (h1 : lo ≤ hi) (h2 : hi ≤ l.length) : sub l (lo : Int) (hi : Int) = some ((l.take hi).drop lo) := by
 unfold sub; rw [if_pos ⟨by omega, by omega, by omega⟩]; simp
theorem sub_front {α : Type} {l : List α} {hi : Nat} (h2 : hi ≤ l.length) : sub l 0 (hi : Int) = some (l.take hi) := by
 unfold sub; rw [if_pos ⟨by omega, by omega, by omega⟩]; simp
theorem index_at (b : UInt8) : ∀ s : List UInt8, Lib.indexByte s b = if s.any (· == b) then ((s.takeWhile (· != b)).length : Int) else -1
 | [] => rfl
 | c :: t => by
   rw [Lib.indexByte, index_at b t]
   cases h : c == b
   · simp only [List.any_cons, h, Bool.false_or, List.takeWhile_cons, bne, Bool.not_false, if_true, List.length_cons]
     cases t.any (· == b)
     · simp
     · simp only [if_true, beq_iff_eq]
       rw [if_neg (by simp), if_neg (by omega)]
       simp
   · simp [h, bne]
theorem cut_idx {b : UInt8} : ∀ {s : List UInt8}, s.any (· == b) = true → (s.takeWhile (· != b)).length < s.length ∧ s.take (s.takeWhile (· != b)).length = s.takeWhile (· != b) ∧ s.drop ((s.takeWhile (· != b)).length + 1) = (s.dropWhile (· != b)).tail
 | [], h => by simp at h
 | c :: t, h => by
   cases hc : c == b
   · have ih := cut_idx (b := b) (s := t) (by simpa [hc] using h)
     simp only [bne] at ih ⊢
     simp [List.takeWhile_cons, List.dropWhile_cons, hc]
     exact ⟨ih.1, ih.2.1, by simpa using ih.2.2⟩
   · simp [List.takeWhile_cons, List.dropWhile_cons, hc, bne]
theorem cut_no {b : UInt8} : ∀ {s : List UInt8}, s.any (· == b) = false → cutAt b s = (s, [], false)
 | [], h => rfl
 | c :: t, h => by
   simp only [List.any_cons, Bool.or_eq_false_iff] at h
   have ih := cut_no (b := b) (s := t) h.2
   simp only [cutAt, bne] at ih ⊢
   simp [List.takeWhile_cons, List.dropWhile_cons, h.1]
   simpa using ih
end Go.Ab

