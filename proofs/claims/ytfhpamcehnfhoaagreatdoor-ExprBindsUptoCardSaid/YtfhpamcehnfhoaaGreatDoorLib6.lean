/-
  THE TYPED MACHINE: functions that panic, and deferred calls.
-/
import Derived.Test.YtfhpamcehnfhoaaGreatDoorLib5
import Derived.Test.YtfhpamcehnfhoaaGreatDoorLib2
import Derived.Test.YtfhpamcehnfhoaaGreatDoorLib3
import Derived.Test.YtfhpamcehnfhoaaGreatDoorLib1
import Derived.Lib.Bytealg
import Derived.Laws.RangeAny
namespace Go.Ab
open Go
set_option linter.unusedVariables false
set_option linter.unusedSimpArgs false
set_option linter.unusedSectionVars false
section
variable {P : Program} {D : Dat} {F : Fr} {ρ : List Slot} {ts : TS D.T} {σ : St} {lv : Nat} {R X : Type}
theorem y4m (hD : D.Ok P) (hR : TRr D F ρ ts σ) {pan : Sh} {pos : List OSh} {p : Nat} {z : TV D.T} {v : V} {x : HL D.T (pan.tys ++ yzi pos)} (hp : F.pin.length ≤ p) (hp2 : p ≤ pos.length) (hz : VR D ρ F.lv z v) (h : yd9 D pan pos p z ts = some x) :
  ∃ ρ', TRr D F ρ' ⟨[], z1t D (fun k => k) pos 0 (HL.snd _ x), pos.length, ts.nt, []⟩ σ ∧ VR D ρ' F.lv (zc3 D (fun k => k) pan (HL.fst _ x)) v := by
 unfold yd9 at h
 split at h
 ·rename_i hde
  split at h
  ·rename_i M y hy
   split at h
   ·rename_i M' w hw
    injection h with h; subst h
    obtain ⟨a1, a2, a3⟩ := zdj hD pan hy hz
    obtain ⟨b1, b2, b3, b4⟩ := zds hD hR pos hw
    have hM : MOk pos.length M' := b2 (a2 ⟨fun k src h => by have := (zbu h).1; omega, fun k k' s h h' => by have e := (zbu h).2; have e' := (zbu h').2; injection e with e; injection e' with e'; omega, fun k src hm => zry hm⟩)
    obtain ⟨ρ', c1, c2, c3⟩ := ydx hR hM fun j hj => by simpa using b3 j hj
    rw [HL.zdp, HL.ze4]
    have place : ∀ s sl i, ρ'[s]? = some sl → sl.k = some i → ∃ s0 o0, fnd M' s = some (.slot s0) ∧ fnd ts.o s0 = some o0 ∧ o0.live ∧ ρ[s0]? = some sl := fun s sl i hs hk => by
     obtain ⟨src, e1, e2⟩ := c3 s sl hs
     cases src with
     | nil => simp only [Src.is] at e2; subst e2; cases hk
     | slot s0 =>
       obtain ⟨src', e3, e4⟩ := b3 s (by rw [← c1]; exact (List.getElem?_eq_some_iff.1 hs).1)
       rw [Nat.zero_add, e1] at e3; injection e3 with e3; subst e3
       obtain ⟨o0, f1, f2⟩ := e4 s0 rfl
       exact ⟨s0, o0, e1, f1, f2, e2⟩
    refine ⟨ρ', ⟨c1, hR.nt, fun j c hj => by simp [fnd] at hj, fun s o ho => ?_, fun s s' o o' sl sl' i h1 h2 l1 l2 r1 r2 k1 k2 => ?_, fun s o sl i h1 l1 r1 k1 => ?_, hR.lv, hR.E, hR.e0, (by have := hR.d; rw [hde] at this; exact this), hR.out, fun j sl hj => ?_⟩, a3 ρ' (b1.agr c2)⟩
    rotate_right
    ·have hlt := (List.getElem?_eq_some_iff.1 hj).1
     obtain ⟨sl', e1, e2⟩ := c2 j _ (b1 _ _ (a1 _ _ (zp9 (n := p) (k := j) (by omega))))
     simp only [Src.is] at e2
     rw [hR.pin j sl hj] at e2; injection e2 with e2; subst e2; exact e1
    ·obtain ⟨_, _, _, sl, e1, e2⟩ := b4 ρ' c2 s o (z25 ho)
     exact ⟨sl, e1, e2⟩
    ·obtain ⟨s0, o0, d1, d2, d3, d4⟩ := place s sl i r1 k1
     obtain ⟨s1, o1, e1, e2, e3, e4⟩ := place s' sl' i r2 k2
     have := hR.inj s0 s1 o0 o1 sl sl' i d2 e2 d3 e3 d4 e4 k1 k2
     subst this
     exact hM.inj s s' s0 d1 e1
    ·obtain ⟨s0, o0, d1, d2, d3, d4⟩ := place s sl i r1 k1
     exact hR.mine s0 o0 sl i d2 d3 d4 k1
   ·cases h
  ·cases h
 ·cases h
def z1z (lv : Nat) (L : List (Option kz3)) (E : Nat → Nat → Option kz3) (ρ0 : List Slot) (p : Nat) : Fr :=
 ⟨lv, E, E, L, fun i => i < L.length ∧ ∀ (k : Nat) (sl0 : Slot), ρ0[k]? = some sl0 → sl0.k ≠ some i, ρ0.take p⟩
theorem znl {L : List (Option kz3)} {E : Nat → Nat → Option kz3} {ρ0 ρ' : List Slot} {p : Nat} {os : List OSh} {y : HL D.T (yzi os)} {τ : St} (hR : TRr D (z1z lv L E ρ0 p) ρ' ts τ) (ho : ts.o = z1t D (fun k => k) os 0 y) (hnx : ts.nx = os.length) :
  τ.H = ⟨lv, τ.H.L, E⟩ ∧ Left D lv L ρ0 p τ.H.L ρ' os y := by
 have hlen' : ρ'.length = os.length := by rw [hR.nx, hnx]
 have live : ∀ s sl, ρ'[s]? = some sl → ∃ o, fnd ts.o s = some o ∧ o.live := fun s sl hs => by
  rw [ho]; exact zo1 os (Nat.zero_le _) (by rw [Nat.zero_add, ← hlen']; exact (List.getElem?_eq_some_iff.1 hs).1)
 refine ⟨zhz (F := z1z lv L E ρ0 p) τ.H hR.lv hR.E, hlen', fun j o hm => ?_, fun s s' sl sl' i r1 r2 c1 c2 => ?_, fun s sl i r1 c1 => ?_, fun i hi hno => hR.out i ⟨hi, hno⟩, fun j sl hj hs => ?_⟩
 ·exact hR.ob j o (by rw [ho]; exact znu os hm)
 ·obtain ⟨o, a1, a2⟩ := live s sl r1
  obtain ⟨o', b1, b2⟩ := live s' sl' r2
  exact hR.inj s s' o o' sl sl' i a1 b1 a2 b2 r1 r2 c1 c2
 ·obtain ⟨o, a1, a2⟩ := live s sl r1
  have := hR.mine s o sl i a1 a2 r1 c1
  by_cases hlt : i < L.length
  ·right
   by_cases hex : ∃ (k : Nat) (sl0 : Slot), ρ0[k]? = some sl0 ∧ sl0.k = some i
   ·exact hex
   ·exact (this ⟨hlt, fun k sl0 e1 e2 => hex ⟨k, sl0, e1, e2⟩⟩).elim
  ·left; omega
 ·exact hR.pin j sl (by simp only [z1z, List.getElem?_take]; rw [if_pos hj]; exact hs)
theorem zph : ∀ (l : List Sh) (y : HL D.T (Sh.zzv l)), (z0b D (fun k => k) l y).length = l.length
 | [], _ => rfl
 | s :: l, y => by
   show (zc3 D (fun k => k) s (HL.fst _ y) :: z0b D (fun k => k) l (HL.snd _ y)).length = _
   rw [List.length_cons, zph l, List.length_cons]
structure yci (D : Dat) (lv : Nat) (L : List (Option kz3)) (ρ0 : List Slot) (args : List Sh) (aos : List OSh) (x : HL D.T (Sh.zzv args ++ yzi aos)) (vargs : List V) : Prop where
 len : ρ0.length = aos.length
 args : VRL D ρ0 lv (z0b D (fun k => k) args (HL.fst _ x)) vargs
 ob : ∀ j o, (j, o) ∈ z1t D (fun k => k) aos 0 (HL.snd _ x) → ∃ sl, ρ0[j]? = some sl ∧ OR D ρ0 lv L sl o
 inj : ∀ (s s' : Nat) (sl sl' : Slot) (i : Nat), ρ0[s]? = some sl → ρ0[s']? = some sl' → sl.k = some i → sl'.k = some i → s = s'
theorem yci.entry {L : List (Option kz3)} {E : Nat → Nat → Option kz3} {ρ0 : List Slot} {args : List Sh} {aos : List OSh} {x : HL D.T (Sh.zzv args ++ yzi aos)} {vargs : List V} (h : yci D lv L ρ0 args aos x vargs) (p : Nat) {nt : Nat} (hargs : args.length ≤ nt) :
  TRr D (z1z lv L E ρ0 p) ρ0 (entry D args aos nt x) ⟨vargs ++ List.replicate (nt - vargs.length) .any, ⟨lv, L, E⟩, [], E⟩ := by
 have hvl : vargs.length = args.length := by rw [← h.args.length]; exact zph _ _
 refine ⟨h.len, by simp only [Ab.entry, List.length_append, List.length_replicate]; omega, zj0 _ h.args, fun s o ho => h.ob s o (z25 ho), fun s s' o o' sl sl' i a1 a2 l1 l2 r1 r2 => h.inj s s' sl sl' i r1 r2, fun s o sl i a1 l1 r1 hk ho => ho.2 s sl r1 hk, rfl, rfl, rfl, rfl, fun i hi => ⟨hi.1, rfl⟩, fun j sl hj => ?_⟩
 simp only [z1z, List.getElem?_take] at hj
 split at hj
 ·exact hj
 ·cases hj
def yjc (D : Dat) (lv : Nat) : (m : Option Sh) → HL D.T (zjf m) → z0z → Prop
 | none, _, am => am = .ret
 | some s, x, am => ∃ v, am = .pan v false ∧ VR D [] lv (zc3 D (fun k => k) s x) v
def zcr.Ok (P : Program) (de : zcr D) : Prop := ∀ x mx y, de.go x mx = some y → ∀ (lv : Nat) (L : List (Option kz3)) (E : Nat → Nat → Option kz3) (ρ0 : List Slot) (vargs : List V), yci D lv L ρ0 de.args de.aos x vargs →
 ∀ (am : z0z), yjc D lv de.m mx am → ∀ (W : World) (g : Gh) (cargs : Array Value) (u : FrameMode), Good W g ⟨lv, L, E⟩ → zdm W g ⟨lv, L, E⟩ vargs cargs → zdk W g ⟨lv, L, E⟩ am u →
  (∀ w, (callFunc de.f cargs).run P w = .ok (.enter de.f cargs) w) ∧ CallsD P de.f cargs u W (fun e u' W' => ∃ v L' g' ρ', e = .returned v ∧ Step W g ⟨lv, L, E⟩ W' g' ⟨lv, L', E⟩ ∧ Good W' g' ⟨lv, L', E⟩ ∧ settle u' = .returning ∧ Left D lv L ρ0 de.aos.length L' ρ' de.ros y)
def yki (D : Dat) (ρ : List Slot) (lv : Nat) (z : Option (TV D.T)) (am : z0z) : Prop := match z with
 | none => am = .ret
 | some z => ∃ v, am = .pan v false ∧ VR D ρ lv z v
theorem zyk (hD : D.Ok P) {m : Option Sh} {z : Option (TV D.T)} {mx : HL D.T (zjf m)} (h : y4r D m z = some mx) {am : z0z} (hz : yki D ρ lv z am) : yjc D lv m mx am := by
 cases m with
 | none =>
   cases z with
   | none => exact hz
   | some z => cases h
 | some s =>
   cases z with
   | none => cases h
   | some z =>
     simp only [y4r] at h
     split at h
     · rename_i M x hx
       injection h with h; subst h
       obtain ⟨v, h1, h2⟩ := hz
       obtain ⟨a1, a2, a3⟩ := zdj hD s hx h2
       refine ⟨v, h1, a3 [] fun k src hk => ?_⟩
       have hM := a2 ⟨fun k src h => by simp [fnd] at h, fun k k' s h => by simp [fnd] at h, fun k src h => by cases h⟩
       exact absurd (hM.lt k src hk) (by omega)
     · cases h
theorem zxa {am : z0z} (h : am = .ret ∨ ∃ v, am = .pan v false) : am.z9g.settle = .ret := by
 rcases h with rfl | ⟨v, rfl⟩ <;> rfl
theorem zpz (hD : D.Ok P) {des : List (zcr D)} (hdes : ∀ de ∈ des, de.Ok P) {fn : Func} {tm : Array Value} {k : TS D.T → Option R} {kp : TV D.T → TS D.T → Option R} {r : R} {R' : Ending → World → Prop} {W0 : World} {g0 : Gh} {H0 : kz1}
  (hk : ∀ ts σ ρ a W g, TRr D F ρ ts σ → zzb W a g σ → Step W0 g0 H0 W g σ.H → a.tmps = tm → k ts = some r → ∃ c, (results fn tm).run P W = .ok c W ∧ R' (.returned c) W)
  (hkp : ∀ z ts σ ρ a W g v c, TRr D F ρ ts σ → zzb W a g σ → Step W0 g0 H0 W g σ.H → VR D ρ F.lv z v → Rel W g σ.H v c → kp z ts = some r → R' (.panicked [{ v := c, recovered := false }]) W) :
  ∀ (l : List (Nat × List (TV D.T))) (z : Option (TV D.T)) (am : z0z) (ts : TS D.T) (σ : St) (ρ : List Slot) (a : Act) (W : World) (g : Gh) (u : FrameMode), ts.d = l → TRr D F ρ ts σ → zzb W a g σ → Step W0 g0 H0 W g σ.H → a.tmps = tm → zdk W g σ.H am u →
   yki D ρ F.lv z am → z9j D des k kp l z ts = some r → Leaves P fn tm R' a.defers u W
 | [], z, am, ts, σ, ρ, a, W, g, u, hd, hR, hG, hS, htm, hM, hz, h => by
   have hd0 : σ.d = [] := by have := hR.d; rw [hd] at this; exact this
   have hd1 : a.defers = [] := List.eq_nil_of_length_eq_zero (by rw [hG.dlen, hd0]; rfl)
   rw [hd1]
   cases z with
   | none =>
     have hz : am = .ret := hz
     subst hz
     have hu : u = .returning := hM
     subst hu
     exact hk ts σ ρ a W g hR hG hS htm h
   | some z =>
     obtain ⟨v, rfl, hv⟩ := hz
     obtain ⟨c, h1, h2⟩ := hM
     subst h1
     exact hkp z ts σ ρ a W g v c hR hG hS hv h2 h
 | (f, vs) :: l, z, am, ts, σ, ρ, a, W, g, u, hd, hR, hG, hS, htm, hM, hz, h => by
   simp only [z9j] at h
   have hdl := hR.d
   rw [hd] at hdl
   obtain ⟨vargs, s, hs1, hs2, hs3⟩ := hdl
   obtain ⟨caps, as, k1, k2⟩ := hG.defs 0 f vargs (by rw [hs1]; rfl)
   obtain ⟨d0, ds0, hds⟩ : ∃ d0 ds0, a.defers = d0 :: ds0 := by
     cases hq : a.defers with
     | nil => rw [hq] at k1; cases k1
     | cons d0 ds0 => exact ⟨d0, ds0, rfl⟩
   rw [hds] at k1
   simp only [List.getElem?_cons_zero, Option.some.injEq] at k1
   subst k1
   have look : ∀ des' : List (zcr D), (∀ de ∈ des', de ∈ des) → zon D f vs z ts (fun ts' => z9j D des k kp l none { ts' with d := l }) des' = some r → Leaves P fn tm R' a.defers u W := fun des' => by
     induction des' with
     | nil => intro _ h; cases h
     | cons de rest ih =>
       intro hmem h
       have ih := ih fun e he => hmem e (List.mem_cons_of_mem _ he)
       simp only [zon] at h
       split at h
       · exact ih h
       · rename_i hf
         have hf := Nat.eq_of_beq_eq_true hf
         split at h
         · exact ih h
         · rename_i mx hmx
           split at h
           · rename_i M x hfit
             split at h
             · rename_i hc
               obtain ⟨c1, c2⟩ := hc
               obtain ⟨y, hy, h⟩ := z8e h
               obtain ⟨hMok, ρ0, d1, d2, d3, d4, d5⟩ := Ent.zew hD hR (e := de.ent) hs2 hfit
               have hp : ∀ k, k < de.aos.length → ∃ s, fnd M k = some (.slot s) := fun k hk => by
                 have := List.all_eq_true.1 c2 k (List.mem_range.2 hk)
                 split at this
                 · rename_i s hs; exact ⟨s, hs⟩
                 · cases this
               have hHeap : σ.H = ⟨F.lv, σ.H.L, F.E⟩ := zhz σ.H hR.lv hR.E
               have hgiven : yci D F.lv σ.H.L ρ0 de.args de.aos x vargs := ⟨d1, d4, d5, zoa hR hMok d3⟩
               have hde := hdes de (hmem de List.mem_cons_self)
               have hmode : am = .ret ∨ ∃ v, am = .pan v false := by
                 cases z with
                 | none => exact .inl hz
                 | some z => obtain ⟨v, h1, _⟩ := hz; exact .inr ⟨v, h1⟩
               have hG0 := hG.good
               rw [hHeap] at hG0 k2 hM
               obtain ⟨e1, e2⟩ := hde x mx y hy F.lv σ.H.L F.E ρ0 vargs hgiven am (zyk hD hmx hz) W g (as ++ caps) u hG0 k2 hM
               rw [hf] at e1 e2
               rw [hds]
               have hu : u ≠ .run := hM.run
               refine leaves_cons hu (by show (callFunc f (as ++ caps)).run P W = _; exact e1 W) (e2.mono fun e u' W' ⟨v, L', g', ρ', q1, q2, q3, q4, q5⟩ => ?_)
               subst q1
               rw [← hHeap] at q2
               obtain ⟨g1, g2⟩ := TRr.after hR hD hMok d2 d3 (fun k s hm => hMok.one k _ hm) hp c1 q5
               have hR2 : TRr D F (ρ ++ ρ'.drop de.aos.length) { z6i D M de.aos.length ts de.ros y with d := l } { σ with H := ⟨F.lv, L', F.E⟩, d := s } := by
                 have hd2 : DfL D ρ F.lv l s := hs3
                 exact ⟨g1.nx, g1.nt, g1.tm, g1.ob, g1.inj, g1.mine, g1.lv, g1.E, g1.e0, hd2.more _, g1.out, g1.pin⟩
               have hG2 : zzb W' { a with defers := ds0 } g' { σ with H := ⟨F.lv, L', F.E⟩, d := s } := by
                 have hl := hG.dlen
                 rw [hds, hs1] at hl
                 refine ⟨q3, hG.size, fun j v hj => (hG.tmps j v hj).mono q2, by simpa using hl, fun j f' vs' hj => ?_⟩
                 obtain ⟨caps', as', z1, z2⟩ := hG.defs (j + 1) f' vs' (by rw [hs1]; simpa using hj)
                 exact ⟨caps', as', by rw [hds] at z1; simpa using z1, z2.mono q2⟩
               exact zpz hD hdes hk hkp l none .ret _ { σ with H := ⟨F.lv, L', F.E⟩, d := s } _ { a with defers := ds0 } W' g' (settle u') rfl hR2 hG2 (hS.trans q2) htm q4 rfl h
             · cases h
           · exact ih h
   exact look des (fun de h => h) h
def EndQP (D : Dat) (F : Fr) {Z : Type} (K : Ks D.T Z) (r : Z) (e : zz5) (σ : St) : Prop :=
 match e with
 | .normal => ∃ ts, TR D F ts σ ∧ K.kn ts = some r
 | .ret => ∃ ts, TR D F ts σ ∧ K.kr ts = some r
 | .panic v => ∃ ts ρ z, TRr D F ρ ts σ ∧ VR D ρ F.lv z v ∧ K.kp z ts = some r
 | .exit _ => False
theorem yj0 {Z : Type} {K : Ks D.T Z} (hkx : K.kx = []) {r : Z} : KOk D F K (EndQP D F K r) r :=
 ⟨fun ts σ hT h => ⟨ts, hT, h⟩, fun id k ts σ h => by rw [hkx] at h; simp [fnd] at h, fun ts σ hT h => ⟨ts, hT, h⟩, fun z ts σ ρ v hR hv h => ⟨ts, ρ, z, hR, hv, h⟩⟩
theorem zo4 (hD : D.Ok P) {Z : Type} {f p nt : Nat} {args : List Sh} {aos : List OSh} {fn : Func} {code : Code} {l : LSh} {kret : HL D.T l.tys → Z} {kpan : TV D.T → TS D.T → Option Z} {des : List (zcr D)} {go : HL D.T (Sh.zzv args ++ yzi aos) → Option Z} {K : Ks D.T Z}
  (hf : P.funcs[f]? = some fn) (hb : fn.body = some code) (hnt : fn.ntmps = nt) (hent : ∀ args w, (callFunc f args).run P w = .ok (.enter f args) w) (hargs : args.length ≤ nt) (hp1 : p ≤ l.pin) (hp2 : l.pin ≤ l.os.length)
  (hK : K = ⟨fun ts => z9j D des (l.enter D (fun x => some (kret x)) 9) kpan ts.d none ts, [], fun ts => z9j D des (l.enter D (fun x => some (kret x)) 9) kpan ts.d none ts, fun z ts => z9j D des (l.enter D (fun x => some (kret x)) 9) kpan ts.d (some z) ts⟩)
  (hdes : ∀ de ∈ des, de.Ok P) (hrun : y7d P D code p args aos nt K go) {x : HL D.T (Sh.zzv args ++ yzi aos)} {z0 : Z} (hz : go x = some z0) {lv : Nat} {L : List (Option kz3)} {E : Nat → Nat → Option kz3} {ρ0 : List Slot} {vargs : List V} (hg : yci D lv L ρ0 args aos x vargs) {Post : Out → kz1 → Prop}
  (hret : ∀ y υ ρ', kret y = z0 → TRr D (z1z lv L E ρ0 p) ρ' (l.bld D y) υ → ∃ vs, znx P υ fn.results.toList = some vs ∧ Post (.ret (z5b vs)) υ.H)
  (hpan : ∀ z ts σ ρ v, TRr D (z1z lv L E ρ0 p) ρ ts σ → VR D ρ lv z v → kpan z ts = some z0 → Post (.pan v) σ.H) : zeq P f vargs ⟨lv, L, E⟩ Post := fun W g cargs hG hA => by
 subst hnt
 refine ⟨hent cargs W, calls_of_wp_defers hf hb ?_⟩
 have hpl : (z1z lv L E ρ0 p).pin.length ≤ p := by simp only [z1z, List.length_take]; omega
 have hkx : K.kx = [] := by rw [hK]
 have hsat := hrun (z1z lv L E ρ0 p) _ z0 hpl (yj0 (K := K) hkx) x _ (hg.entry (E := E) p hargs).tr hz
 refine wp_mono (hsat W g ⟨lv, L, E⟩ W _ g ⟨hG⟩ ⟨rfl, .refl _ _ _⟩ (zax hG hA)) fun ex a W' ⟨g1, σ, e', q1, q2, q3, q4⟩ => ?_
 let PostE : Ending → World → Prop := fun en W' => ∃ o H' g', Post o H' ∧ Step W g ⟨lv, L, E⟩ W' g' H' ∧ Good W' g' H' ∧ y2i W' g' H' o en
 have done : ∀ (z : Option (TV D.T)) (am : z0z) (u : FrameMode) (ts : TS D.T) (τ : St) (ρ : List Slot) (g2 : Gh), TRr D (z1z lv L E ρ0 p) ρ ts τ → zzb W' a g2 τ → Step W g ⟨lv, L, E⟩ W' g2 τ.H → zdk W' g2 τ.H am u → yki D ρ lv z am →
   z9j D des (l.enter D (fun x => some (kret x)) 9) kpan ts.d z ts = some z0 → Leaves P fn a.tmps PostE a.defers u W' := fun z am u ts τ ρ g2 hR hG2 hS2 hM hz hl => by
  refine zpz (F := z1z lv L E ρ0 p) (R' := PostE) (W0 := W) (g0 := g) (H0 := ⟨lv, L, E⟩) hD hdes (fun ts σ ρ a W2 g2 t1 t2 t3 t4 t5 => ?_) (fun z ts σ ρ a W2 g2 v c t1 t2 t3 t4 t5 t6 => ?_) ts.d z am ts τ ρ a W' g2 u rfl hR hG2 hS2 rfl hM hz hl
  ·obtain ⟨y, hy, υ, ρ', w1, w2⟩ := LSh.z9t hD (by omega) hp2 t1.tr t5
   injection hy with hy
   obtain ⟨g3, w3, w4⟩ := w1 W g ⟨lv, L, E⟩ W2 a g2 ⟨hG⟩ ⟨t1.e0, t3⟩ t2
   obtain ⟨vs, r1, r2⟩ := hret y υ ρ' hy w2
   obtain ⟨c, z1, z2⟩ := z36 (P := P) (fn := fn) (v := z5b vs) w4 (by simp only [z26, r1, Option.map_some])
   rw [t4] at z1
   exact ⟨c, z1, .ret (z5b vs), υ.H, g3, r2, w3.2, w4.good, c, rfl, z2⟩
  ·exact ⟨.pan v, σ.H, g2, hpan z ts σ ρ v t1 t4 t6, t3, t2.good, c, rfl, t5⟩
 have back : ∀ {ts : TS D.T}, TR D (z1z lv L E ρ0 p) ts σ → z9j D des (l.enter D (fun x => some (kret x)) 9) kpan ts.d none ts = some z0 → Leaves P fn a.tmps PostE a.defers .returning W' := fun {ts} hT hl => by
  obtain ⟨τ, ρ, w1, w2⟩ := hT
  obtain ⟨g2, w3, w4⟩ := w1 W g ⟨lv, L, E⟩ W' a g1 ⟨hG⟩ q2 q3
  exact done none .ret .returning ts τ ρ g2 w2 w4 w3.2 rfl rfl hl
 subst hK
 cases q1 with
 | normal => obtain ⟨ts, hT, hl⟩ := q4; exact back hT hl
 | ret => obtain ⟨ts, hT, hl⟩ := q4; exact back hT hl
 | exit id => exact q4.elim
 | panic v c hr =>
   obtain ⟨ts, ρ, z, hR, hv, hl⟩ := q4
   exact done (some z) (.pan v false) _ ts σ ρ g1 hR q3 q2.2 ⟨c, rfl, hr⟩ ⟨v, rfl, hv⟩ hl
theorem ylb (hD : D.Ok P) {e : Ent D} {fn : Func} {code : Code} {nt : Nat} {l : LSh} {pack : HL D.T l.tys → R} {un : R → HL D.T (Sh.zzv e.outs ++ yzi e.ros)} {des : List (zcr D)}
  {go : HL D.T (Sh.zzv e.args ++ yzi e.aos) → Option (Res (HL D.T (e.pan.tys ++ yzi e.pos)) R)}
  (hf : P.funcs[e.f]? = some fn) (hb : fn.body = some code) (hnt : fn.ntmps = nt) (hent : ∀ args w, (callFunc e.f args).run P w = .ok (.enter e.f args) w) (hargs : e.args.length ≤ nt)
  (hgo : ∀ (R' : Type) (x : HL D.T (Sh.zzv e.args ++ yzi e.aos)) (k : HL D.T (Sh.zzv e.outs ++ yzi e.ros) → Option R') (kp : HL D.T (e.pan.tys ++ yzi e.pos) → Option R'), e.go x k kp = (go x).bind fun o => z6s o (fun r => k (un r)) (fun y => kp y))
  (hpure : e.pure = false) (hren : e.ren = []) (hp1 : e.p ≤ l.pin) (hp2 : l.pin ≤ l.os.length) (hlen : l.os.length = e.ros.length) (hp3 : e.p ≤ e.pos.length)
  (hout : ∀ x, zp8 P D (l.bld D x) fn.results.toList = some (z0b D (fun k => k) e.outs (HL.fst _ (un (pack x)))) ∧ (l.bld D x).o = z1t D (fun k => k) e.ros 0 (HL.snd _ (un (pack x))))
  (hdes : ∀ de ∈ des, de.Ok P) (hrun : y7d P D code e.p e.args e.aos nt (yg2 D des l pack e.pan e.pos e.p (fun y => y)) go) : e.Ok P := fun R' x k kp r h => by
 rw [hpure]
 rw [hgo] at h
 obtain ⟨o0, h1, h2⟩ := zid h
 cases o0 with
 | ok r0 =>
   refine .inl ⟨un r0, h2, fun lv L E ρ0 vargs k1 k2 k3 k4 => zo4 (p := e.p) hD hf hb hnt hent hargs hp1 hp2 rfl hdes hrun h1 ⟨k1, k2, k3, k4⟩ (fun y υ ρ' hy w2 => ?_) fun z ts σ ρ v _ _ hk => ?_⟩
   · injection hy with hy
     subst hy
     obtain ⟨o1, o2⟩ := hout y
     obtain ⟨vs, r1, r2⟩ := zb2 hD w2 o1
     obtain ⟨l1, l2⟩ := znl w2 o2 hlen
     exact ⟨vs, r1, υ.H.L, ρ', l1, l2, (by rw [hren]; intro q hq; cases hq), vs, rfl, r2⟩
   · unfold yk4 at hk
     split at hk <;> cases hk
 | pan y0 =>
   refine .inr ⟨y0, h2, fun lv L E ρ0 vargs k1 k2 k3 k4 => zo4 (p := e.p) hD hf hb hnt hent hargs hp1 hp2 rfl hdes hrun h1 ⟨k1, k2, k3, k4⟩ (fun y υ ρ' hy w2 => (by cases hy)) fun z ts σ ρ v t1 t4 hk => ?_⟩
   unfold yk4 at hk
   split at hk
   · rename_i y hy
     injection hk with hk; injection hk with hk
     subst hk
     have hpl : (z1z lv L E ρ0 e.p).pin.length ≤ e.p := by simp only [z1z, List.length_take]; omega
     obtain ⟨ρ', w1, w2⟩ := y4m hD t1 hpl hp3 t4 hy
     obtain ⟨l1, l2⟩ := znl w1 rfl rfl
     exact ⟨σ.H.L, ρ', l1, l2, v, rfl, w2⟩
   · cases hk
theorem yke (hD : D.Ok P) {e : Ent D} {fn : Func} {code : Code} {nt : Nat} {l : LSh} {pack : HL D.T l.tys → R} {un : R → HL D.T (Sh.zzv e.outs ++ yzi e.ros)} {des : List (zcr D)} {go : HL D.T (Sh.zzv e.args ++ yzi e.aos) → Option R}
  (hf : P.funcs[e.f]? = some fn) (hb : fn.body = some code) (hnt : fn.ntmps = nt) (hent : ∀ args w, (callFunc e.f args).run P w = .ok (.enter e.f args) w) (hargs : e.args.length ≤ nt)
  (hgo : ∀ (R' : Type) (x : HL D.T (Sh.zzv e.args ++ yzi e.aos)) (k : HL D.T (Sh.zzv e.outs ++ yzi e.ros) → Option R') (kp : HL D.T (e.pan.tys ++ yzi e.pos) → Option R'), e.go x k kp = (go x).bind fun r => k (un r))
  (hpure : e.pure = false) (hren : e.ren = []) (hp1 : e.p ≤ l.pin) (hp2 : l.pin ≤ l.os.length) (hlen : l.os.length = e.ros.length)
  (hout : ∀ x, zp8 P D (l.bld D x) fn.results.toList = some (z0b D (fun k => k) e.outs (HL.fst _ (un (pack x)))) ∧ (l.bld D x).o = z1t D (fun k => k) e.ros 0 (HL.snd _ (un (pack x))))
  (hdes : ∀ de ∈ des, de.Ok P) (hrun : y7d P D code e.p e.args e.aos nt (yfo D des l pack) go) : e.Ok P := fun R' x k kp r h => by
 rw [hpure]
 rw [hgo] at h
 obtain ⟨r0, h1, h2⟩ := zid h
 refine .inl ⟨un r0, h2, fun lv L E ρ0 vargs k1 k2 k3 k4 => zo4 (p := e.p) hD hf hb hnt hent hargs hp1 hp2 rfl hdes hrun h1 ⟨k1, k2, k3, k4⟩ (fun y υ ρ' hy w2 => ?_) fun z ts σ ρ v _ _ hk => (by cases hk)⟩
 subst hy
 obtain ⟨o1, o2⟩ := hout y
 obtain ⟨vs, r1, r2⟩ := zb2 hD w2 o1
 obtain ⟨l1, l2⟩ := znl w2 o2 hlen
 exact ⟨vs, r1, υ.H.L, ρ', l1, l2, (by rw [hren]; intro q hq; cases hq), vs, rfl, r2⟩
theorem yh8 (hD : D.Ok P) {f : Nat} {fn : Func} {code : Code} {nt : Nat} {args : List Sh} {aos ros : List OSh} {l : LSh} {pack : HL D.T l.tys → R} {un : R → HL D.T (yzi ros)} {go : HL D.T (Sh.zzv args ++ yzi aos) → Option R}
  (hf : P.funcs[f]? = some fn) (hb : fn.body = some code) (hnt : fn.ntmps = nt) (hent : ∀ args w, (callFunc f args).run P w = .ok (.enter f args) w) (hargs : args.length ≤ nt)
  (hp1 : aos.length ≤ l.pin) (hp2 : l.pin ≤ l.os.length) (hlen : l.os.length = ros.length) (hres : fn.results.toList = []) (hout : ∀ x, (l.bld D x).o = z1t D (fun k => k) ros 0 (un (pack x)))
  (hrun : y7d P D code aos.length args aos nt (zoe D l pack) go) : zcr.Ok P { f := f, args := args, aos := aos, m := none, ros := ros, go := fun x _ => (go x).bind fun r => some (un r) } := fun x mx y hgo lv L E ρ0 vargs hg am hm W g cargs u hG hA hM => by
 obtain ⟨r, h1, h2⟩ := zid hgo
 injection h2 with h2
 have hm : am = .ret := hm
 subst hm
 have hu : u = .returning := hM
 subst hu
 subst hnt
 refine ⟨fun w => hent cargs w, (callsD_of_wp (R := fun e W' => ∃ v L' g' ρ', e = .returned v ∧ Step W g ⟨lv, L, E⟩ W' g' ⟨lv, L', E⟩ ∧ Good W' g' ⟨lv, L', E⟩ ∧ Left D lv L ρ0 aos.length L' ρ' ros y) hf hb ?_).mono fun e u' W' ⟨q1, v, L', g', ρ', q2, q3, q4, q5⟩ => ⟨v, L', g', ρ', q2, q3, q4, by rw [q1]; rfl, q5⟩⟩
 have hpl : (z1z lv L E ρ0 aos.length).pin.length ≤ aos.length := by simp only [z1z, List.length_take]; omega
 refine wp_mono (hrun (z1z lv L E ρ0 aos.length) _ r hpl (zrp hD (by omega) hp2) x _ (hg.entry (E := E) aos.length hargs).tr h1 W g ⟨lv, L, E⟩ W _ g ⟨hG⟩ ⟨rfl, .refl _ _ _⟩ (zax hG hA)) fun ex a W' ⟨g1, σ, e', q1, q2, q3, q4⟩ => ?_
 have key : (∃ x, pack x = r ∧ TR D (z1z lv L E ρ0 aos.length) (l.bld D x) σ) → a.defers = [] ∧ ∃ v, (results fn a.tmps).run P W' = .ok v W' ∧ ∃ v' L' g' ρ', Ending.returned v = .returned v' ∧ Step W g ⟨lv, L, E⟩ W' g' ⟨lv, L', E⟩ ∧ Good W' g' ⟨lv, L', E⟩ ∧ Left D lv L ρ0 aos.length L' ρ' ros y := fun ⟨z, hz, υ, ρ', w1, w2⟩ => by
  subst hz
  obtain ⟨g3, w3, w4⟩ := w1 W g ⟨lv, L, E⟩ W' a g1 ⟨hG⟩ q2 q3
  obtain ⟨c, z1, z2⟩ := z36 (P := P) (fn := fn) (v := z5b []) w4 (by simp only [z26, hres, znx, Option.map_some])
  obtain ⟨l1, l2⟩ := znl w2 (hout z) hlen
  have hd : υ.d = [] := w2.d
  rw [h2] at l2
  have w5 := w3.2
  have w6 := w4.good
  rw [l1] at w5 w6
  exact ⟨List.eq_nil_of_length_eq_zero (by rw [w4.dlen, hd]; rfl), c, z1, c, υ.H.L, g3, ρ', rfl, w5, w6, l2⟩
 cases q1 with
 | normal => exact key q4
 | ret => exact key q4
 | exit id => exact q4.elim
 | panic v c hr => exact q4.elim
def mvOf (D : Dat) : (m : Option Sh) → HL D.T (zjf m) → TV D.T
 | none, _ => .nili
 | some s, x => zc3 D (fun k => k) s x
theorem yhz {tbl : List (Ent D)} {J : Nat → TS D.T → Option R} {mv : TV D.T} {c : AC} {K : Ks D.T R} {r : R} (h : runS D P tbl J mv c ts K = some r) :
  ∃ id ops b o rest ts1, c = .seq (.region id ops false) b ∧ ops.toList = o :: rest ∧ isRec o = true ∧ ts.put D o.dst mv = some ts1 ∧ zgd P D tbl ops.toList (fun ts => run P D tbl J b ts K) K.kp rest ts1 = some r := by
 unfold runS at h
 split at h
 ·split at h
  ·rename_i hl
   split at h
   ·rename_i hrec
    split at h
    ·rename_i ts1 hput
     exact ⟨_, _, _, _, _, ts1, rfl, hl, hrec, hput, h⟩
    ·cases h
   ·cases h
  ·cases h
 ·cases h
theorem ych (hm : P.follows .mixedOrders = true) (hD : D.Ok P) {f : Nat} {fn : Func} {c : AC} {nt : Nat} {args : List Sh} {aos ros : List OSh} {m : Option Sh} {l : LSh} {pack : HL D.T l.tys → R} {un : R → HL D.T (yzi ros)} {go : HL D.T (Sh.zzv args ++ yzi aos) → HL D.T (zjf m) → Option R}
  (hf : P.funcs[f]? = some fn) (hb : fn.body = some c.erase) (hnt : fn.ntmps = nt) (hent : ∀ args w, (callFunc f args).run P w = .ok (.enter f args) w) (hargs : args.length ≤ nt)
  (hp1 : aos.length ≤ l.pin) (hp2 : l.pin ≤ l.os.length) (hlen : l.os.length = ros.length) (hres : fn.results.toList = []) (hlab : c.labels = []) (hmode : (match m with | some (.iface _ _) => true | some _ => false | none => true) = true) (hout : ∀ x, (l.bld D x).o = z1t D (fun k => k) ros 0 (un (pack x)))
  (hgo : ∀ x mx, go x mx = runS D P [] (fun _ _ => none) (mvOf D m mx) c (entry D args aos nt x) (zoe D l pack)) : zcr.Ok P { f := f, args := args, aos := aos, m := m, ros := ros, go := fun x mx => (go x mx).bind fun r => some (un r) } := fun x mx y hgo' lv L E ρ0 vargs hg am ham W g cargs u hG hA hM => by
 obtain ⟨r, h1, h2⟩ := zid hgo'
 injection h2 with h2
 subst hnt
 rw [hgo] at h1
 refine ⟨fun w => hent cargs w, callsD_of_wpS hf hb fun c₀ cs hu => ?_⟩
 let F := z1z lv L E ρ0 aos.length
 have hpl : F.pin.length ≤ aos.length := by simp only [F, z1z, List.length_take]; omega
 have hK : KOk D F (zoe D l pack) (y50 D F l pack r) r := zrp hD (by omega) hp2
 have hR0 : TRr D F ρ0 (entry D args aos fn.ntmps x) _ := hg.entry (E := E) aos.length hargs
 have hmv : VR D ρ0 F.lv (mvOf D m mx) am.value := by
  cases m with
  | none => have ham : am = .ret := ham; subst ham; simp only [mvOf, z0z.value, VR]
  | some s => obtain ⟨v, h3, h4⟩ := ham; subst h3; exact (h4.more ρ0 : VR D ([] ++ ρ0) lv _ v)
 obtain ⟨id, ops, b, o, rest, ts1, rfl, hl, hrec, hput, h1⟩ := yhz h1
 have ho : ops[0]? = some o := by
  have := congrArg (fun x => x[0]?) hl
  simpa using this
 have hsz : ops.size = rest.length + 1 := by
  have := congrArg List.length hl
  simpa using this
 have hlab' : b.labels = [] := by
  simp only [AC.labels, List.nil_append] at hlab; exact hlab
 have z3u : zoh P (LOk P D F (fun _ _ => none) r) b (y50 D F l pack r) := zbc (by rw [hlab']; exact .nil) fun l' a Q' hs => by
  have := z61 hs; rw [hlab'] at this; cases this
 have behind : ∀ (σ' : St) (ts' : TS D.T) (ρ' : List Slot), TRr D F ρ' ts' σ' → run P D [] (fun _ _ => none) b ts' (zoe D l pack) = some r → ∀ (W' : World) (a' : Act) (g' : Gh) (u' : FrameMode), Step W g ⟨lv, L, E⟩ W' g' σ'.H → zzb W' a' g' σ' → zdk W' g' σ'.H am.z9g u' →
   b.erase.wpS P (zfb W g ⟨lv, L, E⟩ c₀ cs (y50 D F l pack r) am.z9g) a' ({ c₀ with mode := u' } :: cs) W' := fun σ' ts' ρ' hR' hrun W' a' g' u' hS' hG' hM' => by
  have hs := z43 (J := fun _ _ => none) (tbl := []) (c := b) hD (fun e he => by cases he) hK z3u hR'.tr hrun
  refine wpS_of_wp (wp_mono (hs W' g' σ'.H W' a' g' ⟨hG'.good⟩ ⟨by rw [hR'.e0, hR'.E]; rfl, .refl _ _ _⟩ hG') fun e a'' W'' ⟨g'', σ'', e'', q1, q2, q3, q4⟩ => ?_)
  exact ⟨g'', σ'', e'', u', q1, ⟨by rw [q2.1, hR'.E]; rfl, hS'.trans q2.2⟩, q3, rfl, hM'.mono q2.2, q4⟩
 have fin : ∀ a0 : Act, zzb W a0 g ⟨vargs ++ List.replicate (fn.ntmps - vargs.length) .any, ⟨lv, L, E⟩, [], E⟩ → (AC.seq (.region id ops false) b).erase.wpS P (zfb W g ⟨lv, L, E⟩ c₀ cs (y50 D F l pack r) am.z9g) a0 (c₀ :: cs) W := fun a0 hG0 => by
  refine wpS_seq (wpS_region ?_)
  rw [List.range_eq_range', hsz, List.range'_succ]
  simp only [wpOpsS, ho]
  unfold isRec at hrec
  split at hrec
  ·rename_i cl hop
   split at hrec
   ·rename_i hcal
    simp only [Bool.and_eq_true, Option.isNone_iff_eq_none, Array.isEmpty_iff] at hrec
    have hwant : Region.wanted o (yielded ops a0.tmps) = true := by unfold Region.wanted; rw [hrec.1]
    have hex : (execOp a0.eval o).run P W = .ok .recover W := by
     unfold execOp
     rw [hop]
     obtain ⟨callee, as, argTypes⟩ := cl
     simp only at hcal hrec
     obtain ⟨_, rfl⟩ := hrec
     subst hcal
     simp [resolve, invoke, builtin]
    rw [if_pos hwant, hex]
    simp only
    have rest' : ∀ (cv : Value) (u' : FrameMode), Rel W g ⟨lv, L, E⟩ am.value cv → zdk W g ⟨lv, L, E⟩ am.z9g u' → wpOpsS P ops (Exit.thenS (b.erase.wpS P (zfb W g ⟨lv, L, E⟩ c₀ cs (y50 D F l pack r) am.z9g)) (zfb W g ⟨lv, L, E⟩ c₀ cs (y50 D F l pack r) am.z9g)) (List.range' (0 + 1) rest.length) (a0.put o.dst cv) ({ c₀ with mode := u' } :: cs) W := fun cv u' hv hM' => by
     have hR1 := hR0.put hput hmv
     have hG1 : zzb W (a0.put o.dst cv) g (St.put ⟨vargs ++ List.replicate (fn.ntmps - vargs.length) .any, ⟨lv, L, E⟩, [], E⟩ o.dst am.value) := hG0.next (.refl _ _ _) hG0.good hv o.dst
     have hs := zai (Q := fun e σ' => e = .normal ∧ ∃ ts' ρ', TRr D F ρ' ts' σ' ∧ run P D [] (fun _ _ => none) b ts' (zoe D l pack) = some r) hD (tbl := []) (r := r) (fun e he => by cases he) (fun ts' σ' ρ' hR' hk => ⟨rfl, ts', ρ', hR', hk⟩) (fun z ts' σ' ρ' v _ _ hk => by cases hk) rest 1 (fun j => by
      have := congrArg (fun x => x[1 + j]?) hl
      simpa [Nat.add_comm 1 j] using this.symm) hR1 h1
     have hH : (St.put ⟨vargs ++ List.replicate (fn.ntmps - vargs.length) .any, ⟨lv, L, E⟩, [], E⟩ o.dst am.value).H = ⟨lv, L, E⟩ := by cases o.dst <;> rfl
     have he : (St.put ⟨vargs ++ List.replicate (fn.ntmps - vargs.length) .any, ⟨lv, L, E⟩, [], E⟩ o.dst am.value).e0 = E := by cases o.dst <;> rfl
     have hs2 := hs W g ⟨lv, L, E⟩ W (a0.put o.dst cv) g ⟨hG⟩ ⟨by rw [he], by rw [hH]; exact .refl _ _ _⟩ hG1
     rw [show ops.size - 1 = rest.length by omega] at hs2
     refine zf4 (Q := Exit.thenS (b.erase.wpS P (zfb W g ⟨lv, L, E⟩ c₀ cs (y50 D F l pack r) am.z9g)) (zfb W g ⟨lv, L, E⟩ c₀ cs (y50 D F l pack r) am.z9g)) (fun a w h => zfb.out h) _ _ _ (zdd (fun e a' W' ⟨g', σ', e', q1, q2, q3, q4⟩ => ?_) _ _ _ hs2)
     obtain ⟨rfl, ts', ρ', q5, q6⟩ := q4
     cases q1
     exact behind σ' ts' ρ' q5 q6 W' a' g' u' q2.2 q3 (hM'.mono q2.2)
    cases am with
    | ret =>
      have hmd : c₀.mode = .returning := by rw [hu]; exact hM
      have hrd : recoverD (c₀ :: cs) = none := by simp [recoverD, hmd]
      rw [hrd]
      exact rest' .nilIface c₀.mode .nili hmd
    | pan v rc =>
      have hrc : rc = false := by
        cases m with
        | none => cases (show z0z.pan v rc = .ret from ham)
        | some s => obtain ⟨v', h3, _⟩ := ham; injection h3
      subst hrc
      obtain ⟨cv, h3, h4⟩ := hM
      have h3 : c₀.mode = _ := hu.trans h3
      have hrd : recoverD (c₀ :: cs) = some (cv, { c₀ with mode := .panicking [{ v := cv, recovered := true }] } :: cs) := by simp [recoverD, h3]
      rw [hrd]
      exact rest' cv _ h4 ⟨cv, rfl, h4⟩
   ·cases hrec
  ·cases hrec
 refine zun (fin _ (zax hG hA)) fun ex a' cs' W' ⟨g', σ', e', u', q1, q2, q3, q4, q5, q6⟩ => ?_
 subst q4
 have hmode : am = .ret ∨ ∃ v, am = .pan v false := by
  cases m with
  | none => exact .inl ham
  | some s => obtain ⟨v, h3, _⟩ := ham; exact .inr ⟨v, h3⟩
 have hset := q5.settle
 rw [zxa hmode] at hset
 have key : (∃ x, pack x = r ∧ TR D F (l.bld D x) σ') → a'.defers = [] ∧ ∃ u'', ({ c₀ with mode := u' } :: cs : List Frame) = { c₀ with mode := u'' } :: cs ∧ ∃ v, (results fn a'.tmps).run P W' = .ok v W' ∧ ∃ v' L' g' ρ', Ending.returned v = .returned v' ∧ Step W g ⟨lv, L, E⟩ W' g' ⟨lv, L', E⟩ ∧ Good W' g' ⟨lv, L', E⟩ ∧ settle u'' = .returning ∧ Left D lv L ρ0 aos.length L' ρ' ros y := fun ⟨z, hz, υ, ρ', w1, w2⟩ => by
  subst hz
  obtain ⟨g3, w3, w4⟩ := w1 W g ⟨lv, L, E⟩ W' a' g' ⟨hG⟩ q2 q3
  obtain ⟨c, z1, z2⟩ := z36 (P := P) (fn := fn) (v := z5b []) w4 (by simp only [z26, hres, znx, Option.map_some])
  obtain ⟨l1, l2⟩ := znl w2 (hout z) hlen
  have hd : υ.d = [] := w2.d
  rw [h2] at l2
  have w5 := w3.2
  have w6 := w4.good
  rw [l1] at w5 w6
  exact ⟨List.eq_nil_of_length_eq_zero (by rw [w4.dlen, hd]; rfl), u', rfl, c, z1, c, υ.H.L, g3, ρ', rfl, w5, w6, hset, l2⟩
 cases q1 with
 | normal => exact key q6
 | ret => exact key q6
 | exit id => exact q6.elim
 | panic v c hr => exact q6.elim
def FI.ofP (D : Dat) (f nt p : Nat) (args : List Sh) (aos : List OSh) (outs : List Sh) (ros : List OSh) (pan : Sh) (pos : List OSh) (des : List (zcr D)) (l : LSh) {R : Type} (pack : HL D.T l.tys → R) (un : R → HL D.T (Sh.zzv outs ++ yzi ros))
  (go : Nat → HL D.T (Sh.zzv args ++ yzi aos) → Option (Res (HL D.T (pan.tys ++ yzi pos)) R)) (z3u : Nat → List (Nat × Lb D (Res (HL D.T (pan.tys ++ yzi pos)) R))) (c : AC) : FI D :=
 { R := Res (HL D.T (pan.tys ++ yzi pos)) R, ent := fun n => { f := f, p := p, args := args, aos := aos, outs := outs, ros := ros, pan := pan, pos := pos, pure := false, go := fun x k kp => (go n x).bind fun o => z6s o (fun r => k (un r)) (fun y => kp y) },
   c := c, K := yg2 D des l pack pan pos p (fun y => y), p := p, args := args, aos := aos, nt := nt, z3u := z3u, go := go }
def y22 (P : Program) : List (zcr D) → Prop
 | [] => True
 | d :: l => d.Ok P ∧ y22 P l
theorem y22.get : ∀ {l : List (zcr D)}, y22 P l → ∀ d ∈ l, d.Ok P
 | d :: l, h, e, he => by
   rcases List.mem_cons.1 he with rfl | he
   · exact h.1
   · exact y22.get h.2 e he
def chkP (p nt : Nat) (args : List Sh) (ros pos : List OSh) (l : LSh) : Bool :=
 Nat.ble args.length nt && Nat.ble p l.pin && Nat.ble l.pin l.os.length && Nat.beq l.os.length ros.length && Nat.ble p pos.length
theorem FI.zht {hD : D.Ok P} {f nt p : Nat} {args : List Sh} {aos : List OSh} {outs : List Sh} {ros : List OSh} {pan : Sh} {pos : List OSh} {des : List (zcr D)} {l : LSh} {pack : HL D.T l.tys → R} {un : R → HL D.T (Sh.zzv outs ++ yzi ros)}
  {go : Nat → HL D.T (Sh.zzv args ++ yzi aos) → Option (Res (HL D.T (pan.tys ++ yzi pos)) R)} {z3u : Nat → List (Nat × Lb D (Res (HL D.T (pan.tys ++ yzi pos)) R))} {c : AC} {tbl : Nat → List (Ent D)} {fn : Func}
  (hf : P.funcs[f]? = some fn) (hnt : fn.ntmps = nt) (hent : ∀ args w, (callFunc f args).run P w = .ok (.enter f args) w)
  (hb : fn.body = some c.erase) (hnd : c.labels.Nodup) (hchk : chkP p nt args ros pos l = true) (hp : ∀ n, y1q p (z3u n) = true) (hdes : y22 P des)
  (hout : ∀ x, zp8 P D (l.bld D x) fn.results.toList = some (z0b D (fun k => k) outs (HL.fst _ (un (pack x)))))
  (hz : ∀ x, go 0 x = none) (hlz : zvb (fun _ lb => ∀ x, lb.go x = none) (z3u 0))
  (hs : ∀ n x, go (n + 1) x = run P D (tbl n) (jump D (z3u n)) c (entry D args aos nt x) (yg2 D des l pack pan pos p (fun y => y)))
  (hls : ∀ n, zvb (fun j lb => ∀ x, lb.go x = zt5 P D (tbl n) (jump D (z3u n)) j c (yg2 D des l pack pan pos p (fun y => y)) (lb.sh.bld D x)) (z3u (n + 1)))
  (hros : ∀ x, (l.bld D x).o = z1t D (fun k => k) ros 0 (HL.snd _ (un (pack x)))) :
  (FI.ofP D f nt p args aos outs ros pan pos des l pack un go z3u c).Good P D tbl where
 nodup := hnd
 zero := hz
 lzero := fun j lb x h => hlz.get (z25 h) x
 pins := fun n j lb h => (zj2 (hp n)).get (z25 h)
 step := hs
 lstep := fun n j lb x h => (hls n).get (z25 h) x
 ok := fun n h => by
  simp only [chkP, Bool.and_eq_true, Nat.ble_eq] at hchk
  obtain ⟨⟨⟨⟨h1, h2⟩, h3⟩, h4⟩, h5⟩ := hchk
  exact ylb (l := l) (pack := pack) (un := un) (go := go n) (code := c.erase) (des := des) hD hf hb hnt hent h1 (fun _ _ _ _ => rfl) rfl rfl h2 h3 (Nat.eq_of_beq_eq_true h4) h5 (fun x => ⟨hout x, hros x⟩) hdes.get h
def FI.ofD (D : Dat) (f nt p : Nat) (args : List Sh) (aos : List OSh) (outs : List Sh) (ros : List OSh) (des : List (zcr D)) (l : LSh) {R : Type} (pack : HL D.T l.tys → R) (un : R → HL D.T (Sh.zzv outs ++ yzi ros))
  (go : Nat → HL D.T (Sh.zzv args ++ yzi aos) → Option R) (z3u : Nat → List (Nat × Lb D R)) (c : AC) : FI D :=
 { R := R, ent := fun n => { f := f, p := p, args := args, aos := aos, outs := outs, ros := ros, pan := .nilp, pos := ros, pure := false, go := fun x k _ => (go n x).bind fun r => k (un r) },
   c := c, K := yfo D des l pack, p := p, args := args, aos := aos, nt := nt, z3u := z3u, go := go }
theorem FI.zij {hD : D.Ok P} {f nt p : Nat} {args : List Sh} {aos : List OSh} {outs : List Sh} {ros : List OSh} {des : List (zcr D)} {l : LSh} {pack : HL D.T l.tys → R} {un : R → HL D.T (Sh.zzv outs ++ yzi ros)}
  {go : Nat → HL D.T (Sh.zzv args ++ yzi aos) → Option R} {z3u : Nat → List (Nat × Lb D R)} {c : AC} {tbl : Nat → List (Ent D)} {fn : Func}
  (hf : P.funcs[f]? = some fn) (hnt : fn.ntmps = nt) (hent : ∀ args w, (callFunc f args).run P w = .ok (.enter f args) w)
  (hb : fn.body = some c.erase) (hnd : c.labels.Nodup) (hchk : chkB p nt args outs aos ros false l c = true) (hp : ∀ n, y1q p (z3u n) = true) (hdes : y22 P des)
  (hout : ∀ x, zp8 P D (l.bld D x) fn.results.toList = some (z0b D (fun k => k) outs (HL.fst _ (un (pack x)))))
  (hz : ∀ x, go 0 x = none) (hlz : zvb (fun _ lb => ∀ x, lb.go x = none) (z3u 0))
  (hs : ∀ n x, go (n + 1) x = run P D (tbl n) (jump D (z3u n)) c (entry D args aos nt x) (yfo D des l pack))
  (hls : ∀ n, zvb (fun j lb => ∀ x, lb.go x = zt5 P D (tbl n) (jump D (z3u n)) j c (yfo D des l pack) (lb.sh.bld D x)) (z3u (n + 1)))
  (hros : ∀ x, (l.bld D x).o = z1t D (fun k => k) ros 0 (HL.snd _ (un (pack x)))) :
  (FI.ofD D f nt p args aos outs ros des l pack un go z3u c).Good P D tbl where
 nodup := hnd
 zero := hz
 lzero := fun j lb x h => hlz.get (z25 h) x
 pins := fun n j lb h => (zj2 (hp n)).get (z25 h)
 step := hs
 lstep := fun n j lb x h => (hls n).get (z25 h) x
 ok := fun n h => by
  simp only [chkB, Bool.and_eq_true, Nat.ble_eq] at hchk
  obtain ⟨⟨⟨h1, h2⟩, h3⟩, h4⟩ := hchk
  exact yke (l := l) (pack := pack) (un := un) (go := go n) (code := c.erase) (des := des) hD hf hb hnt hent h1 (fun _ _ _ _ => rfl) rfl rfl h2 h3 (Nat.eq_of_beq_eq_true h4) (fun x => ⟨hout x, hros x⟩) hdes.get h
theorem ylu (hD : D.Ok P) {f : FI D} {t : List (FI D)} (h : f.Good P D (tb t)) (hok : OkL P t) (n : Nat) : y7d P D f.c.erase f.p f.args f.aos f.nt f.K (f.go n) :=
 h.runs hD n fun m _ e he => by
  obtain ⟨b, hm, rfl⟩ := List.mem_map.1 he
  exact hok.get hm m
end
theorem kz7 {P : Program} {D : Dat} (hD : D.Ok P) {f : FI D} {bs : List (FI D)} (hb : OkL P bs) (h : f.Good P D (tb bs)) : OkL P [f] :=
 ⟨fun n => h.ok n (h.runs hD n fun m _ e he => by
  obtain ⟨b, hm, rfl⟩ := List.mem_map.1 he
  exact hb.get hm m), trivial⟩
end Go.Ab


namespace Go.Ab
open Go
set_option linter.unusedVariables false
theorem yms {α : Type} (l : List α) (k : Nat) : ix l (k : Int) = l[k]? := by simp [ix]
theorem wrk {k : Nat} (h : k ≤ 4611686018427387904) : IntKind.i64.wrap ((k : Int) + 1) = ((k + 1 : Nat) : Int) := by rw [wr1 h]; rfl
theorem yzv {α : Type} {l : List α} {k : Nat} (h : k < l.length) : ix l (k : Int) = some l[k] := by rw [yms, List.getElem?_eq_getElem h]
theorem ymv {x y : List UInt8} (h : x.length + y.length ≤ 16777216) : cat x y = some (x ++ y) := by unfold cat; rw [if_pos]; simp [maxLen]; omega
noncomputable def eqB {α : Type} (a b : α) : Bool := @decide (a = b) (Classical.propDecidable _)
theorem z98 {α : Type} {a b : α} : eqB a b = true ↔ a = b := @decide_eq_true_iff _ (Classical.propDecidable _)
theorem z7t {α : Type} {a b : α} : eqB a b = false ↔ a ≠ b := @decide_eq_false_iff_not _ (Classical.propDecidable _)
@[simp] theorem yfy {α : Type} (a : α) : eqB a a = true := z98.2 rfl
theorem down {len : Nat} {Q : Nat → Prop} (h0 : Q len) (hs : ∀ k, k < len → Q (k + 1) → Q k) : ∀ k, k ≤ len → Q k := by
 intro k hk
 obtain ⟨m, rfl⟩ : ∃ m, k = len - m := ⟨len - k, by omega⟩
 induction m with
 | zero => exact h0
 | succ m ih =>
   by_cases h : m < len
   · refine hs _ (by omega) ?_
     rw [show len - (m + 1) + 1 = len - m by omega]
     exact ih (by omega)
   · rw [show len - (m + 1) = len - m by omega]; exact ih (by omega)
end Go.Ab


namespace Go.Ab
open Go
set_option linter.unusedVariables false
set_option linter.unusedSimpArgs false
def Ev {α : Type} (f : Nat → Option α) (r : α) : Prop := ∃ n, ∀ m, n ≤ m → f m = some r
section
variable {α β : Type} {r : α}
theorem Ev.get {f : Nat → Option α} (h : Ev f r) : ∃ n, f n = some r := by obtain ⟨n, hn⟩ := h; exact ⟨n, hn n (Nat.le_refl _)⟩
theorem Ev.succ {f g : Nat → Option α} (h : ∀ n, f (n + 1) = g n) (hg : Ev g r) : Ev f r := by
 obtain ⟨n, hn⟩ := hg
 refine ⟨n + 1, fun m hm => ?_⟩
 obtain ⟨q, rfl⟩ : ∃ q, m = q + 1 := ⟨m - 1, by omega⟩
 rw [h]; exact hn q (by omega)
theorem Ev.same {f g : Nat → Option α} (h : ∀ n, f n = g n) (hg : Ev g r) : Ev f r := by
 obtain ⟨n, hn⟩ := hg
 exact ⟨n, fun m hm => by rw [h]; exact hn m hm⟩
theorem Ev.pure {o : Option α} (h : o = some r) : Ev (fun _ => o) r := ⟨0, fun _ _ => h⟩
theorem Ev.bind {a : Nat → Option β} {k : Nat → β → Option α} {y : β} (ha : Ev a y) (hk : Ev (fun n => k n y) r) : Ev (fun n => (a n).bind (k n)) r := by
 obtain ⟨n, hn⟩ := ha
 obtain ⟨q, hq⟩ := hk
 exact ⟨max n q, fun m hm => by show (a m).bind (k m) = _; rw [hn m (by omega)]; exact hq m (by omega)⟩
theorem Ev.t {c : Bool} {a b : Nat → Option α} (hc : c = true) (ha : Ev a r) : Ev (fun n => if c = true then a n else b n) r := by subst hc; exact ha
theorem Ev.f {c : Bool} {a b : Nat → Option α} (hc : c = false) (ha : Ev b r) : Ev (fun n => if c = true then a n else b n) r := by subst hc; exact ha
theorem Ev.cond {c : Bool} {a b : Nat → Option α} (ht : c = true → Ev a r) (hf : c = false → Ev b r) : Ev (fun n => if c = true then a n else b n) r := by
 cases c
 ·exact hf rfl
 ·exact ht rfl
theorem Ev.to {f : Nat → Option α} {r' : α} (h : Ev f r') (e : r' = r) : Ev f r := e ▸ h
end
section
variable {α β γ : Type} {xs : List α}
end
end Go.Ab


namespace Go.Ab
open Go
set_option linter.unusedVariables false
set_option linter.unusedSimpArgs false
section
variable {α β : Type} {r : α}
theorem Ev.yit {f g : Nat → Option α} (h : ∀ n, f (n + 1) = g n) : Ev f r ↔ Ev g r :=
 ⟨fun ⟨n, hn⟩ => ⟨n, fun m hm => by rw [← h]; exact hn _ (by omega)⟩, Ev.succ h⟩
theorem evS (f : Nat → Option α) (r : α) {g : Nat → Option α} (h : ∀ n, f (n + 1) = g n) : Ev f r ↔ Ev g r := Ev.yit h
theorem Ev.kz0 {a : Nat → Option β} {k : Nat → β → Option α} {y : β} (ha : Ev a y) : Ev (fun n => (a n).bind (k n)) r ↔ Ev (fun n => k n y) r :=
 ⟨fun h => by
  obtain ⟨n, hn⟩ := h; obtain ⟨q, hq⟩ := ha
  refine ⟨max n q, fun m hm => ?_⟩
  have := hn m (by omega)
  simp only [hq m (by omega)] at this
  exact this, Ev.bind ha⟩
theorem Ev.zz4 {o : Option β} {k : Nat → β → Option α} {y : β} (ho : o = some y) : Ev (fun n => o.bind (k n)) r ↔ Ev (fun n => k n y) r := by subst ho; exact Iff.rfl
theorem Ev.kz2 {a b : Nat → Option α} {c : Bool} (hc : c = true) : Ev (fun n => pIf c (a n) (b n)) r ↔ Ev a r := by subst hc; exact Iff.rfl
theorem Ev.yz2 {a b : Nat → Option α} {c : Bool} (hc : c = false) : Ev (fun n => pIf c (a n) (b n)) r ↔ Ev b r := by subst hc; exact Iff.rfl
theorem Ev.pif {a b : Nat → Option α} {c : Bool} : Ev (fun n => pIf c (a n) (b n)) r ↔ if c = true then Ev a r else Ev b r := by cases c <;> exact Iff.rfl
theorem Ev.yz0 {x : α} : Ev (fun _ => some x) r ↔ x = r := ⟨fun ⟨n, h⟩ => by have := h n (Nat.le_refl _); injection this, fun h => ⟨0, fun _ _ => by rw [h]⟩⟩
theorem Ev.z30 {X R : Type} {y : R} {f : Nat → R → Option α} {g : Nat → X → Option α} : Ev (fun n => z6s (.ok y) (f n) (g n)) r ↔ Ev (fun n => f n y) r := Iff.rfl
theorem Ev.kzy {X R : Type} {y : X} {f : Nat → R → Option α} {g : Nat → X → Option α} : Ev (fun n => z6s (.pan y) (f n) (g n)) r ↔ Ev (fun n => g n y) r := Iff.rfl
end
theorem wI {x : Int} (h : -9223372036854775808 ≤ x ∧ x ≤ 9223372036854775807) : IntKind.i64.wrap x = x := IntWalk.i64_in _ h
theorem wU {x : Int} (h : 0 ≤ x ∧ x ≤ 18446744073709551615) : IntKind.u64.wrap x = x := IntWalk.u64_in _ h
theorem wUn {x : Int} (h : -18446744073709551616 ≤ x ∧ x < 0) : IntKind.u64.wrap x = x + 18446744073709551616 := by
 unfold IntKind.wrap
 simp only [IntKind.bits, IntKind.signed, Bool.false_and, Bool.false_eq_true, if_false]
 omega
theorem zrn {a b : Nat} : mxI (a : Int) (b : Int) = ((max a b : Nat) : Int) := by unfold mxI; split <;> omega
end Go.Ab


namespace Go.Ab
open Go
set_option linter.unusedVariables false
set_option linter.unusedSimpArgs false
def isLet (c : UInt8) : Bool := decide (97 ≤ c.toNat) && decide (c.toNat ≤ 122)
def y1g (c : UInt8) : Bool := decide (48 ≤ c.toNat) && decide (c.toNat ≤ 57)
def z8w (c : UInt8) : Bool := isLet c || c == 45 || y1g c
def zb0 (s : List UInt8) : Bool := match s with
 | [] => false
 | c :: t => isLet c && t.all z8w && decide (s.length ≤ 40)
def parts (b : UInt8) : List UInt8 → List (List UInt8)
 | [] => [[]]
 | c :: t => if c == b then [] :: parts b t else match parts b t with
   | h :: r => (c :: h) :: r
   | [] => [[c]]
def steps (s : List UInt8) : List (List UInt8) := if s == [] then [] else parts 47 s
end Go.Ab


namespace Go.Ab
open Go
set_option linter.unusedVariables false
set_option linter.unusedSimpArgs false
theorem yky {s : List UInt8} {k : Nat} (h : k < s.length) (ha : s[k].toNat < 128) : zbi s k = (s[k].toNat, 1) := by
 have h' : k < (ByteArray.mk s.toArray).size := by simpa [ByteArray.size] using h
 have e : (ByteArray.mk s.toArray)[k] = s[k] := rfl
 have := decode_ascii ⟨s.toArray⟩ k h' (by rw [e]; exact ha)
 rw [e] at this
 exact this
theorem yht {s : List UInt8} {k : Nat} (h : k < s.length) (ha : 128 ≤ s[k].toNat) : 128 ≤ (zbi s k).1 ∧ 1 ≤ (zbi s k).2 := by
 have h' : k < (ByteArray.mk s.toArray).size := by simpa [ByteArray.size] using h
 have e : (ByteArray.mk s.toArray)[k] = s[k] := rfl
 exact decode_high ⟨s.toArray⟩ k h' (by rw [e]; exact ha)
end Go.Ab


namespace Go.Ab
open Go
set_option linter.unusedVariables false
set_option linter.unusedSimpArgs false
inductive BT (α : Type) where
 | leaf
 | node (v : α) (l r : BT α)
section
variable {α : Type} (d : α)
def BT.val : BT α → α
 | .leaf => d
 | .node v _ _ => v
def BT.lt : BT α → BT α
 | .leaf => .leaf
 | .node _ l _ => l
def BT.rt : BT α → BT α
 | .leaf => .leaf
 | .node _ _ r => r
noncomputable def BT.get (p : List Bool) : BT α → α := @List.rec Bool (fun _ => BT α → α) (fun t => t.val d) (fun b _ ih t => @Bool.rec (fun _ => α) (ih t.lt) (ih t.rt) b) p
noncomputable def BT.put (x : α) (p : List Bool) : BT α → BT α := @List.rec Bool (fun _ => BT α → BT α) (fun t => .node x t.lt t.rt) (fun b _ ih t => @Bool.rec (fun _ => BT α) (.node (t.val d) (ih t.lt) t.rt) (.node (t.val d) t.lt (ih t.rt)) b) p
@[simp] theorem BT.get_nil (t : BT α) : BT.get d [] t = t.val d := rfl
@[simp] theorem BT.get_t (p : List Bool) (t : BT α) : BT.get d (true :: p) t = BT.get d p t.rt := rfl
@[simp] theorem BT.get_f (p : List Bool) (t : BT α) : BT.get d (false :: p) t = BT.get d p t.lt := rfl
@[simp] theorem BT.put_nil (x : α) (t : BT α) : BT.put d x [] t = .node x t.lt t.rt := rfl
@[simp] theorem BT.put_t (x : α) (p : List Bool) (t : BT α) : BT.put d x (true :: p) t = .node (t.val d) t.lt (BT.put d x p t.rt) := rfl
@[simp] theorem BT.put_f (x : α) (p : List Bool) (t : BT α) : BT.put d x (false :: p) t = .node (t.val d) (BT.put d x p t.lt) t.rt := rfl
theorem BT.zir : ∀ p : List Bool, BT.get d p .leaf = d
 | [] => rfl
 | true :: p => BT.zir p
 | false :: p => BT.zir p
theorem BT.zgk (x : α) : ∀ (q p : List Bool) (t : BT α), BT.get d p (BT.put d x q t) = if p = q then x else BT.get d p t
 | [], [], t => by simp [BT.val]
 | [], true :: p, t => by simp [BT.rt]
 | [], false :: p, t => by simp [BT.lt]
 | true :: q, [], t => by simp [BT.val]
 | false :: q, [], t => by simp [BT.val]
 | true :: q, true :: p, t => by simp [BT.rt, BT.zgk x q p]
 | false :: q, false :: p, t => by simp [BT.lt, BT.zgk x q p]
 | true :: q, false :: p, t => by simp [BT.lt]
 | false :: q, true :: p, t => by simp [BT.rt]
end
def yau : Nat → Nat → List Bool
 | 0, _ => []
 | f + 1, n => match Nat.beq n 0 with
   | true => []
   | false => Nat.beq (Nat.mod n 2) 1 :: yau f (Nat.div n 2)
def path (n : Nat) : List Bool := yau n n
def ydl : List Bool → Nat
 | [] => 0
 | b :: p => (match b with | true => 1 | false => 0) + 2 * ydl p
theorem y6o : ∀ (f n : Nat), n ≤ f → ydl (yau f n) = n
 | 0, n, h => by
   have : n = 0 := by omega
   subst this; rfl
 | f + 1, n, h => by
   unfold yau
   cases e : Nat.beq n 0
   · have hn : n ≠ 0 := fun hh => by subst hh; cases e
     simp only [ydl]
     have hd : Nat.div n 2 = n / 2 := rfl
     have hm : Nat.mod n 2 = n % 2 := rfl
     rw [y6o f (Nat.div n 2) (by rw [hd]; omega), hd, hm]
     cases e2 : Nat.beq (n % 2) 1
     · have : n % 2 ≠ 1 := fun hh => by rw [hh] at e2; cases e2
       show 0 + 2 * (n / 2) = n
       omega
     · have : n % 2 = 1 := Nat.eq_of_beq_eq_true e2
       show 1 + 2 * (n / 2) = n
       omega
   · have : n = 0 := Nat.eq_of_beq_eq_true e
     subst this; rfl
theorem zib {m n : Nat} (h : path m = path n) : m = n := by
 have h1 := y6o m m (Nat.le_refl _)
 have h2 := y6o n n (Nat.le_refl _)
 rw [show yau m m = path m from rfl, h] at h1
 rw [← h1]; exact h2
structure XH where
 n : Nat
 t : BT (Option kz3)
noncomputable def xg (lv : Nat) (h : XH) (l i : Nat) : Option kz3 := match Nat.beq l lv with
 | true => BT.get none (path i) h.t
 | false => none
structure XHR (lv : Nat) (E : Nat → Nat → Option kz3) (h : XH) (H : kz1) : Prop where
 lv : H.lv = lv
 out : H.E = E
 len : H.L.length = h.n
 get : ∀ i, (H.L[i]?).join = BT.get none (path i) h.t
theorem XHR.xg {lv : Nat} {E : Nat → Nat → Option kz3} {h : XH} {H : kz1} (k : XHR lv E h H) {l i : Nat} {o : kz3} (hg : xg lv h l i = some o) : H.get l i = some o := by
 unfold Go.Ab.xg at hg
 split at hg
 ·rename_i hl
  have : l = lv := Nat.eq_of_beq_eq_true hl
  unfold kz1.get
  rw [if_pos (by rw [this, k.lv]), k.get, hg]
 ·cases hg
inductive Eff where
 | keep (v : V)
 | push (mk : Nat → Nat → V) (o : kz3)
 | set (l i : Nat) (o : kz3) (v : V)
 | zcl (i : Nat) (v : V)
def Eff.on (H : kz1) : Eff → V × kz1
 | .keep v => (v, H)
 | .push mk o => (mk H.lv H.L.length, H.push o)
 | .set l i o v => (v, H.set l i o)
 | .zcl i v => (v, H.zcl i)
noncomputable def Eff.onX (lv : Nat) (h : XH) : Eff → Option (V × XH)
 | .keep v => some (v, h)
 | .push mk o => some (mk lv h.n, ⟨Nat.succ h.n, BT.put none (some o) (path h.n) h.t⟩)
 | .set l i o v => match Nat.beq l lv with
   | true => match Nat.blt i h.n with
     | true => some (v, ⟨h.n, BT.put none (some o) (path i) h.t⟩)
     | false => none
   | false => none
 | .zcl i v => match Nat.blt i h.n with
   | true => some (v, ⟨h.n, BT.put none none (path i) h.t⟩)
   | false => none
theorem zv1 {a b : Nat} (h : Nat.blt a b = true) : a < b := by
 unfold Nat.blt at h
 exact Nat.le_of_ble_eq_true h
theorem Eff.ycu {lv : Nat} {E : Nat → Nat → Option kz3} {h h' : XH} {H : kz1} {v : V} (k : XHR lv E h H) {e : Eff} (he : e.onX lv h = some (v, h')) : (e.on H).1 = v ∧ XHR lv E h' (e.on H).2 := by
 cases e with
 | keep u =>
   simp only [Eff.onX, Option.some.injEq, Prod.mk.injEq] at he
   obtain ⟨rfl, rfl⟩ := he
   exact ⟨rfl, k⟩
 | push mk o =>
   simp only [Eff.onX, Option.some.injEq, Prod.mk.injEq] at he
   obtain ⟨rfl, rfl⟩ := he
   refine ⟨by simp only [Eff.on, k.lv, k.len], k.lv, k.out, by simp [Eff.on, kz1.push, k.len], fun i => ?_⟩
   simp only [Eff.on, kz1.push]
   rw [BT.zgk]
   by_cases hi : i = h.n
   · subst hi
     rw [if_pos rfl, ← k.len]; simp
   · rw [if_neg (fun hh => hi (zib hh)), ← k.get]
     by_cases h2 : i < H.L.length
     · rw [List.getElem?_append_left h2]
     · rw [List.getElem?_eq_none (show (H.L ++ [some o]).length ≤ i by have := k.len; simp; omega), List.getElem?_eq_none (show H.L.length ≤ i by omega)]
 | set l i o u =>
   simp only [Eff.onX] at he
   split at he
   · rename_i hl
     split at he
     · rename_i hi
       simp only [Option.some.injEq, Prod.mk.injEq] at he
       obtain ⟨rfl, rfl⟩ := he
       have hl' : l = lv := Nat.eq_of_beq_eq_true hl
       have hi' : i < H.L.length := by rw [k.len]; exact zv1 hi
       have hs : H.set l i o = { H with L := H.L.set i (some o) } := by unfold kz1.set; rw [if_pos (by rw [hl', k.lv])]
       refine ⟨rfl, ?_, ?_, ?_, fun j => ?_⟩
       · simp only [Eff.on, hs]; exact k.lv
       · simp only [Eff.on, hs]; exact k.out
       · simp only [Eff.on, hs, List.length_set]; exact k.len
       · simp only [Eff.on, hs]
         rw [BT.zgk, List.getElem?_set]
         by_cases hj : i = j
         · subst hj; rw [if_pos rfl, if_pos rfl, if_pos hi']; rfl
         · rw [if_neg hj, if_neg (fun hh => hj (zib hh).symm)]; exact k.get j
     · cases he
   · cases he
 | zcl i u =>
   simp only [Eff.onX] at he
   split at he
   · rename_i hi
     simp only [Option.some.injEq, Prod.mk.injEq] at he
     obtain ⟨rfl, rfl⟩ := he
     have hi' : i < H.L.length := by rw [k.len]; exact zv1 hi
     refine ⟨rfl, k.lv, k.out, by simp only [Eff.on, kz1.zcl, List.length_set]; exact k.len, fun j => ?_⟩
     simp only [Eff.on, kz1.zcl]
     rw [BT.zgk, List.getElem?_set]
     by_cases hj : i = j
     · subst hj; rw [if_pos rfl, if_pos rfl, if_pos hi']; rfl
     · rw [if_neg hj, if_neg (fun hh => hj (zib hh).symm)]; exact k.get j
   · cases he
noncomputable def evT (T : BT V) : Operand → V
 | .tmp j => BT.get .any (path j) T
 | .const v => ofConst v
 | .global k => gv k
 | .func f => .fn f [] []
noncomputable def zma (n : Nat) (T : BT V) (dst : Option Nat) (v : V) : Option (BT V) :=
 match dst with
 | none => some T
 | some d => match Nat.blt d n with
   | true => some (BT.put .any v (path d) T)
   | false => none
noncomputable def zmr (ops : Array Oper) (T : BT V) (o : Oper) : Option Bool :=
 match o.guard with
 | none => some true
 | some (j, want) => match (ops[j]?).bind (·.dst) with
   | some d => match BT.get .any (path d) T with
     | .bool b => some (b == want)
     | .tup _ => some false
     | _ => none
   | none => none
abbrev DL := List (Nat × List V)
structure XR (n lv : Nat) (E : Nat → Nat → Option kz3) (T : BT V) (h : XH) (D : DL) (σ : St) : Prop where
 heap : XHR lv E h σ.H
 defers : σ.d = D
 e0 : σ.e0 = E
 len : σ.t.length = n
 get : ∀ j, σ.t.getD j .any = BT.get .any (path j) T
section
variable {n lv : Nat} {E : Nat → Nat → Option kz3} {T T' : BT V} {h h' : XH} {σ : St} {D : DL}
theorem XR.ev (k : XR n lv E T h D σ) : σ.ev = evT T := by
 funext o
 cases o with
 | tmp j => exact k.get j
 | const v => rfl
 | global g => rfl
 | func f => rfl
theorem XR.wanted (k : XR n lv E T h D σ) (ops : Array Oper) (o : Oper) : yzd ops σ o = zmr ops T o := by
 unfold yzd zmr
 simp only [k.get]
 cases o.guard with
 | none => rfl
 | some p =>
   obtain ⟨j, w⟩ := p
   simp only
   cases (ops[j]?).bind (fun x => x.dst) with
   | none => rfl
   | some d =>
     simp only
     cases BT.get V.any (path d) T <;> rfl
theorem XR.put (k : XR n lv E T h D σ) {H' : kz1} (hh : XHR lv E h' H') {dst : Option Nat} {v : V} (hp : zma n T dst v = some T') : XR n lv E T' h' D ({ σ with H := H' }.put dst v) := by
 unfold zma at hp
 split at hp
 ·injection hp with hp; subst hp
  exact ⟨hh, k.defers, k.e0, k.len, k.get⟩
 ·rename_i d
  split at hp
  ·rename_i hd
   injection hp with hp; subst hp
   have hd' : d < n := zv1 hd
   refine ⟨hh, k.defers, k.e0, by simp [St.put, k.len], fun j => ?_⟩
   rw [BT.zgk]
   simp only [St.put]
   rw [List.getD_eq_getElem?_getD, List.getElem?_set]
   by_cases e : d = j
   ·subst e
    rw [if_pos rfl, if_pos rfl, if_pos (by rw [k.len]; exact hd')]
    rfl
   ·rw [if_neg e, if_neg (fun hh => e (zib hh).symm), ← List.getD_eq_getElem?_getD]
    exact k.get j
  ·cases hp
theorem XR.yip (k : XR n lv E T h D σ) {dst : Option Nat} {v : V} (hp : zma n T dst v = some T') : XR n lv E T' h D (σ.put dst v) := by
 have := k.put (H' := σ.H) k.heap hp
 exact this
end
noncomputable def z9z (j : Nat) (vs : List V) : BT V → BT V := @List.rec V (fun _ => Nat → BT V → BT V) (fun _ T => T) (fun v _ ih j T => ih (Nat.succ j) (BT.put .any v (path j) T)) vs j
theorem ycy (j : Nat) (T : BT V) : z9z j [] T = T := rfl
theorem ycn (j : Nat) (v : V) (vs : List V) (T : BT V) : z9z j (v :: vs) T = z9z (Nat.succ j) vs (BT.put .any v (path j) T) := rfl
theorem zlu : ∀ (vs : List V) (j k : Nat) (T : BT V), BT.get .any (path k) (z9z j vs T) = if j ≤ k ∧ k < j + vs.length then vs.getD (k - j) .any else BT.get .any (path k) T
 | [], j, k, T => by
   rw [ycy, if_neg (by simp only [List.length_nil]; omega)]
 | v :: vs, j, k, T => by
   rw [ycn, zlu vs, BT.zgk]
   simp only [Nat.succ_eq_add_one, List.length_cons]
   by_cases h1 : j = k
   · subst h1
     rw [if_neg (by omega), if_pos rfl, if_pos (by omega)]; simp
   · rw [if_neg (fun hh => h1 (zib hh).symm)]
     by_cases h2 : j + 1 ≤ k ∧ k < j + 1 + vs.length
     · rw [if_pos h2, if_pos (by omega), show k - j = (k - (j + 1)) + 1 by omega]; rfl
     · rw [if_neg h2, if_neg (by omega)]
theorem ycc {n lv : Nat} {E : Nat → Nat → Option kz3} {args : List V} {h : XH} {H : kz1} (hl : Nat.ble args.length n = true) (hh : XHR lv E h H) : XR n lv E (z9z 0 args .leaf) h [] ⟨args ++ List.replicate (n - args.length) .any, H, [], E⟩ := by
 have hl' := Nat.le_of_ble_eq_true hl
 refine ⟨hh, rfl, rfl, by simp; omega, fun j => ?_⟩
 rw [zlu, BT.zir]
 simp only [Nat.zero_le, true_and, Nat.zero_add, Nat.sub_zero]
 rw [List.getD_eq_getElem?_getD, List.getElem?_append]
 split
 ·rw [List.getD_eq_getElem?_getD]
 ·rw [List.getElem?_replicate]
  split <;> simp
end Go.Ab


namespace Go.Ab
open Go
set_option linter.unusedVariables false
set_option linter.unusedSimpArgs false
def keyOf : V → Option (Nat × Nat)
 | .ptr l i _ => some (l, i)
 | .ap l i _ _ _ => some (l, i)
 | .hs l i _ _ _ _ => some (l, i)
 | .map l i => some (l, i)
 | _ => none
def z0a (g : Nat → Nat → Option kz3) (v : V) : kz1 := match keyOf v with
 | some (l, i) => ⟨Nat.succ l, [], fun _ _ => g l i⟩
 | none => ⟨0, [], fun _ _ => none⟩
theorem z66 {g : Nat → Nat → Option kz3} {v : V} {l i : Nat} (h : keyOf v = some (l, i)) : (z0a g v).get l i = g l i := by
 unfold z0a
 rw [h]
 unfold kz1.get
 simp
section
variable {P : Program} {g : Nat → Nat → Option kz3} {H : kz1} (hg : ∀ l i o, g l i = some o → H.get l i = some o)
include hg
theorem y1y {v : V} {l i : Nat} {o : kz3} (h : keyOf v = some (l, i)) (ho : g l i = some o) : (z0a g v).get l i = some o ∧ H.get l i = some o := ⟨by rw [z66 h, ho], hg _ _ _ ho⟩
theorem y2j {t : Nat} {x v : V} (h : z3l P (z0a g x) t x = some v) : z3l P H t x = some v := by
 cases x with
 | ptr l i off =>
   simp only [z3l, z66 (g := g) (v := .ptr l i off) rfl] at h
   cases ho : g l i with
   | none => rw [ho] at h; cases h
   | some o => rw [ho] at h; simp only [z3l, hg _ _ _ ho]; exact h
 | ap l i ver idx off =>
   simp only [z3l, zke, z66 (g := g) (v := .ap l i ver idx off) rfl] at h
   cases ho : g l i with
   | none => rw [ho] at h; cases h
   | some o => rw [ho] at h; simp only [z3l, zke, hg _ _ _ ho]; exact h
 | ref cs off => exact h
 | _ => cases h
theorem yku {t : Nat} {x v : V} (h : zb4 P (z0a g x) t x = some v) : zb4 P H t x = some v := by
 cases x with
 | hs l i ver off n full =>
   simp only [zb4, z66 (g := g) (v := .hs l i ver off n full) rfl] at h
   cases ho : g l i with
   | none => rw [ho] at h; simp only at h; split at h <;> cases h
   | some o => rw [ho] at h; simp only [zb4, hg _ _ _ ho]; exact h
 | map l i =>
   simp only [zb4, z66 (g := g) (v := .map l i) rfl] at h
   cases ho : g l i with
   | none => rw [ho] at h; simp only at h; split at h <;> cases h
   | some o => rw [ho] at h; simp only [zb4, hg _ _ _ ho]; exact h
 | _ => exact h
theorem zuy {t : Nat} {x y v : V} (h : yzb P (z0a g x) t x y = some v) : yzb P H t x y = some v := by
 cases x with
 | hs l i ver off n full =>
   cases ho : g l i with
   | none =>
     unfold yzb at h
     simp only [z66 (g := g) (v := .hs l i ver off n full) rfl, ho] at h
     split at h
     · split at h
       · split at h
         · cases h
         · split at h <;> cases h
         · cases h
       · cases h
     · cases h
   | some o =>
     obtain ⟨h1, h2⟩ := y1y hg (v := .hs l i ver off n full) rfl ho
     unfold yzb at h ⊢
     simp only [h1] at h
     simp only [h2]
     exact h
 | _ => exact h
theorem ydf {t : Nat} {x v : V} {lo hi mx : Option V} (h : z5z P (z0a g x) t x lo hi mx = some v) : z5z P H t x lo hi mx = some v := by
 cases x with
 | hs l i ver off n full =>
   cases ho : g l i with
   | none =>
     unfold z5z at h
     simp only [z66 (g := g) (v := .hs l i ver off n full) rfl, ho] at h
     split at h <;> cases h
   | some o =>
     obtain ⟨h1, h2⟩ := y1y hg (v := .hs l i ver off n full) rfl ho
     unfold z5z at h ⊢
     simp only [h1] at h
     simp only [h2]
     exact h
 | _ => exact h
theorem yet {x : V} {es : List (V × V)} (h : zsf (z0a g x) x = some es) : zsf H x = some es := by
 cases x with
 | map l i =>
   simp only [zsf, z66 (g := g) (v := .map l i) rfl] at h
   cases ho : g l i with
   | none => rw [ho] at h; cases h
   | some o => rw [ho] at h; simp only [zsf, hg _ _ _ ho]; exact h
 | mapn => exact h
 | _ => cases h
theorem yc8 {t : Nat} {x k v : V} {ok : Bool} (h : zgf P (z0a g x) t x k ok = some v) : zgf P H t x k ok = some v := by
 unfold zgf at h ⊢
 split at h
 ·cases he : zsf (z0a g x) x with
  | none => rw [he] at h; simp at h
  | some es => rw [he] at h; rw [yet hg he]; exact h
 ·cases h
theorem ydb {sz : Nat} {x : V} {ys : List V} (h : z3t (z0a g x) sz x = some ys) : z3t H sz x = some ys := by
 cases x with
 | hs l i ver off n full =>
   simp only [z3t, z66 (g := g) (v := .hs l i ver off n full) rfl] at h
   cases ho : g l i with
   | none => rw [ho] at h; cases h
   | some o => rw [ho] at h; simp only [z3t, hg _ _ _ ho]; exact h
 | nils => exact h
 | sl s xs f => exact h
 | _ => cases h
theorem yja {sz : Nat} {x : V} {ys : List V} (h : zbl (z0a g x) sz x = some ys) : zbl H sz x = some ys := by
 cases x with
 | str s => exact h
 | _ =>
   simp only [zbl] at h ⊢
   exact ydb hg h
end
def xpv (P : Program) (g : Nat → Nat → Option kz3) (ρ : Operand → V) (op : Op) : Option V :=
 match op with
 | .load t a => z3l P (z0a g (ρ a)) t (ρ a)
 | .indexAddr t x i => yzb P (z0a g (ρ x)) t (ρ x) (ρ i)
 | .slice t x lo hi mx => z5z P (z0a g (ρ x)) t (ρ x) (lo.map ρ) (hi.map ρ) (mx.map ρ)
 | .lookup t x k ok => zgf P (z0a g (ρ x)) t (ρ x) (ρ k) ok
 | .call c => match c.callee with
   | .builtin .len => match c.args.toList, c.argTypes.toList with
     | [x], [t] => zb4 P (z0a g (ρ x)) t (ρ x)
     | _, _ => none
   | .builtin .min => zcm false (c.args.toList.map ρ)
   | .builtin .max => zcm true (c.args.toList.map ρ)
   | _ => none
 | op => pv P ⟨0, [], fun _ _ => none⟩ ρ op
theorem ydt {P : Program} {g : Nat → Nat → Option kz3} {H : kz1} (hg : ∀ l i o, g l i = some o → H.get l i = some o) {ρ : Operand → V} {op : Op} {v : V} (h : xpv P g ρ op = some v) : pv P H ρ op = some v := by
 cases op with
 | load t a => exact y2j hg h
 | indexAddr t x i => exact zuy hg h
 | slice t x lo hi mx => exact ydf hg h
 | lookup t x k ok => exact yc8 hg h
 | call c =>
   simp only [xpv] at h
   simp only [pv, z4d]
   split at h
   · rename_i hc
     rw [hc]
     simp only
     split at h
     · rename_i x t e1 e2
       rw [e1, e2]
       exact yku hg h
     · cases h
   · rename_i hc; rw [hc]; exact h
   · rename_i hc; rw [hc]; exact h
   · cases h
 | makeFunc f a b =>
   cases f with
   | func k => exact h
   | _ => cases h
 | _ => exact h
def yeo (P : Program) (g : Nat → Nat → Option kz3) (t : Nat) (a x : V) : Option Eff :=
 if x.yzc && (P.info? t).isSome && x.cells.length == P.cellsOf t then
  match a with
  | .ptr l i off => match g l i with
    | some (.cells cs) => if off + x.cells.length ≤ cs.length then some (.set l i (.cells (yzu cs off x.cells)) .any) else none
    | _ => none
  | .ap l i ver idx off => match g l i with
    | some (.arr ver' ty sz xs cp) => if ver' = ver then match xs[idx]? with
      | some y => if off + x.cells.length ≤ y.cells.length ∧ fits y (yzu y.cells off x.cells) = true then
          some (.set l i (.arr ver ty sz (xs.set idx (z3a y (yzu y.cells off x.cells))) cp) .any) else none
      | none => none else none
    | _ => none
  | _ => none
 else none
def zgi (P : Program) (g : Nat → Nat → Option kz3) (t : Nat) (m k x : V) : Option Eff :=
 match P.underlying t with
 | some (.map kt _) => match m with
   | .map l i => match g l i with
     | some (.map es) => match zmo P kt k with
       | some d => match zru d k es 0 with
         | some r => some (.set l i (.map (zkm es k x r)) .any)
         | none => none
       | none => none
     | _ => none
   | _ => none
 | _ => none
def zof (g : Nat → Nat → Option kz3) (e size : Nat) (s : V) (ys : List V) : Option Eff :=
 match s with
 | .nils => match ys with
   | [] => some (.keep .nils)
   | y :: r => if (y :: r).length ≤ z78 then some (.push (fun lv n => .hs lv n 0 0 (y :: r).length false) (.arr 0 e size (y :: r) none)) else none
 | .sl sz xs true => if sz = size then match ys with
   | [] => some (.keep (.sl sz xs true))
   | y :: r => if xs.length + (y :: r).length ≤ z78 then some (.push (fun lv n => .hs lv n 0 0 (xs.length + (y :: r).length) false) (.arr 0 e size (xs ++ y :: r) none)) else none else none
 | .hs l i' ver 0 n false => match g l i' with
   | some (.arr ver' e' sz xs _) => if ver' = ver ∧ e' = e ∧ sz = size ∧ n = xs.length ∧ xs.length + ys.length ≤ z78 then
       some (.set l i' (.arr (ver + 1) e sz (xs ++ ys) none) (.hs l i' (ver + 1) 0 (xs.length + ys.length) false)) else none
   | _ => none
 | _ => none
def ygg (P : Program) (g : Nat → Nat → Option kz3) (t u : Nat) (s x : V) : Option Eff :=
 match P.underlying t, P.underlying u with
 | some (.slice e), some du =>
   match P.info? e with
   | some i =>
     match zbl (z0a g x) i.size x, i.zero with
     | some ys, some z =>
       if ziz du && decide (0 < i.size) && decide (i.bytes ≤ 524288) && z.cells.size == i.size then zof g e i.size s ys else none
     | _, _ => none
   | none => none
 | _, _ => none
def yma (g : Nat → Nat → Option kz3) (x : V) (str : Bool) : Option Eff :=
 match x, str with
 | .ptr l i 0, true => match g l i with
   | some (.siter s pos) => if pos < s.length then some (.set l i (.siter s (pos + (zbi s pos).2)) (.tup [.bool true, .int .i64 pos, .int .i32 (zbi s pos).1])) else some (.keep (.tup [.bool false]))
   | _ => none
 | _, _ => none
def yaq (P : Program) (t : Nat) (r : Option V) : Option Eff :=
 match r with
 | none => some (.push (fun lv n => .map lv n) (.map []))
 | some (.int _ _) => match P.underlying t with
   | some (.map _ _) => some (.push (fun lv n => .map lv n) (.map []))
   | _ => none
 | _ => none
def yj3 (P : Program) (t : Nat) (x : V) : Option Eff :=
 match x with
 | .str s => match P.underlying t with
   | some .string => some (.push (fun lv n => .ptr lv n 0) (.siter s 0))
   | _ => none
 | _ => none
def eox (P : Program) (g : Nat → Nat → Option kz3) (ρ : Operand → V) (op : Op) : Option Eff :=
 match op with
 | .alloc t => match zeroV P t with
   | some z => if z.yzc then some (.push (fun lv n => .ptr lv n 0) (.cells z.cells)) else none
   | none => none
 | .box _ x => if (ρ x).yzc then some (.push (fun lv n => .ptr lv n 0) (.cells (ρ x).cells)) else none
 | .store t a x => yeo P g t (ρ a) (ρ x)
 | .makeMap t r => yaq P t (r.map ρ)
 | .mapUpdate t m k x => zgi P g t (ρ m) (ρ k) (ρ x)
 | .insert t m k x => zgi P g t (ρ m) (ρ k) (ρ x)
 | .range t x => yj3 P t (ρ x)
 | .next i b => yma g (ρ i) b
 | .call c => match c.callee with
   | .builtin .append => match c.args.toList, c.argTypes.toList with
     | [s, x], [t, u] => ygg P g t u (ρ s) (ρ x)
     | _, _ => none
   | .builtin .copy => none
   | _ => (xpv P g ρ (.call c)).map .keep
 | o => (xpv P g ρ o).map .keep
section
variable {P : Program} {g : Nat → Nat → Option kz3} {H : kz1} (hg : ∀ l i o, g l i = some o → H.get l i = some o)
include hg
theorem yhd {t : Nat} {a x : V} {e : Eff} (h : yeo P g t a x = some e) : zc8 P H t a x = some (e.on H) := by
 unfold yeo at h
 unfold zc8
 split at h
 ·rename_i hc
  rw [if_pos hc]
  split at h
  ·rename_i l i off
   split at h
   ·rename_i cs ho
    simp only [hg _ _ _ ho]
    split at h
    ·rename_i hle
     injection h with h; subst h
     rw [if_pos hle]; rfl
    ·cases h
   ·cases h
  ·rename_i l i ver idx off
   split at h
   ·rename_i ver' ty sz xs cp ho
    simp only [hg _ _ _ ho]
    split at h
    ·rename_i hv
     rw [if_pos hv]
     split at h
     ·rename_i y hy
      simp only [hy]
      split at h
      ·rename_i hle
       injection h with h; subst h
       rw [if_pos hle]; rfl
      ·cases h
     ·cases h
    ·cases h
   ·cases h
  ·cases h
 ·cases h
theorem zks {t : Nat} {m k x : V} {e : Eff} (h : zgi P g t m k x = some e) : zb3 P H t m k x = some (e.on H) := by
 unfold zgi at h
 unfold zb3
 split at h
 ·rename_i kt et ht
  simp only [ht]
  split at h
  ·rename_i l i
   split at h
   ·rename_i es ho
    simp only [hg _ _ _ ho]
    split at h
    ·rename_i d hd
     simp only [hd]
     split at h
     ·rename_i r hr
      injection h with h; subst h
      simp only [hr]; rfl
     ·cases h
    ·cases h
   ·cases h
  ·cases h
 ·cases h
theorem y6c {e' size : Nat} {s : V} {ys : List V} {e : Eff} (h : zof g e' size s ys = some e) : z27 H e' size s ys = some (e.on H) := by
 unfold zof at h
 unfold z27
 split at h
 ·split at h
  ·injection h with h; subst h; rfl
  ·split at h
   ·rename_i hr; injection h with h; subst h; simp only [if_pos hr]; rfl
   ·cases h
 ·split at h
  ·rename_i hz
   simp only [if_pos hz]
   split at h
   ·injection h with h; subst h; rfl
   ·split at h
    ·rename_i hr; injection h with h; subst h; simp only [if_pos hr]; rfl
    ·cases h
  ·cases h
 ·split at h
  ·rename_i ho
   simp only [hg _ _ _ ho]
   split at h
   ·rename_i hr; injection h with h; subst h; rw [if_pos hr]; rfl
   ·cases h
  ·cases h
 ·cases h
theorem ydq {ρ : Operand → V} {op : Op} {e : Eff} (h : eox P g ρ op = some e) : ox P H ρ op = some (e.on H) := by
 have keep : ∀ {o : Op}, (xpv P g ρ o).map Eff.keep = some e → (pv P H ρ o).map (fun v => (v, H)) = some (e.on H) := fun {o} hh => by
  simp only [Option.map_eq_some_iff] at hh
  obtain ⟨v, hv, rfl⟩ := hh
  rw [ydt hg hv]; rfl
 cases op with
 | alloc t =>
   simp only [eox] at h
   simp only [ox, zo9]
   split at h
   · rename_i z hz
     simp only [hz]
     split at h
     · rename_i hs; injection h with h; subst h; rw [if_pos hs]; rfl
     · cases h
   · cases h
 | box t x =>
   simp only [eox] at h
   simp only [ox, ygq]
   split at h
   · rename_i hs; injection h with h; subst h; rw [if_pos hs]; rfl
   · cases h
 | store t a x => exact yhd hg h
 | makeMap t r =>
   simp only [eox, yaq] at h
   simp only [ox, zm4]
   split at h
   · rename_i hr; rw [hr]; injection h with h; subst h; rfl
   · rename_i hr; rw [hr]
     split at h
     · rename_i ht; simp only [ht]; injection h with h; subst h; rfl
     · cases h
   · cases h
 | mapUpdate t m k x => exact zks hg h
 | insert t m k x => exact zks hg h
 | range t x =>
   simp only [eox, yj3] at h
   simp only [ox, ztc]
   split at h
   · rename_i s hs
     rw [hs]
     split at h
     · rename_i ht; simp only [ht]; injection h with h; subst h; rfl
     · cases h
   · cases h
 | next i b =>
   simp only [eox, yma] at h
   simp only [ox, ztp]
   split at h
   · rename_i l j hx
     rw [hx]
     split at h
     · rename_i s pos ho
       simp only [hg _ _ _ ho]
       split at h
       · rename_i hp; injection h with h; subst h; rw [if_pos hp]; rfl
       · rename_i hp; injection h with h; subst h; rw [if_neg hp]; rfl
     · cases h
   · cases h
 | call c =>
   simp only [eox] at h
   simp only [ox]
   split at h
   · rename_i hc
     rw [hc]
     simp only
     split at h
     · rename_i s x t u e1 e2
       rw [e1, e2]
       simp only
       unfold ygg at h
       unfold hAppend
       split at h
       · rename_i et du ht hu
         simp only [ht, hu]
         split at h
         · rename_i i hi
           simp only [hi]
           split at h
           · rename_i ys z h1 h2
             simp only [yja hg h1, h2]
             split at h
             · rename_i hcc; rw [if_pos hcc]; exact y6c hg h
             · cases h
           · cases h
         · cases h
       · cases h
     · cases h
   · cases h
   · rename_i h1 h2
     have := keep h
     split
     · rename_i hc; exact (h1 hc).elim
     · rename_i hc; exact (h2 hc).elim
     · exact this
 | _ =>
   simp only [eox] at h
   simp only [ox]
   exact keep h
end
section
variable {P : Program} {g : Nat → Nat → Option kz3} {H : kz1} (hg : ∀ l i o, g l i = some o → H.get l i = some o)
include hg
theorem znz {x : V} {p : Nat × Nat × Nat × Nat} (h : zwv (z0a g x) x = some p) : zwv H x = some p := by
 cases x with
 | ap l i ver idx off =>
   simp only [zwv, z66 (g := g) (v := .ap l i ver idx off) rfl] at h
   cases ho : g l i with
   | none => rw [ho] at h; cases h
   | some o => rw [ho] at h; simp only [zwv, hg _ _ _ ho]; exact h
 | _ => cases h
theorem yas {x : V} (h : znw (z0a g x) x = true) : znw H x = true := by
 cases x with
 | ap l i ver idx off =>
   simp only [znw, z66 (g := g) (v := .ap l i ver idx off) rfl] at h
   cases ho : g l i with
   | none => rw [ho] at h; cases h
   | some o => rw [ho] at h; simp only [znw, hg _ _ _ ho]; exact h
 | _ => cases h
theorem ygn {op : BinOp} {t : Nat} {x y v : V} (h : y1v P (z0a g x) op t x y = some v) : y1v P H op t x y = some v := by
 unfold y1v at h ⊢
 split at h
 ·rename_i p e h1 h2 h3
  rw [h1, znz hg h2, h3]; exact h
 ·cases h
theorem yae {op : BinOp} {t : Nat} {xo yo : Operand} {x y v : V} (h : y3g P (z0a g x) op t xo yo x y = some v) : y3g P H op t xo yo x y = some v := by
 unfold y3g at h ⊢
 split at h
 ·exact h
 ·exact ygn hg h
theorem ygx {s d : Nat} {x v : V} (h : zt9 P (z0a g x) s d x = some v) : zt9 P H s d x = some v := by
 unfold zt9 at h ⊢
 split at h
 ·rename_i t p h1 h2 h3
  rw [h1, h2, znz hg h3]; exact h
 ·rename_i u ty sz n o h1 h2 h3
  rw [h1, h2, znz hg h3]
  dsimp only at h ⊢
  split at h
  ·rename_i j hj
   split at h
   ·rename_i hc
    simp only [Bool.and_eq_true] at hc
    rw [hc.1.1.1, hc.1.1.2, yas hg hc.1.2, hc.2]; exact h
   ·cases h
  ·cases h
 ·cases h
theorem zrt {x v : V} (h : z7c (z0a g x) x = some v) : z7c H x = some v := by
 cases x with
 | hs l i ver off n full =>
   simp only [z7c, z66 (g := g) (v := .hs l i ver off n full) rfl] at h
   cases ho : g l i with
   | none => rw [ho] at h; cases h
   | some o => rw [ho] at h; simp only [z7c, hg _ _ _ ho]; exact h
 | nils => exact h
 | _ => cases h
end
def yjs (P : Program) (lv : Nat) (g : Nat → Nat → Option kz3) (pt : Nat) (p n : V) : Option Eff :=
 match p, n with
 | .nilp, .int .i64 (.ofNat 0) => some (.keep (.str []))
 | .ap l i ver 0 0, .int .i64 (.ofNat m) => match g l i, P.underlying pt with
   | some (.arr ver' ty sz xs cp), some (.pointer e) => match Nat.beq ver' ver && Nat.beq sz 1 && Nat.beq l lv && Nat.beq e ty && Nat.beq (P.cellsOf ty) 1 && Nat.blt 0 m && Nat.ble m xs.length && Nat.ble m z78 with
     | true => match zp2 (xs.take m) with
       | some s => some (.zcl i (.str s))
       | none => none
     | false => none
   | _, _ => none
 | _, _ => none
def zte (P : Program) (t : Nat) (n c : V) : Option Eff :=
 match n, c with
 | .int _ (.ofNat n), .int _ (.ofNat c) => match P.underlying t with
   | some (.slice e) => match P.info? e, zeroV P e with
     | some i, some z => match z.yzc && Nat.beq z.cells.length i.size && Nat.blt 0 i.size && Nat.ble n c && Nat.ble c 1000000 && Nat.ble i.bytes 100000 with
       | true => some (.push (fun lv k => .hs lv k 0 0 n false) (.arr 0 e i.size (List.replicate n z) none))
       | false => none
     | _, _ => none
   | _ => none
 | _, _ => none
def yg5 (P : Program) (t : Nat) : Option Eff := match zeroV P t, P.info? t with
 | some z, some i => if z.yzc && z.cells.length == i.size && Nat.blt 0 i.size then some (.push (fun lv k => .ap lv k 0 0 0) (.arr 0 t i.size [z] (some 1))) else none
 | _, _ => none
def zty (P : Program) (lv : Nat) (g : Nat → Nat → Option kz3) (ρ : Operand → V) (op : Op) : Option Eff := match op with
 | .alloc t => match ym5 P t with
   | true => yg5 P t
   | false => none
 | .makeSlice t n c => zte P t (ρ n) (ρ c)
 | .convert s d x => (zt9 P (z0a g (ρ x)) s d (ρ x)).map .keep
 | .binOp op t x y _ => (y3g P (z0a g (ρ x)) op t x y (ρ x) (ρ y)).map .keep
 | .call c => match c.callee with
   | .builtin .unsafeSliceData => match c.args.toList with
     | [x] => (z7c (z0a g (ρ x)) (ρ x)).map .keep
     | _ => none
   | .builtin .unsafeString => match c.args.toList, c.argTypes.toList with
     | [p, n], [pt, _] => yjs P lv g pt (ρ p) (ρ n)
     | _, _ => none
   | _ => none
 | _ => none
theorem zl2 {P : Program} {g : Nat → Nat → Option kz3} {H : kz1} (hg : ∀ l i o, g l i = some o → H.get l i = some o) {ρ : Operand → V} {op : Op} {e : Eff} (h : zty P H.lv g ρ op = some e) : zau P H ρ op = some (e.on H) := by
 have keep : ∀ {q q' : Option V}, (∀ v, q = some v → q' = some v) → q.map Eff.keep = some e → (q'.map fun v => (v, H)) = some (e.on H) := fun {q q'} hq hh => by
  simp only [Option.map_eq_some_iff] at hh
  obtain ⟨v, hv, rfl⟩ := hh
  rw [hq v hv]; rfl
 cases op with
 | alloc t =>
   simp only [zty] at h
   simp only [zau]
   split at h
   · rename_i hb
     rw [hb]
     unfold yg5 at h
     unfold zrm
     split at h
     · rename_i z i h1 h2
       simp only [h1, h2]
       split at h
       · rename_i hc; injection h with h; subst h; rw [if_pos hc]; rfl
       · cases h
     · cases h
   · cases h
 | makeSlice t n c =>
   simp only [zty] at h
   simp only [zau]
   unfold zte at h
   unfold zgu
   split at h
   · rename_i k1 n' k2 c' e1 e2
     rw [e1, e2]
     try dsimp only
     split at h
     · rename_i el ht
       rw [ht]
       try dsimp only
       split at h
       · rename_i i z h1 h2
         rw [h1, h2]
         try dsimp only
         split at h
         · rename_i hc; injection h with h; subst h; rw [hc]; rfl
         · cases h
       · cases h
     · cases h
   · cases h
 | convert s d x => exact keep (fun v hv => ygx hg hv) h
 | binOp op t x y ty => exact keep (fun v hv => yae hg hv) h
 | call c =>
   simp only [zty] at h
   simp only [zau]
   split at h
   · rename_i hc
     rw [hc]
     try dsimp only
     split at h
     · rename_i x hx
       rw [hx]
       exact keep (fun v hv => zrt hg hv) h
     · cases h
   · rename_i hc
     rw [hc]
     try dsimp only
     split at h
     · rename_i p n pt it h1 h2
       rw [h1, h2]
       try dsimp only
       unfold yjs at h
       unfold y5g
       split at h
       · rename_i e1 e2
         rw [e1, e2]
         injection h with h; subst h; rfl
       · rename_i l i ver m e1 e2
         rw [e1, e2]
         try dsimp only
         split at h
         · rename_i ver' ty sz xs cp e' h3 h4
           simp only [hg _ _ _ h3, h4]
           try dsimp only
           split at h
           · rename_i hc2
             rw [hc2]
             try dsimp only
             split at h
             · rename_i s hs; rw [hs]; injection h with h; subst h; rfl
             · cases h
           · cases h
         · cases h
       · cases h
     · cases h
   · cases h
 | _ => cases h
end Go.Ab


namespace Go.Ab
open Go
set_option linter.unusedVariables false
set_option linter.unusedSimpArgs false
mutual
def V.data : V → Bool
 | .ptr _ _ _ => false
 | .ap _ _ _ _ _ => false
 | .hs _ _ _ _ _ _ => false
 | .map _ _ => false
 | .ref cs _ => V.zio cs
 | .sl _ xs _ => V.zio xs
 | .fn _ a b => V.zio a && V.zio b
 | .iface _ v => V.data v
 | .agg cs => V.zio cs
 | .tup vs => V.zio vs
 | _ => true
def V.zio : List V → Bool
 | [] => true
 | v :: vs => V.data v && V.zio vs
end
mutual
theorem zut {D : Nat → Nat → Prop} : ∀ {v : V}, v.data = true → V.kin D v
 | .any, _ => by simp [V.kin]
 | .bool _, _ => by simp [V.kin]
 | .int _ _, _ => by simp [V.kin]
 | .str _, _ => by simp [V.kin]
 | .nilp, _ => by simp [V.kin]
 | .ptr _ _ _, h => by simp [V.data] at h
 | .ref cs _, h => by simp only [V.data] at h; simp only [V.kin]; exact z9r h
 | .ap _ _ _ _ _, h => by simp [V.data] at h
 | .nils, _ => by simp [V.kin]
 | .sl _ xs _, h => by simp only [V.data] at h; simp only [V.kin]; exact z9r h
 | .hs _ _ _ _ _ _, h => by simp [V.data] at h
 | .mapn, _ => by simp [V.kin]
 | .map _ _, h => by simp [V.data] at h
 | .fn _ a b, h => by simp only [V.data, Bool.and_eq_true] at h; simp only [V.kin]; exact ⟨z9r h.1, z9r h.2⟩
 | .nilf, _ => by simp [V.kin]
 | .iface _ v, h => by simp only [V.data] at h; simp only [V.kin]; exact zut h
 | .nili, _ => by simp [V.kin]
 | .agg cs, h => by simp only [V.data] at h; simp only [V.kin]; exact z9r h
 | .tup vs, h => by simp only [V.data] at h; simp only [V.kin]; exact z9r h
theorem z9r {D : Nat → Nat → Prop} : ∀ {vs : List V}, V.zio vs = true → V.z6t D vs
 | [], _ => by simp [V.z6t]
 | v :: vs, h => by simp only [V.zio, Bool.and_eq_true] at h; simp only [V.z6t]; exact ⟨zut h.1, z9r h.2⟩
end
def zhs (f : V → Option V) : List V → Option (List V)
 | [] => some []
 | v :: vs => match f v, zhs f vs with
   | some u, some us => some (u :: us)
   | _, _ => none
def frz (lv : Nat) (g : Nat → Nat → Option kz3) : Nat → V → Option V
 | 0, _ => none
 | k + 1, v => match v with
   | .hs l i ver off n full => match g l i with
     | some (.arr ver' ty sz xs cp) => match Nat.beq l lv && Nat.beq ver' ver with
       | true => match zhs (frz lv g k) ((xs.drop off).take n) with
         | some ys => match Nat.beq ys.length n with
           | true => some (.sl sz ys false)
           | false => none
         | none => none
       | false => none
     | _ => none
   | .agg vs => (zhs (frz lv g k) vs).map .agg
   | .tup vs => (zhs (frz lv g k) vs).map .tup
   | .sl sz xs b => match V.zio xs with
     | true => some (.sl sz xs b)
     | false => (zhs (frz lv g k) xs).map fun ys => .sl sz ys false
   | v => match V.data v with
     | true => some v
     | false => none
theorem zg3 {f : V → Option V} : ∀ {vs us : List V}, zhs f vs = some us → us.length = vs.length ∧ ∀ (j : Nat) (v u : V), vs[j]? = some v → us[j]? = some u → f v = some u
 | [], us, h => by simp only [zhs, Option.some.injEq] at h; subst h; exact ⟨rfl, by simp⟩
 | v :: vs, us, h => by
   simp only [zhs] at h
   split at h
   · rename_i u us' h1 h2
     injection h with h; subst h
     obtain ⟨k1, k2⟩ := zg3 h2
     refine ⟨by simp [k1], fun j a b ha hb => ?_⟩
     cases j with
     | zero => simp at ha hb; subst ha; subst hb; exact h1
     | succ j => exact k2 j a b (by simpa using ha) (by simpa using hb)
   · cases h
theorem zbp {lv m : Nat} {g : Nat → Nat → Option kz3} {H : kz1} (hg : ∀ l i o, g l i = some o → H.get l i = some o) (hlv : H.lv = lv) : ∀ (k : Nat) {v u : V}, frz lv g k v = some u →
  VS H (outer m) v u ∧ v.cells.length = u.cells.length ∧ ∀ (t : Nat) (a b : V), v.cells[t]? = some a → u.cells[t]? = some b → VS H (outer m) a b
 | 0, v, u, h => by cases h
 | k + 1, v, u, h => by
   have one : ∀ {v u : V}, v.cells = [v] → u.cells = [u] → VS H (outer m) v u → VS H (outer m) v u ∧ v.cells.length = u.cells.length ∧ ∀ (t : Nat) (a b : V), v.cells[t]? = some a → u.cells[t]? = some b → VS H (outer m) a b := fun {v u} h1 h2 h3 => by
     refine ⟨h3, by rw [h1, h2]; rfl, fun t a b ha hb => ?_⟩
     rw [h1] at ha; rw [h2] at hb
     cases t with
     | zero => simp at ha hb; subst ha; subst hb; exact h3
     | succ t => simp at ha
   have leaf : ∀ {v : V}, v.cells = [v] → (match V.data v with | true => some v | false => none) = some u → VS H (outer m) v u ∧ v.cells.length = u.cells.length ∧ ∀ (t : Nat) (a b : V), v.cells[t]? = some a → u.cells[t]? = some b → VS H (outer m) a b := fun {v} hc hh => by
     split at hh
     · rename_i hd
       injection hh with hh; subst hh
       exact one hc hc (.keep _ (zut hd))
     · cases hh
   cases v with
   | hs l i ver off n full =>
     simp only [frz] at h
     split at h
     · rename_i ver' ty sz xs cp ho
       split at h
       · rename_i hb
         simp only [Bool.and_eq_true] at hb
         have e1 : l = lv := Nat.eq_of_beq_eq_true hb.1
         have e2 : ver' = ver := Nat.eq_of_beq_eq_true hb.2
         subst e2
         split at h
         · rename_i ys hys
           split at h
           · rename_i hn
             have hn : ys.length = n := Nat.eq_of_beq_eq_true hn
             injection h with h; subst h
             obtain ⟨k1, k2⟩ := zg3 hys
             have get : ∀ (j : Nat) (x y : V), xs[off + j]? = some x → ys[j]? = some y → frz lv g k x = some y := fun j x y hx hy => by
               have hj := (List.getElem?_eq_some_iff.1 hy).1
               refine k2 j x y ?_ hy
               rw [List.getElem?_take, if_pos (by omega), List.getElem?_drop]; exact hx
             refine one rfl rfl (.hs l i ver' ty sz off n full xs ys cp (by rw [e1, hlv]) (hg _ _ _ ho) hn (fun j x y hx hy => (zbp (m := m) hg hlv k (get j x y hx hy)).2.1) (fun j x y t a b hx hy ha hb => (zbp (m := m) hg hlv k (get j x y hx hy)).2.2 t a b ha hb))
           · cases h
         · cases h
       · cases h
     · cases h
   | agg vs =>
     simp only [frz, Option.map_eq_some_iff] at h
     obtain ⟨us, h1, rfl⟩ := h
     obtain ⟨k1, k2⟩ := zg3 h1
     have get : ∀ (j : Nat) (a b : V), vs[j]? = some a → us[j]? = some b → VS H (outer m) a b := fun j a b ha hb => (zbp (m := m) hg hlv k (k2 j a b ha hb)).1
     exact ⟨.agg _ _ k1.symm get, k1.symm, get⟩
   | tup vs =>
     simp only [frz, Option.map_eq_some_iff] at h
     obtain ⟨us, h1, rfl⟩ := h
     obtain ⟨k1, k2⟩ := zg3 h1
     exact one rfl rfl (.tup _ _ k1.symm fun j a b ha hb => (zbp (m := m) hg hlv k (k2 j a b ha hb)).1)
   | sl sz xs b =>
     simp only [frz] at h
     split at h
     · rename_i hd
       injection h with h; subst h
       exact one rfl rfl (.keep _ (by simp only [V.kin]; exact z9r hd))
     · simp only [Option.map_eq_some_iff] at h
       obtain ⟨ys, h1, rfl⟩ := h
       obtain ⟨k1, k2⟩ := zg3 h1
       exact one rfl rfl (.sl _ _ _ _ k1.symm (fun j x y hx hy => (zbp (m := m) hg hlv k (k2 j x y hx hy)).2.1) (fun j x y t a b hx hy ha hb => (zbp (m := m) hg hlv k (k2 j x y hx hy)).2.2 t a b ha hb))
   | any => exact leaf rfl h
   | bool _ => exact leaf rfl h
   | int _ _ => exact leaf rfl h
   | str _ => exact leaf rfl h
   | nilp => exact leaf rfl h
   | ptr _ _ _ => exact leaf rfl h
   | ref _ _ => exact leaf rfl h
   | ap _ _ _ _ _ => exact leaf rfl h
   | nils => exact leaf rfl h
   | mapn => exact leaf rfl h
   | map _ _ => exact leaf rfl h
   | fn _ _ _ => exact leaf rfl h
   | nilf => exact leaf rfl h
   | iface _ _ => exact leaf rfl h
   | nili => exact leaf rfl h
def kno : IntKind → Nat
 | .i8 => 0 | .i16 => 1 | .i32 => 2 | .i64 => 3 | .u8 => 4 | .u16 => 5 | .u32 => 6 | .u64 => 7
theorem yly {a b : IntKind} (h : kno a = kno b) : a = b := by
 cases a <;> cases b <;> first | rfl | cases h
def yjr : Int → Int → Bool
 | .ofNat a, .ofNat b => Nat.beq a b
 | .negSucc a, .negSucc b => Nat.beq a b
 | _, _ => false
theorem yjj {a b : Int} (h : yjr a b = true) : a = b := by
 cases a <;> cases b <;> simp only [yjr] at h <;> first | cases h | skip
 ·rw [Nat.eq_of_beq_eq_true h]
 ·rw [Nat.eq_of_beq_eq_true h]
def ygh : List UInt8 → List UInt8 → Bool
 | [], [] => true
 | a :: s, b :: t => match Nat.beq a.toNat b.toNat with
   | true => ygh s t
   | false => false
 | _, _ => false
theorem ybt : ∀ {a b : List UInt8}, ygh a b = true → a = b
 | [], [], _ => rfl
 | [], _ :: _, h => by cases h
 | _ :: _, [], h => by cases h
 | a :: s, b :: t, h => by
   simp only [ygh] at h
   split at h
   · rename_i e
     have : a = b := UInt8.toNat_inj.1 (Nat.eq_of_beq_eq_true e)
     rw [this, ybt h]
   · cases h
def yfw : Bool → Bool → Bool
 | true, true => true
 | false, false => true
 | _, _ => false
theorem zs6 {a b : Bool} (h : yfw a b = true) : a = b := by cases a <;> cases b <;> first | rfl | cases h
def zan : Bool → Bool → Bool
 | true, b => b
 | false, _ => false
theorem zzz {a b : Bool} (h : zan a b = true) : a = true ∧ b = true := by cases a <;> simp [zan] at h ⊢; exact h
mutual
def V.same : V → V → Bool
 | .any, .any => true
 | .bool a, .bool b => yfw a b
 | .int k a, .int l b => zan (Nat.beq (kno k) (kno l)) (yjr a b)
 | .str a, .str b => ygh a b
 | .ptr l i o, .ptr m j p => zan (Nat.beq l m) (zan (Nat.beq i j) (Nat.beq o p))
 | .ap l i v x o, .ap m j w y p => zan (Nat.beq l m) (zan (Nat.beq i j) (zan (Nat.beq v w) (zan (Nat.beq x y) (Nat.beq o p))))
 | .hs l i v o n f, .hs m j w p k g => zan (Nat.beq l m) (zan (Nat.beq i j) (zan (Nat.beq v w) (zan (Nat.beq o p) (zan (Nat.beq n k) (yfw f g)))))
 | .map l i, .map m j => zan (Nat.beq l m) (Nat.beq i j)
 | .nilp, .nilp => true
 | .nils, .nils => true
 | .mapn, .mapn => true
 | .nilf, .nilf => true
 | .nili, .nili => true
 | .ref a i, .ref b j => zan (Nat.beq i j) (V.zea a b)
 | .sl n a x, .sl m b y => zan (Nat.beq n m) (zan (yfw x y) (V.zea a b))
 | .fn f a b, .fn g c d => zan (Nat.beq f g) (zan (V.zea a c) (V.zea b d))
 | .iface t a, .iface u b => zan (Nat.beq t u) (V.same a b)
 | .agg a, .agg b => V.zea a b
 | .tup a, .tup b => V.zea a b
 | _, _ => false
def V.zea : List V → List V → Bool
 | [], [] => true
 | a :: s, b :: t => zan (V.same a b) (V.zea s t)
 | _, _ => false
end
mutual
theorem y3w : ∀ {a b : V}, V.same a b = true → a = b
 | .any, b, h => by cases b <;> first | rfl | (simp [V.same] at h; done)
 | .nilp, b, h => by cases b <;> first | rfl | (simp [V.same] at h; done)
 | .nils, b, h => by cases b <;> first | rfl | (simp [V.same] at h; done)
 | .mapn, b, h => by cases b <;> first | rfl | (simp [V.same] at h; done)
 | .nilf, b, h => by cases b <;> first | rfl | (simp [V.same] at h; done)
 | .nili, b, h => by cases b <;> first | rfl | (simp [V.same] at h; done)
 | .bool a, b, h => by
   cases b <;> simp only [V.same] at h <;> first | cases h | rw [zs6 h]
 | .int k a, b, h => by
   cases b <;> simp only [V.same] at h <;> first | cases h | skip
   obtain ⟨h1, h2⟩ := zzz h
   rw [yly (Nat.eq_of_beq_eq_true h1), yjj h2]
 | .str a, b, h => by
   cases b <;> simp only [V.same] at h <;> first | cases h | rw [ybt h]
 | .ptr _ _ _, b, h => by
   cases b <;> simp only [V.same] at h <;> first | cases h | skip
   obtain ⟨h1, h2⟩ := zzz h
   obtain ⟨h2, h3⟩ := zzz h2
   rw [Nat.eq_of_beq_eq_true h1, Nat.eq_of_beq_eq_true h2, Nat.eq_of_beq_eq_true h3]
 | .ap _ _ _ _ _, b, h => by
   cases b <;> simp only [V.same] at h <;> first | cases h | skip
   obtain ⟨h1, h2⟩ := zzz h
   obtain ⟨h2, h3⟩ := zzz h2
   obtain ⟨h3, h4⟩ := zzz h3
   obtain ⟨h4, h5⟩ := zzz h4
   rw [Nat.eq_of_beq_eq_true h1, Nat.eq_of_beq_eq_true h2, Nat.eq_of_beq_eq_true h3, Nat.eq_of_beq_eq_true h4, Nat.eq_of_beq_eq_true h5]
 | .hs _ _ _ _ _ _, b, h => by
   cases b <;> simp only [V.same] at h <;> first | cases h | skip
   obtain ⟨h1, h2⟩ := zzz h
   obtain ⟨h2, h3⟩ := zzz h2
   obtain ⟨h3, h4⟩ := zzz h3
   obtain ⟨h4, h5⟩ := zzz h4
   obtain ⟨h5, h6⟩ := zzz h5
   rw [Nat.eq_of_beq_eq_true h1, Nat.eq_of_beq_eq_true h2, Nat.eq_of_beq_eq_true h3, Nat.eq_of_beq_eq_true h4, Nat.eq_of_beq_eq_true h5, zs6 h6]
 | .map _ _, b, h => by
   cases b <;> simp only [V.same] at h <;> first | cases h | skip
   obtain ⟨h1, h2⟩ := zzz h
   rw [Nat.eq_of_beq_eq_true h1, Nat.eq_of_beq_eq_true h2]
 | .ref a i, b, h => by
   cases b <;> simp only [V.same] at h <;> first | cases h | skip
   obtain ⟨h1, h2⟩ := zzz h
   rw [Nat.eq_of_beq_eq_true h1, z95 h2]
 | .sl n a x, b, h => by
   cases b <;> simp only [V.same] at h <;> first | cases h | skip
   obtain ⟨h1, h2⟩ := zzz h
   obtain ⟨h2, h3⟩ := zzz h2
   rw [Nat.eq_of_beq_eq_true h1, zs6 h2, z95 h3]
 | .fn f a c, b, h => by
   cases b <;> simp only [V.same] at h <;> first | cases h | skip
   obtain ⟨h1, h2⟩ := zzz h
   obtain ⟨h2, h3⟩ := zzz h2
   rw [Nat.eq_of_beq_eq_true h1, z95 h2, z95 h3]
 | .iface t a, b, h => by
   cases b <;> simp only [V.same] at h <;> first | cases h | skip
   obtain ⟨h1, h2⟩ := zzz h
   rw [Nat.eq_of_beq_eq_true h1, y3w h2]
 | .agg a, b, h => by
   cases b <;> simp only [V.same] at h <;> first | cases h | rw [z95 h]
 | .tup a, b, h => by
   cases b <;> simp only [V.same] at h <;> first | cases h | rw [z95 h]
theorem z95 : ∀ {a b : List V}, V.zea a b = true → a = b
 | [], [], _ => rfl
 | [], _ :: _, h => by simp [V.zea] at h
 | _ :: _, [], h => by simp [V.zea] at h
 | a :: s, b :: t, h => by
   simp only [V.zea] at h
   obtain ⟨h1, h2⟩ := zzz h
   rw [y3w h1, z95 h2]
end
def yjq : Option kz3 → Option kz3 → Bool
 | some (.cells a), some (.cells b) => V.zea a b
 | some (.arr v t s xs none), some (.arr w u z ys none) => zan (Nat.beq v w) (zan (Nat.beq t u) (zan (Nat.beq s z) (V.zea xs ys)))
 | _, _ => false
theorem yj8 {a b : Option kz3} (h : yjq a b = true) : a = b := by
 unfold yjq at h
 split at h
 ·rw [z95 h]
 ·obtain ⟨h1, h2⟩ := zzz h
  obtain ⟨h2, h3⟩ := zzz h2
  obtain ⟨h3, h4⟩ := zzz h3
  rw [Nat.eq_of_beq_eq_true h1, Nat.eq_of_beq_eq_true h2, Nat.eq_of_beq_eq_true h3, z95 h4]
 ·cases h
noncomputable def ym3 (h h2 : XH) (x : Nat) : Bool := zan (Nat.blt x h.n) (zan (Nat.blt x h2.n) (yjq (BT.get none (path x) h.t) (BT.get none (path x) h2.t)))
abbrev zh2 := Bool → Nat → List V → Nat → XH → Option (Out × XH)
abbrev z8x := Nat → Nat → List V → Option V
inductive XO where
 | val (v : V) (h : XH)
 | pan (v : V) (h : XH)
 | dfr (f : Nat) (args : List V)
 | bad
section
variable (P : Program) (hk : z8x) (call : zh2) (lv : Nat)
noncomputable def zqa (e : Option Eff) (h : XH) (k : XO) : XO :=
 match e with
 | some e => (match e.onX lv h with
   | some (v, h') => .val v h'
   | none => .bad)
 | none => k
noncomputable def yl4 (o : Op) (T : BT V) (h : XH) : XO :=
 zqa lv (zty P lv (xg lv h) (evT T) o) h (zqa lv (eox P (xg lv h) (evT T) o) h .bad)
def XO.of (r : Option V) (h : XH) : XO := match r with
 | some v => .val v h
 | none => .bad
noncomputable def xop1 (o : Op) (T : BT V) (h : XH) : XO :=
 match o with
 | .move x => .val (evT T x) h
 | .assign x => .val (evT T x) h
 | .load t a => .of (z3l P (z0a (xg lv h) (evT T a)) t (evT T a)) h
 | .binOp op t x y _ => (match zk4 P op t (evT T x) (evT T y) with
   | some v => .val v h
   | none => .of (y3g P (z0a (xg lv h) (evT T x)) op t x y (evT T x) (evT T y)) h)
 | .fieldAddr s x f => .of (z3r P s f (evT T x)) h
 | .call c => match target (evT T) c with
   | some (f, args) => (match hk lv f args with
     | some r => .val r h
     | none => (match call false f args lv h with
       | some (.ret r, h') => .val r h'
       | some (.pan v, h') => .pan v h'
       | none => .bad))
   | none => yl4 P lv (.call c) T h
 | .defer c => match target (evT T) c with
   | some (f, args) => .dfr f args
   | none => .bad
 | .panic x => match evT T x with
   | .iface t v => .pan (.iface t v) h
   | _ => .bad
 | o => yl4 P lv o T h
abbrev zgj := Option (zz5 × BT V × XH × DL)
noncomputable def yim (n : Nat) (ops : Array Oper) (o : Oper) (k : BT V → XH → DL → zgj) (T : BT V) (h : XH) (D : DL) : zgj :=
 match zmr ops T o with
 | none => none
 | some false => (match zma n T o.dst (.tup []) with
   | some T' => k T' h D
   | none => none)
 | some true => (match xop1 P hk call lv o.op T h with
   | .val v h' => (match zma n T o.dst v with
     | some T' => k T' h' D
     | none => none)
   | .pan v h' => some (.panic v, T, h', D)
   | .dfr f args => (match zma n T o.dst .any with
     | some T' => k T' h ((f, args) :: D)
     | none => none)
   | .bad => none)
noncomputable def yig (n : Nat) (ops : Array Oper) (l : List Oper) : BT V → XH → DL → zgj :=
 @List.rec Oper (fun _ => BT V → XH → DL → zgj) (fun T h D => some (.normal, T, h, D)) (fun o _ ih => yim P hk call lv n ops o ih) l
noncomputable def xq1 (o : Op) (T : BT V) (h : XH) : Option V :=
 match o with
 | .move x => some (evT T x)
 | .assign x => some (evT T x)
 | .binOp op t x y _ => zk4 P op t (evT T x) (evT T y)
 | .call c => match target (evT T) c with
   | some (f, args) => (match hk lv f args with
     | some r => some r
     | none => (match call true f args lv h with
       | some (.ret r, _) => some r
       | _ => none))
   | none => xpv P (xg lv h) (evT T) (.call c)
 | o => xpv P (xg lv h) (evT T) o
noncomputable def ydj (n : Nat) (ops : Array Oper) (o : Oper) (k : BT V → XH → Option (BT V)) (T : BT V) (h : XH) : Option (BT V) :=
 match zmr ops T o with
 | none => none
 | some false => (match zma n T o.dst (.tup []) with
   | some T' => k T' h
   | none => none)
 | some true => (match xq1 P hk call lv o.op T h with
   | some v => (match zma n T o.dst v with
     | some T' => k T' h
     | none => none)
   | none => none)
noncomputable def xq (n : Nat) (ops : Array Oper) (l : List Oper) : BT V → XH → Option (BT V) :=
 @List.rec Oper (fun _ => BT V → XH → Option (BT V)) (fun T _ => some T) (fun o _ ih => ydj P hk call lv n ops o ih) l
def znk (ops : Array Oper) : Nat → Option Nat → Option Nat
 | 0, b => b
 | k + 1, b => match Region.lexTailB .any ops k with
   | true => znk ops k (some k)
   | false => b
def ym4 (ops : Array Oper) : Option Nat := match Region.lexB .any ops with
 | true => some ops.size
 | false => znk ops ops.size none
def zd0 (i : Nat) (R : List Nat) : Bool := R.any (Nat.beq i)
noncomputable def xgR (h : XH) (R : List Nat) (l i : Nat) : Option kz3 := match zd0 i R with
 | true => xg lv h l i
 | false => none
def zt0 (v : V) : List Nat := match keyOf v with
 | some (l, i) => (match Nat.beq l lv with
   | true => [i]
   | false => [])
 | none => []
noncomputable def zj1 (T : BT V) (op : Op) : List Nat := match op with
 | .load _ a => zt0 lv (evT T a)
 | .indexAddr _ x _ => zt0 lv (evT T x)
 | .slice _ x _ _ _ => zt0 lv (evT T x)
 | .lookup _ x _ _ => zt0 lv (evT T x)
 | .convert _ _ x => zt0 lv (evT T x)
 | .binOp _ _ x _ _ => zt0 lv (evT T x)
 | .call c => (match c.callee with
   | .builtin _ => c.args.toList.flatMap fun x => zt0 lv (evT T x)
   | _ => [])
 | _ => []
def Eff.wr (h : XH) : Eff → List Nat
 | .keep _ => []
 | .push _ _ => [h.n]
 | .set _ i _ _ => [i]
 | .zcl i _ => [i]
inductive CK where
 | quiet (ks : List Nat)
 | eff (ks : List Nat)
 | call (kept : List Nat)
abbrev CL := List (Nat × CK)
def CK.reads : CK → List Nat
 | .quiet ks => ks
 | _ => []
def ztq : CK → CK → Bool
 | .quiet _, .quiet _ => false
 | .quiet a, .eff b => a.any fun k => zd0 k b
 | .eff a, .quiet b => a.any fun k => zd0 k b
 | .eff _, .eff _ => true
 | .call a, .quiet b => b.any fun k => !zd0 k a
 | .quiet b, .call a => b.any fun k => !zd0 k a
 | .call _, _ => true
 | _, .call _ => true
noncomputable def zpo (h h2 : XH) (prev : CL) : List Nat := (prev.flatMap fun p => p.2.reads).filter (ym3 h h2)
def okP (all : List Oper) (i : Nat) (c : CK) (prev : CL) : Bool := prev.all fun p => match ztq c p.2 with
 | false => true
 | true => zsv all p.1 i
def ycz (all : List Oper) (i n : Nat) : Bool := (List.range' (i + 1) (n - (i + 1))).all fun j => zsv all i j
noncomputable def zlq (o : Op) (T : BT V) (h : XH) (R : List Nat) : Option V := match o with
 | .makeSlice t n c => zf2 P t (evT T n) (evT T c)
 | o => match zty P lv (xgR lv h R) (evT T) o with
   | some (.keep v) => some v
   | _ => xpv P (xgR lv h R) (evT T) o
inductive XC where
 | val (v : V)
 | pan (v : V)
 | flat (f : Nat) (args : List V)
 | bad
def XC.of : Option V → XC
 | some v => .val v
 | none => .bad
noncomputable def y5s (o : Op) (T : BT V) (h : XH) (R : List Nat) : XC :=
 match o with
 | .call c => (match target (evT T) c with
   | some (f, args) => (match hk lv f args with
     | some r => .val r
     | none => (match call true f args lv h with
       | some (.ret r, _) => .val r
       | some (.pan v, _) => .pan v
       | none => .flat f args))
   | none => .of (zlq P lv (.call c) T h R))
 | o => .of (zlq P lv o T h R)
noncomputable def ymf (o : Op) (T : BT V) (h : XH) : Option Eff := match zty P lv (xg lv h) (evT T) o with
 | some e => some e
 | none => eox P (xg lv h) (evT T) o
abbrev yfi := Option (zz5 × BT V × XH)
noncomputable def yem (n : Nat) (ops : Array Oper) (i : Nat) (o : Oper) (prev : CL) (k : CL → BT V → XH → yfi) (T : BT V) (h : XH) : yfi :=
 match zmr ops T o with
 | none => none
 | some false => (match zma n T o.dst (.tup []) with
   | some T' => k ((i, .quiet []) :: prev) T' h
   | none => none)
 | some true => (match y9a o.op with
   | true => (match ymf P lv o.op T h with
     | some e => (match okP ops.toList i (.eff (e.wr h)) prev with
       | true => (match e.onX lv h with
         | some (v, h') => (match zma n T o.dst v with
           | some T' => k ((i, .eff (e.wr h)) :: prev) T' h'
           | none => none)
         | none => none)
       | false => none)
     | none => none)
   | false => (match y5s P hk call lv o.op T h (zj1 lv T o.op) with
     | .val v => (match okP ops.toList i (.quiet (zj1 lv T o.op)) prev with
       | true => (match zma n T o.dst v with
         | some T' => k ((i, .quiet (zj1 lv T o.op)) :: prev) T' h
         | none => none)
       | false => none)
     | .pan v => (match okP ops.toList i (.call (zpo h h prev)) prev with
       | true => (match ycz ops.toList i ops.size with
         | true => some (.panic v, .leaf, h)
         | false => none)
       | false => none)
     | .flat f args => (match ycz ops.toList i ops.size with
       | true => (match call false f args lv h with
         | some (.ret r, h') => (match okP ops.toList i (.call (zpo h h' prev)) prev with
           | true => (match zma n T o.dst r with
             | some T' => k ((i, .call (zpo h h' prev)) :: prev) T' h'
             | none => none)
           | false => none)
         | some (.pan v, h') => (match okP ops.toList i (.call (zpo h h' prev)) prev with
           | true => some (.panic v, .leaf, h')
           | false => none)
         | none => none)
       | false => none)
     | .bad => none))
noncomputable def yfz (n : Nat) (ops : Array Oper) (l : List Oper) : Nat → CL → BT V → XH → yfi :=
 @List.rec Oper (fun _ => Nat → CL → BT V → XH → yfi) (fun _ _ T h => some (.normal, T, h)) (fun o _ ih i prev T h => yem P hk call lv n ops i o prev (ih (Nat.succ i)) T h) l
def y1c (f : BT V → XH → DL → zgj) : zgj → zgj
 | some (.normal, T, h, D) => f T h D
 | r => r
noncomputable def y93 (f : BT V → XH → DL → zgj) (m : Nat) : BT V → XH → DL → zgj :=
 @Nat.rec (fun _ => BT V → XH → DL → zgj) (fun _ _ _ => none) (fun _ ih T h D => y1c ih (f T h D)) m
noncomputable def yfu (n : Nat) (ops : Array Oper) (T : BT V) (h : XH) (D : DL) : zgj := match zl4 .any ops (List.range' 0 ops.size) (Array.replicate ops.size false) with
 | true => (match yfz P hk call lv n ops ops.toList 0 [] T h with
   | some (e, T', h') => some (e, T', h', D)
   | none => none)
 | false => none
noncomputable def y75 (n : Nat) (ops : Array Oper) (draw : Bool) (T : BT V) (h : XH) (D : DL) : zgj :=
 match draw with
 | false => yig P hk call lv n ops ops.toList T h D
 | true => match ym4 ops with
   | some k => (match xq P hk call lv n ops (ops.toList.take k) T h with
     | some T' => yig P hk call lv n ops (ops.toList.drop k) T' h D
     | none => yfu P hk call lv n ops T h D)
   | none => yfu P hk call lv n ops T h D
noncomputable def yj2 (o : Operand) (fa fb : BT V → XH → DL → zgj) (T : BT V) (h : XH) (D : DL) : zgj :=
 match evT T o with
 | .bool true => fa T h D
 | .bool false => fb T h D
 | _ => none
def ye4 (id : Nat) : zgj → zgj
 | some (.exit i, T', h', D') => (match Nat.beq i id with
   | true => some (.normal, T', h', D')
   | false => some (.exit i, T', h', D'))
 | r => r
noncomputable def zh9 (n lf : Nat) (c : Code) : BT V → XH → DL → zgj :=
 @Code.rec (fun _ => BT V → XH → DL → zgj) (fun T h D => some (.normal, T, h, D)) (fun _ ops draw => y75 P hk call lv n ops draw) (fun _ _ fa fb T h D => y1c fb (fa T h D)) (fun o _ _ fa fb => yj2 o fa fb)
  (fun id _ f T h D => ye4 id (f T h D)) (fun _ f => y93 f lf) (fun _ _ _ _ _ _ _ _ _ => none) (fun id T h D => some (.exit id, T, h, D)) (fun _ _ _ _ _ => none) (fun _ _ _ _ => none) (fun _ _ _ _ => none) (fun T h D => some (.ret, T, h, D)) (fun _ _ _ _ => none) c
noncomputable def resX (g : Nat → Nat → Option kz3) (T : BT V) : ResultVar → Option V
 | .tmp t => some (evT T (.tmp t))
 | .cell a t => z3l P (z0a g (evT T (.tmp a))) t (evT T (.tmp a))
noncomputable def zpg (g : Nat → Nat → Option kz3) (T : BT V) : List ResultVar → Option (List V)
 | [] => some []
 | r :: rs => match resX P g T r, zpg g T rs with
   | some v, some vs => some (v :: vs)
   | _, _ => none
end
section
variable (P : Program) (hk : z8x) (call : zh2) (lv : Nat)
noncomputable def xS (n lf : Nat) (m : z0z) : Code → BT V → XH → Option (zz5 × BT V × XH)
 | .seq a b, T, h => match xS n lf m a T h with
   | some (.normal, T', h') => (match zh9 P hk call lv n lf b T' h' [] with
     | some (e, T2, h2, []) => some (e, T2, h2)
     | _ => none)
   | _ => none
 | .region _ ops draw, T, h => match draw, ops.toList with
   | false, o :: rest => (match isRec o with
     | true => (match zma n T o.dst m.value with
       | some T' => (match yig P hk call lv n ops rest T' h [] with
         | some (e, T2, h2, []) => some (e, T2, h2)
         | _ => none)
       | none => none)
     | false => none)
   | _, _ => none
 | _, _, _ => none
noncomputable def yab (fn : Func) (T : BT V) (h : XH) (m : z0z) : Option (XH × z0z) := match zpg P (xg lv h) T fn.results.toList with
 | some _ => some (h, m)
 | none => none
noncomputable def ymb (lf : Nat) (fn : Func) (b : Code) (vs : List V) (m : z0z) (h : XH) : Option (XH × z0z) := match zh9 P hk call lv fn.ntmps lf b (z9z 0 vs .leaf) h [] with
 | some (.ret, T, h', []) => yab P lv fn T h' m
 | some (.normal, T, h', []) => yab P lv fn T h' m
 | _ => none
noncomputable def xdef (lf f : Nat) (vs : List V) (m : z0z) (h : XH) : Option (XH × z0z) := match P.funcs[f]? with
 | none => none
 | some fn => match fn.body with
   | none => none
   | some b => match (fn.name == "runtime.NumGoroutine") || !(Nat.ble vs.length fn.ntmps) with
     | true => none
     | false => match xS P hk call lv fn.ntmps lf m b (z9z 0 vs .leaf) h with
       | some (.ret, T, h') => yab P lv fn T h' m.z9g
       | some (.normal, T, h') => yab P lv fn T h' m.z9g
       | some _ => none
       | none => ymb P hk call lv lf fn b vs m h
noncomputable def zec (lf : Nat) (fn : Func) (T : BT V) : DL → z0z → XH → Option (Out × XH)
 | [], .ret, h => (match T with
   | .leaf => (match fn.results.toList with
     | [] => some (.ret (z5b []), h)
     | _ :: _ => none)
   | .node _ _ _ => (match zpg P (xg lv h) T fn.results.toList with
     | some vs => some (.ret (z5b vs), h)
     | none => none))
 | [], .pan v false, h => some (.pan v, h)
 | [], .pan _ true, _ => none
 | (f, vs) :: ds, m, h => match xdef P hk call lv lf f vs m h with
   | some (h', m') => zec lf fn T ds m'.settle h'
   | none => none
end
noncomputable def y1i (P : Program) (hk : z8x) (call : zh2) (lf : Nat) (fn : Func) (b : Code) (args : List V) (lv : Nat) (h : XH) : Option (Out × XH) :=
 match zh9 P hk call lv fn.ntmps lf b (z9z 0 args .leaf) h [] with
 | some (.ret, T, h', D) => zec P hk call lv lf fn T D .ret h'
 | some (.normal, T, h', D) => zec P hk call lv lf fn T D .ret h'
 | some (.panic v, T, h', D) => zec P hk call lv lf fn T D (.pan v false) h'
 | _ => none
noncomputable def yg8 (P : Program) (hk : z8x) (call : zh2) (lf K : Nat) (fn : Func) (b : Code) (args : List V) (lv : Nat) : Option Out :=
 match y1i P hk call lf fn b args (Nat.succ lv) ⟨0, .leaf⟩ with
 | some (.ret v, h') => (frz (Nat.succ lv) (xg (Nat.succ lv) h') K v).map .ret
 | some (.pan v, h') => (frz (Nat.succ lv) (xg (Nat.succ lv) h') K v).map .pan
 | none => none
noncomputable def yd3 (P : Program) (hk : z8x) (lf K : Nat) (fl : List Nat) (ih : zh2) : zh2 := fun pure f args lv h => match P.funcs[f]? with
 | none => none
 | some fn => match fn.body with
   | none => none
   | some b => match (fn.name == "runtime.NumGoroutine") || !(Nat.ble args.length fn.ntmps) with
     | true => none
     | false => match zan (V.zio args) (!zd0 f fl) with
       | true => (match yg8 P hk ih lf K fn b args lv with
         | some o => some (o, h)
         | none => (match pure with
           | true => none
           | false => y1i P hk ih lf fn b args lv h))
       | false => (match pure with
         | true => none
         | false => y1i P hk ih lf fn b args lv h)
noncomputable def yfp (P : Program) (hk : z8x) (lf K : Nat) (fl : List Nat) (m : Nat) : zh2 := @Nat.rec (fun _ => zh2) (fun _ _ _ _ _ => none) (fun _ ih => yd3 P hk lf K fl ih) m
end Go.Ab

