/-
  THE TYPED MACHINE: functions that panic, and deferred calls.
-/
import Derived.Test.YtfhpamcehnfhoaaGreatDoorLib5
import Derived.Test.YtfhpamcehnfhoaaGreatDoorLib2
import Derived.Test.YtfhpamcehnfhoaaGreatDoorLib3
import Derived.Test.YtfhpamcehnfhoaaGreatDoorLib1
import Derived.Lib.Bytealg
import Derived.Laws.RangeAny
namespace Go.Ab
open Go
set_option linter.unusedVariables false
set_option linter.unusedSimpArgs false
set_option linter.unusedSectionVars false
section
variable {P : Program} {D : Dat} {F : Fr} {ρ : List Slot} {ts : TS D.T} {σ : St} {lv : Nat} {R X : Type}
theorem yc2 (hD : D.Ok P) (hR : TRr D F ρ ts σ) {pan : Sh} {pos : List OSh} {p : Nat} {z : TV D.T} {v : V} {x : HL D.T (pan.tys ++ z2o pos)} (hp : F.pin.length ≤ p) (hp2 : p ≤ pos.length) (hz : VR D ρ F.lv z v) (h : yj5 D pan pos p z ts = some x) :
  ∃ ρ', TRr D F ρ' ⟨[], z63 D (fun k => k) pos 0 (HL.snd _ x), pos.length, ts.nt, []⟩ σ ∧ VR D ρ' F.lv (zi5 D (fun k => k) pan (HL.fst _ x)) v := by
 unfold yj5 at h
 split at h
 ·rename_i hde
  split at h
  ·rename_i M y hy
   split at h
   ·rename_i M' w hw
    injection h with h; subst h
    obtain ⟨a1, a2, a3⟩ := zjx hD pan hy hz
    obtain ⟨b1, b2, b3, b4⟩ := zlc hD hR pos hw
    have hM : MOk pos.length M' := b2 (a2 ⟨fun k src h => by have := (zhj h).1; omega, fun k k' s h h' => by have e := (zhj h).2; have e' := (zhj h').2; injection e with e; injection e' with e'; omega, fun k src hm => y0a hm⟩)
    obtain ⟨ρ', c1, c2, c3⟩ := yhx hR hM fun j hj => by simpa using b3 j hj
    rw [HL.zln, HL.zlb]
    have place : ∀ s sl i, ρ'[s]? = some sl → sl.k = some i → ∃ s0 o0, fnd M' s = some (.slot s0) ∧ fnd ts.o s0 = some o0 ∧ o0.live ∧ ρ[s0]? = some sl := fun s sl i hs hk => by
     obtain ⟨src, e1, e2⟩ := c3 s sl hs
     cases src with
     | nil => simp only [Src.is] at e2; subst e2; cases hk
     | slot s0 =>
       obtain ⟨src', e3, e4⟩ := b3 s (by rw [← c1]; exact (List.getElem?_eq_some_iff.1 hs).1)
       rw [Nat.zero_add, e1] at e3; injection e3 with e3; subst e3
       obtain ⟨o0, f1, f2⟩ := e4 s0 rfl
       exact ⟨s0, o0, e1, f1, f2, e2⟩
    refine ⟨ρ', ⟨c1, hR.nt, fun j c hj => by simp [fnd] at hj, fun s o ho => ?_, fun s s' o o' sl sl' i h1 h2 l1 l2 r1 r2 k1 k2 => ?_, fun s o sl i h1 l1 r1 k1 => ?_, hR.lv, hR.E, hR.e0, (by have := hR.d; rw [hde] at this; exact this), hR.out, fun j sl hj => ?_⟩, a3 ρ' (b1.agr c2)⟩
    rotate_right
    ·have hlt := (List.getElem?_eq_some_iff.1 hj).1
     obtain ⟨sl', e1, e2⟩ := c2 j _ (b1 _ _ (a1 _ _ (zww (n := p) (k := j) (by omega))))
     simp only [Src.is] at e2
     rw [hR.pin j sl hj] at e2; injection e2 with e2; subst e2; exact e1
    ·obtain ⟨_, _, _, sl, e1, e2⟩ := b4 ρ' c2 s o (z67 ho)
     exact ⟨sl, e1, e2⟩
    ·obtain ⟨s0, o0, d1, d2, d3, d4⟩ := place s sl i r1 k1
     obtain ⟨s1, o1, e1, e2, e3, e4⟩ := place s' sl' i r2 k2
     have := hR.inj s0 s1 o0 o1 sl sl' i d2 e2 d3 e3 d4 e4 k1 k2
     subst this
     exact hM.inj s s' s0 d1 e1
    ·obtain ⟨s0, o0, d1, d2, d3, d4⟩ := place s sl i r1 k1
     exact hR.mine s0 o0 sl i d2 d3 d4 k1
   ·cases h
  ·cases h
 ·cases h
def z65 (lv : Nat) (L : List (Option zz5)) (E : Nat → Nat → Option zz5) (ρ0 : List Slot) (p : Nat) : Fr :=
 ⟨lv, E, E, L, fun i => i < L.length ∧ ∀ (k : Nat) (sl0 : Slot), ρ0[k]? = some sl0 → sl0.k ≠ some i, ρ0.take p⟩
theorem zug {L : List (Option zz5)} {E : Nat → Nat → Option zz5} {ρ0 ρ' : List Slot} {p : Nat} {os : List OSh} {y : HL D.T (z2o os)} {τ : St} (hR : TRr D (z65 lv L E ρ0 p) ρ' ts τ) (ho : ts.o = z63 D (fun k => k) os 0 y) (hnx : ts.nx = os.length) :
  τ.H = ⟨lv, τ.H.L, E⟩ ∧ Left D lv L ρ0 p τ.H.L ρ' os y := by
 have hlen' : ρ'.length = os.length := by rw [hR.nx, hnx]
 have live : ∀ s sl, ρ'[s]? = some sl → ∃ o, fnd ts.o s = some o ∧ o.live := fun s sl hs => by
  rw [ho]; exact zvy os (Nat.zero_le _) (by rw [Nat.zero_add, ← hlen']; exact (List.getElem?_eq_some_iff.1 hs).1)
 refine ⟨zrc (F := z65 lv L E ρ0 p) τ.H hR.lv hR.E, hlen', fun j o hm => ?_, fun s s' sl sl' i r1 r2 c1 c2 => ?_, fun s sl i r1 c1 => ?_, fun i hi hno => hR.out i ⟨hi, hno⟩, fun j sl hj hs => ?_⟩
 ·exact hR.ob j o (by rw [ho]; exact zwf os hm)
 ·obtain ⟨o, a1, a2⟩ := live s sl r1
  obtain ⟨o', b1, b2⟩ := live s' sl' r2
  exact hR.inj s s' o o' sl sl' i a1 b1 a2 b2 r1 r2 c1 c2
 ·obtain ⟨o, a1, a2⟩ := live s sl r1
  have := hR.mine s o sl i a1 a2 r1 c1
  by_cases hlt : i < L.length
  ·right
   by_cases hex : ∃ (k : Nat) (sl0 : Slot), ρ0[k]? = some sl0 ∧ sl0.k = some i
   ·exact hex
   ·exact (this ⟨hlt, fun k sl0 e1 e2 => hex ⟨k, sl0, e1, e2⟩⟩).elim
  ·left; omega
 ·exact hR.pin j sl (by simp only [z65, List.getElem?_take]; rw [if_pos hj]; exact hs)
theorem zxe : ∀ (l : List Sh) (y : HL D.T (Sh.z48 l)), (z5a D (fun k => k) l y).length = l.length
 | [], _ => rfl
 | s :: l, y => by
   show (zi5 D (fun k => k) s (HL.fst _ y) :: z5a D (fun k => k) l (HL.snd _ y)).length = _
   rw [List.length_cons, zxe l, List.length_cons]
structure ydh (D : Dat) (lv : Nat) (L : List (Option zz5)) (ρ0 : List Slot) (args : List Sh) (aos : List OSh) (x : HL D.T (Sh.z48 args ++ z2o aos)) (vargs : List V) : Prop where
 len : ρ0.length = aos.length
 args : VRL D ρ0 lv (z5a D (fun k => k) args (HL.fst _ x)) vargs
 ob : ∀ j o, (j, o) ∈ z63 D (fun k => k) aos 0 (HL.snd _ x) → ∃ sl, ρ0[j]? = some sl ∧ OR D ρ0 lv L sl o
 inj : ∀ (s s' : Nat) (sl sl' : Slot) (i : Nat), ρ0[s]? = some sl → ρ0[s']? = some sl' → sl.k = some i → sl'.k = some i → s = s'
theorem ydh.entry {L : List (Option zz5)} {E : Nat → Nat → Option zz5} {ρ0 : List Slot} {args : List Sh} {aos : List OSh} {x : HL D.T (Sh.z48 args ++ z2o aos)} {vargs : List V} (h : ydh D lv L ρ0 args aos x vargs) (p : Nat) {nt : Nat} (hargs : args.length ≤ nt) :
  TRr D (z65 lv L E ρ0 p) ρ0 (entry D args aos nt x) ⟨vargs ++ List.replicate (nt - vargs.length) .any, ⟨lv, L, E⟩, [], E⟩ := by
 have hvl : vargs.length = args.length := by rw [← h.args.length]; exact zxe _ _
 refine ⟨h.len, by simp only [Ab.entry, List.length_append, List.length_replicate]; omega, zq6 _ h.args, fun s o ho => h.ob s o (z67 ho), fun s s' o o' sl sl' i a1 a2 l1 l2 r1 r2 => h.inj s s' sl sl' i r1 r2, fun s o sl i a1 l1 r1 hk ho => ho.2 s sl r1 hk, rfl, rfl, rfl, rfl, fun i hi => ⟨hi.1, rfl⟩, fun j sl hj => ?_⟩
 simp only [z65, List.getElem?_take] at hj
 split at hj
 ·exact hj
 ·cases hj
def yoy (D : Dat) (lv : Nat) : (m : Option Sh) → HL D.T (zrz m) → z5u → Prop
 | none, _, am => am = .ret
 | some s, x, am => ∃ v, am = .pan v false ∧ VR D [] lv (zi5 D (fun k => k) s x) v
def zhk.Ok (P : Program) (de : zhk D) : Prop := ∀ x mx y, de.go x mx = some y → ∀ (lv : Nat) (L : List (Option zz5)) (E : Nat → Nat → Option zz5) (ρ0 : List Slot) (vargs : List V), ydh D lv L ρ0 de.args de.aos x vargs →
 ∀ (am : z5u), yoy D lv de.m mx am → ∀ (W : World) (g : Gh) (cargs : Array Value) (u : FrameMode), Good W g ⟨lv, L, E⟩ → zl7 W g ⟨lv, L, E⟩ vargs cargs → zl6 W g ⟨lv, L, E⟩ am u →
  (∀ w, (callFunc de.f cargs).run P w = .ok (.enter de.f cargs) w) ∧ CallsD P de.f cargs u W (fun e u' W' => ∃ v L' g' ρ', e = .returned v ∧ Step W g ⟨lv, L, E⟩ W' g' ⟨lv, L', E⟩ ∧ Good W' g' ⟨lv, L', E⟩ ∧ settle u' = .returning ∧ Left D lv L ρ0 de.aos.length L' ρ' de.ros y)
def yot (D : Dat) (ρ : List Slot) (lv : Nat) (z : Option (TV D.T)) (am : z5u) : Prop := match z with
 | none => am = .ret
 | some z => ∃ v, am = .pan v false ∧ VR D ρ lv z v
theorem y6x (hD : D.Ok P) {m : Option Sh} {z : Option (TV D.T)} {mx : HL D.T (zrz m)} (h : yaz D m z = some mx) {am : z5u} (hz : yot D ρ lv z am) : yoy D lv m mx am := by
 cases m with
 | none =>
   cases z with
   | none => exact hz
   | some z => cases h
 | some s =>
   cases z with
   | none => cases h
   | some z =>
     simp only [yaz] at h
     split at h
     · rename_i M x hx
       injection h with h; subst h
       obtain ⟨v, h1, h2⟩ := hz
       obtain ⟨a1, a2, a3⟩ := zjx hD s hx h2
       refine ⟨v, h1, a3 [] fun k src hk => ?_⟩
       have hM := a2 ⟨fun k src h => by simp [fnd] at h, fun k k' s h => by simp [fnd] at h, fun k src h => by cases h⟩
       exact absurd (hM.lt k src hk) (by omega)
     · cases h
theorem y4y {am : z5u} (h : am = .ret ∨ ∃ v, am = .pan v false) : am.ze8.settle = .ret := by
 rcases h with rfl | ⟨v, rfl⟩ <;> rfl
theorem zxk (hD : D.Ok P) {des : List (zhk D)} (hdes : ∀ de ∈ des, de.Ok P) {fn : Func} {tm : Array Value} {k : TS D.T → Option R} {kp : TV D.T → TS D.T → Option R} {r : R} {R' : Ending → World → Prop} {W0 : World} {g0 : Gh} {H0 : kz2}
  (hk : ∀ ts σ ρ a W g, TRr D F ρ ts σ → zzp W a g σ → Step W0 g0 H0 W g σ.H → a.tmps = tm → k ts = some r → ∃ c, (results fn tm).run P W = .ok c W ∧ R' (.returned c) W)
  (hkp : ∀ z ts σ ρ a W g v c, TRr D F ρ ts σ → zzp W a g σ → Step W0 g0 H0 W g σ.H → VR D ρ F.lv z v → Rel W g σ.H v c → kp z ts = some r → R' (.panicked [{ v := c, recovered := false }]) W) :
  ∀ (l : List (Nat × List (TV D.T))) (z : Option (TV D.T)) (am : z5u) (ts : TS D.T) (σ : St) (ρ : List Slot) (a : Act) (W : World) (g : Gh) (u : FrameMode), ts.d = l → TRr D F ρ ts σ → zzp W a g σ → Step W0 g0 H0 W g σ.H → a.tmps = tm → zl6 W g σ.H am u →
   yot D ρ F.lv z am → zef D des k kp l z ts = some r → Leaves P fn tm R' a.defers u W
 | [], z, am, ts, σ, ρ, a, W, g, u, hd, hR, hG, hS, htm, hM, hz, h => by
   have hd0 : σ.d = [] := by have := hR.d; rw [hd] at this; exact this
   have hd1 : a.defers = [] := List.eq_nil_of_length_eq_zero (by rw [hG.dlen, hd0]; rfl)
   rw [hd1]
   cases z with
   | none =>
     have hz : am = .ret := hz
     subst hz
     have hu : u = .returning := hM
     subst hu
     exact hk ts σ ρ a W g hR hG hS htm h
   | some z =>
     obtain ⟨v, rfl, hv⟩ := hz
     obtain ⟨c, h1, h2⟩ := hM
     subst h1
     exact hkp z ts σ ρ a W g v c hR hG hS hv h2 h
 | (f, vs) :: l, z, am, ts, σ, ρ, a, W, g, u, hd, hR, hG, hS, htm, hM, hz, h => by
   simp only [zef] at h
   have hdl := hR.d
   rw [hd] at hdl
   obtain ⟨vargs, s, hs1, hs2, hs3⟩ := hdl
   obtain ⟨caps, as, k1, k2⟩ := hG.defs 0 f vargs (by rw [hs1]; rfl)
   obtain ⟨d0, ds0, hds⟩ : ∃ d0 ds0, a.defers = d0 :: ds0 := by
     cases hq : a.defers with
     | nil => rw [hq] at k1; cases k1
     | cons d0 ds0 => exact ⟨d0, ds0, rfl⟩
   rw [hds] at k1
   simp only [List.getElem?_cons_zero, Option.some.injEq] at k1
   subst k1
   have look : ∀ des' : List (zhk D), (∀ de ∈ des', de ∈ des) → zxa D f vs z ts (fun ts' => zef D des k kp l none { ts' with d := l }) des' = some r → Leaves P fn tm R' a.defers u W := fun des' => by
     induction des' with
     | nil => intro _ h; cases h
     | cons de rest ih =>
       intro hmem h
       have ih := ih fun e he => hmem e (List.mem_cons_of_mem _ he)
       simp only [zxa] at h
       split at h
       · exact ih h
       · rename_i hf
         have hf := Nat.eq_of_beq_eq_true hf
         split at h
         · exact ih h
         · rename_i mx hmx
           split at h
           · rename_i M x hfit
             split at h
             · rename_i hc
               obtain ⟨c1, c2⟩ := hc
               obtain ⟨y, hy, h⟩ := zeb h
               obtain ⟨hMok, ρ0, d1, d2, d3, d4, d5⟩ := Ent.znb hD hR (e := de.ent) hs2 hfit
               have hp : ∀ k, k < de.aos.length → ∃ s, fnd M k = some (.slot s) := fun k hk => by
                 have := List.all_eq_true.1 c2 k (List.mem_range.2 hk)
                 split at this
                 · rename_i s hs; exact ⟨s, hs⟩
                 · cases this
               have hHeap : σ.H = ⟨F.lv, σ.H.L, F.E⟩ := zrc σ.H hR.lv hR.E
               have hgiven : ydh D F.lv σ.H.L ρ0 de.args de.aos x vargs := ⟨d1, d4, d5, zx7 hR hMok d3⟩
               have hde := hdes de (hmem de List.mem_cons_self)
               have hmode : am = .ret ∨ ∃ v, am = .pan v false := by
                 cases z with
                 | none => exact .inl hz
                 | some z => obtain ⟨v, h1, _⟩ := hz; exact .inr ⟨v, h1⟩
               have hG0 := hG.good
               rw [hHeap] at hG0 k2 hM
               obtain ⟨e1, e2⟩ := hde x mx y hy F.lv σ.H.L F.E ρ0 vargs hgiven am (y6x hD hmx hz) W g (as ++ caps) u hG0 k2 hM
               rw [hf] at e1 e2
               rw [hds]
               have hu : u ≠ .run := hM.run
               refine leaves_cons hu (by show (callFunc f (as ++ caps)).run P W = _; exact e1 W) (e2.mono fun e u' W' ⟨v, L', g', ρ', q1, q2, q3, q4, q5⟩ => ?_)
               subst q1
               rw [← hHeap] at q2
               obtain ⟨g1, g2⟩ := TRr.after hR hD hMok d2 d3 (fun k s hm => hMok.one k _ hm) hp c1 q5
               have hR2 : TRr D F (ρ ++ ρ'.drop de.aos.length) { zad D M de.aos.length ts de.ros y with d := l } { σ with H := ⟨F.lv, L', F.E⟩, d := s } := by
                 have hd2 : DfL D ρ F.lv l s := hs3
                 exact ⟨g1.nx, g1.nt, g1.tm, g1.ob, g1.inj, g1.mine, g1.lv, g1.E, g1.e0, hd2.more _, g1.out, g1.pin⟩
               have hG2 : zzp W' { a with defers := ds0 } g' { σ with H := ⟨F.lv, L', F.E⟩, d := s } := by
                 have hl := hG.dlen
                 rw [hds, hs1] at hl
                 refine ⟨q3, hG.size, fun j v hj => (hG.tmps j v hj).mono q2, by simpa using hl, fun j f' vs' hj => ?_⟩
                 obtain ⟨caps', as', z1, z2⟩ := hG.defs (j + 1) f' vs' (by rw [hs1]; simpa using hj)
                 exact ⟨caps', as', by rw [hds] at z1; simpa using z1, z2.mono q2⟩
               exact zxk hD hdes hk hkp l none .ret _ { σ with H := ⟨F.lv, L', F.E⟩, d := s } _ { a with defers := ds0 } W' g' (settle u') rfl hR2 hG2 (hS.trans q2) htm q4 rfl h
             · cases h
           · exact ih h
   exact look des (fun de h => h) h
def EndQP (D : Dat) (F : Fr) {Z : Type} (K : Ks D.T Z) (r : Z) (e : zza) (σ : St) : Prop :=
 match e with
 | .normal => ∃ ts, TR D F ts σ ∧ K.kn ts = some r
 | .ret => ∃ ts, TR D F ts σ ∧ K.kr ts = some r
 | .panic v => ∃ ts ρ z, TRr D F ρ ts σ ∧ VR D ρ F.lv z v ∧ K.kp z ts = some r
 | .exit _ => False
theorem yp9 {Z : Type} {K : Ks D.T Z} (hkx : K.kx = []) {r : Z} : KOk D F K (EndQP D F K r) r :=
 ⟨fun ts σ hT h => ⟨ts, hT, h⟩, fun id k ts σ h => by rw [hkx] at h; simp [fnd] at h, fun ts σ hT h => ⟨ts, hT, h⟩, fun z ts σ ρ v hR hv h => ⟨ts, ρ, z, hR, hv, h⟩⟩
theorem zwo (hD : D.Ok P) {Z : Type} {f p nt : Nat} {args : List Sh} {aos : List OSh} {fn : Func} {code : Code} {l : LSh} {kret : HL D.T l.tys → Z} {kpan : TV D.T → TS D.T → Option Z} {des : List (zhk D)} {go : HL D.T (Sh.z48 args ++ z2o aos) → Option Z} {K : Ks D.T Z}
  (hf : P.funcs[f]? = some fn) (hb : fn.body = some code) (hnt : fn.ntmps = nt) (hent : ∀ args w, (callFunc f args).run P w = .ok (.enter f args) w) (hargs : args.length ≤ nt) (hp1 : p ≤ l.pin) (hp2 : l.pin ≤ l.os.length)
  (hK : K = ⟨fun ts => zef D des (l.enter D (fun x => some (kret x)) 9) kpan ts.d none ts, [], fun ts => zef D des (l.enter D (fun x => some (kret x)) 9) kpan ts.d none ts, fun z ts => zef D des (l.enter D (fun x => some (kret x)) 9) kpan ts.d (some z) ts⟩)
  (hdes : ∀ de ∈ des, de.Ok P) (hrun : y98 P D code p args aos nt K go) {x : HL D.T (Sh.z48 args ++ z2o aos)} {z0 : Z} (hz : go x = some z0) {lv : Nat} {L : List (Option zz5)} {E : Nat → Nat → Option zz5} {ρ0 : List Slot} {vargs : List V} (hg : ydh D lv L ρ0 args aos x vargs) {Post : Out → kz2 → Prop}
  (hret : ∀ y υ ρ', kret y = z0 → TRr D (z65 lv L E ρ0 p) ρ' (l.bld D y) υ → ∃ vs, zws P υ fn.results.toList = some vs ∧ Post (.ret (z9j vs)) υ.H)
  (hpan : ∀ z ts σ ρ v, TRr D (z65 lv L E ρ0 p) ρ ts σ → VR D ρ lv z v → kpan z ts = some z0 → Post (.pan v) σ.H) : zmu P f vargs ⟨lv, L, E⟩ Post := fun W g cargs hG hA => by
 subst hnt
 refine ⟨hent cargs W, calls_of_wp_defers hf hb ?_⟩
 have hpl : (z65 lv L E ρ0 p).pin.length ≤ p := by simp only [z65, List.length_take]; omega
 have hkx : K.kx = [] := by rw [hK]
 have hsat := hrun (z65 lv L E ρ0 p) _ z0 hpl (yp9 (K := K) hkx) x _ (hg.entry (E := E) p hargs).tr hz
 refine wp_mono (hsat W g ⟨lv, L, E⟩ W _ g ⟨hG⟩ ⟨rfl, .refl _ _ _⟩ (zge hG hA)) fun ex a W' ⟨g1, σ, e', q1, q2, q3, q4⟩ => ?_
 let PostE : Ending → World → Prop := fun en W' => ∃ o H' g', Post o H' ∧ Step W g ⟨lv, L, E⟩ W' g' H' ∧ Good W' g' H' ∧ y7x W' g' H' o en
 have done : ∀ (z : Option (TV D.T)) (am : z5u) (u : FrameMode) (ts : TS D.T) (τ : St) (ρ : List Slot) (g2 : Gh), TRr D (z65 lv L E ρ0 p) ρ ts τ → zzp W' a g2 τ → Step W g ⟨lv, L, E⟩ W' g2 τ.H → zl6 W' g2 τ.H am u → yot D ρ lv z am →
   zef D des (l.enter D (fun x => some (kret x)) 9) kpan ts.d z ts = some z0 → Leaves P fn a.tmps PostE a.defers u W' := fun z am u ts τ ρ g2 hR hG2 hS2 hM hz hl => by
  refine zxk (F := z65 lv L E ρ0 p) (R' := PostE) (W0 := W) (g0 := g) (H0 := ⟨lv, L, E⟩) hD hdes (fun ts σ ρ a W2 g2 t1 t2 t3 t4 t5 => ?_) (fun z ts σ ρ a W2 g2 v c t1 t2 t3 t4 t5 t6 => ?_) ts.d z am ts τ ρ a W' g2 u rfl hR hG2 hS2 rfl hM hz hl
  ·obtain ⟨y, hy, υ, ρ', w1, w2⟩ := LSh.zex hD (by omega) hp2 t1.tr t5
   injection hy with hy
   obtain ⟨g3, w3, w4⟩ := w1 W g ⟨lv, L, E⟩ W2 a g2 ⟨hG⟩ ⟨t1.e0, t3⟩ t2
   obtain ⟨vs, r1, r2⟩ := hret y υ ρ' hy w2
   obtain ⟨c, z1, z2⟩ := z7o (P := P) (fn := fn) (v := z9j vs) w4 (by simp only [z6n, r1, Option.map_some])
   rw [t4] at z1
   exact ⟨c, z1, .ret (z9j vs), υ.H, g3, r2, w3.2, w4.good, c, rfl, z2⟩
  ·exact ⟨.pan v, σ.H, g2, hpan z ts σ ρ v t1 t4 t6, t3, t2.good, c, rfl, t5⟩
 have back : ∀ {ts : TS D.T}, TR D (z65 lv L E ρ0 p) ts σ → zef D des (l.enter D (fun x => some (kret x)) 9) kpan ts.d none ts = some z0 → Leaves P fn a.tmps PostE a.defers .returning W' := fun {ts} hT hl => by
  obtain ⟨τ, ρ, w1, w2⟩ := hT
  obtain ⟨g2, w3, w4⟩ := w1 W g ⟨lv, L, E⟩ W' a g1 ⟨hG⟩ q2 q3
  exact done none .ret .returning ts τ ρ g2 w2 w4 w3.2 rfl rfl hl
 subst hK
 cases q1 with
 | normal => obtain ⟨ts, hT, hl⟩ := q4; exact back hT hl
 | ret => obtain ⟨ts, hT, hl⟩ := q4; exact back hT hl
 | exit id => exact q4.elim
 | panic v c hr =>
   obtain ⟨ts, ρ, z, hR, hv, hl⟩ := q4
   exact done (some z) (.pan v false) _ ts σ ρ g1 hR q3 q2.2 ⟨c, rfl, hr⟩ ⟨v, rfl, hv⟩ hl
theorem ymk (hD : D.Ok P) {e : Ent D} {fn : Func} {code : Code} {nt : Nat} {l : LSh} {pack : HL D.T l.tys → R} {un : R → HL D.T (Sh.z48 e.outs ++ z2o e.ros)} {des : List (zhk D)}
  {go : HL D.T (Sh.z48 e.args ++ z2o e.aos) → Option (Res (HL D.T (e.pan.tys ++ z2o e.pos)) R)}
  (hf : P.funcs[e.f]? = some fn) (hb : fn.body = some code) (hnt : fn.ntmps = nt) (hent : ∀ args w, (callFunc e.f args).run P w = .ok (.enter e.f args) w) (hargs : e.args.length ≤ nt)
  (hgo : ∀ (R' : Type) (x : HL D.T (Sh.z48 e.args ++ z2o e.aos)) (k : HL D.T (Sh.z48 e.outs ++ z2o e.ros) → Option R') (kp : HL D.T (e.pan.tys ++ z2o e.pos) → Option R'), e.go x k kp = (go x).bind fun o => z8s o (fun r => k (un r)) (fun y => kp y))
  (hpure : e.pure = false) (hren : e.ren = []) (hp1 : e.p ≤ l.pin) (hp2 : l.pin ≤ l.os.length) (hlen : l.os.length = e.ros.length) (hp3 : e.p ≤ e.pos.length)
  (hout : ∀ x, zx0 P D (l.bld D x) fn.results.toList = some (z5a D (fun k => k) e.outs (HL.fst _ (un (pack x)))) ∧ (l.bld D x).o = z63 D (fun k => k) e.ros 0 (HL.snd _ (un (pack x))))
  (hdes : ∀ de ∈ des, de.Ok P) (hrun : y98 P D code e.p e.args e.aos nt (ykk D des l pack e.pan e.pos e.p (fun y => y)) go) : e.Ok P := fun R' x k kp r h => by
 rw [hpure]
 rw [hgo] at h
 obtain ⟨o0, h1, h2⟩ := zqn h
 cases o0 with
 | ok r0 =>
   refine .inl ⟨un r0, h2, fun lv L E ρ0 vargs k1 k2 k3 k4 => zwo (p := e.p) hD hf hb hnt hent hargs hp1 hp2 rfl hdes hrun h1 ⟨k1, k2, k3, k4⟩ (fun y υ ρ' hy w2 => ?_) fun z ts σ ρ v _ _ hk => ?_⟩
   · injection hy with hy
     subst hy
     obtain ⟨o1, o2⟩ := hout y
     obtain ⟨vs, r1, r2⟩ := zg9 hD w2 o1
     obtain ⟨l1, l2⟩ := zug w2 o2 hlen
     exact ⟨vs, r1, υ.H.L, ρ', l1, l2, (by rw [hren]; intro q hq; cases hq), vs, rfl, r2⟩
   · unfold yo3 at hk
     split at hk <;> cases hk
 | pan y0 =>
   refine .inr ⟨y0, h2, fun lv L E ρ0 vargs k1 k2 k3 k4 => zwo (p := e.p) hD hf hb hnt hent hargs hp1 hp2 rfl hdes hrun h1 ⟨k1, k2, k3, k4⟩ (fun y υ ρ' hy w2 => (by cases hy)) fun z ts σ ρ v t1 t4 hk => ?_⟩
   unfold yo3 at hk
   split at hk
   · rename_i y hy
     injection hk with hk; injection hk with hk
     subst hk
     have hpl : (z65 lv L E ρ0 e.p).pin.length ≤ e.p := by simp only [z65, List.length_take]; omega
     obtain ⟨ρ', w1, w2⟩ := yc2 hD t1 hpl hp3 t4 hy
     obtain ⟨l1, l2⟩ := zug w1 rfl rfl
     exact ⟨σ.H.L, ρ', l1, l2, v, rfl, w2⟩
   · cases hk
theorem yog (hD : D.Ok P) {e : Ent D} {fn : Func} {code : Code} {nt : Nat} {l : LSh} {pack : HL D.T l.tys → R} {un : R → HL D.T (Sh.z48 e.outs ++ z2o e.ros)} {des : List (zhk D)} {go : HL D.T (Sh.z48 e.args ++ z2o e.aos) → Option R}
  (hf : P.funcs[e.f]? = some fn) (hb : fn.body = some code) (hnt : fn.ntmps = nt) (hent : ∀ args w, (callFunc e.f args).run P w = .ok (.enter e.f args) w) (hargs : e.args.length ≤ nt)
  (hgo : ∀ (R' : Type) (x : HL D.T (Sh.z48 e.args ++ z2o e.aos)) (k : HL D.T (Sh.z48 e.outs ++ z2o e.ros) → Option R') (kp : HL D.T (e.pan.tys ++ z2o e.pos) → Option R'), e.go x k kp = (go x).bind fun r => k (un r))
  (hpure : e.pure = false) (hren : e.ren = []) (hp1 : e.p ≤ l.pin) (hp2 : l.pin ≤ l.os.length) (hlen : l.os.length = e.ros.length)
  (hout : ∀ x, zx0 P D (l.bld D x) fn.results.toList = some (z5a D (fun k => k) e.outs (HL.fst _ (un (pack x)))) ∧ (l.bld D x).o = z63 D (fun k => k) e.ros 0 (HL.snd _ (un (pack x))))
  (hdes : ∀ de ∈ des, de.Ok P) (hrun : y98 P D code e.p e.args e.aos nt (ykl D des l pack) go) : e.Ok P := fun R' x k kp r h => by
 rw [hpure]
 rw [hgo] at h
 obtain ⟨r0, h1, h2⟩ := zqn h
 refine .inl ⟨un r0, h2, fun lv L E ρ0 vargs k1 k2 k3 k4 => zwo (p := e.p) hD hf hb hnt hent hargs hp1 hp2 rfl hdes hrun h1 ⟨k1, k2, k3, k4⟩ (fun y υ ρ' hy w2 => ?_) fun z ts σ ρ v _ _ hk => (by cases hk)⟩
 subst hy
 obtain ⟨o1, o2⟩ := hout y
 obtain ⟨vs, r1, r2⟩ := zg9 hD w2 o1
 obtain ⟨l1, l2⟩ := zug w2 o2 hlen
 exact ⟨vs, r1, υ.H.L, ρ', l1, l2, (by rw [hren]; intro q hq; cases hq), vs, rfl, r2⟩
theorem ymb (hD : D.Ok P) {f : Nat} {fn : Func} {code : Code} {nt : Nat} {args : List Sh} {aos ros : List OSh} {l : LSh} {pack : HL D.T l.tys → R} {un : R → HL D.T (z2o ros)} {go : HL D.T (Sh.z48 args ++ z2o aos) → Option R}
  (hf : P.funcs[f]? = some fn) (hb : fn.body = some code) (hnt : fn.ntmps = nt) (hent : ∀ args w, (callFunc f args).run P w = .ok (.enter f args) w) (hargs : args.length ≤ nt)
  (hp1 : aos.length ≤ l.pin) (hp2 : l.pin ≤ l.os.length) (hlen : l.os.length = ros.length) (hres : fn.results.toList = []) (hout : ∀ x, (l.bld D x).o = z63 D (fun k => k) ros 0 (un (pack x)))
  (hrun : y98 P D code aos.length args aos nt (zx2 D l pack) go) : zhk.Ok P { f := f, args := args, aos := aos, m := none, ros := ros, go := fun x _ => (go x).bind fun r => some (un r) } := fun x mx y hgo lv L E ρ0 vargs hg am hm W g cargs u hG hA hM => by
 obtain ⟨r, h1, h2⟩ := zqn hgo
 injection h2 with h2
 have hm : am = .ret := hm
 subst hm
 have hu : u = .returning := hM
 subst hu
 subst hnt
 refine ⟨fun w => hent cargs w, (callsD_of_wp (R := fun e W' => ∃ v L' g' ρ', e = .returned v ∧ Step W g ⟨lv, L, E⟩ W' g' ⟨lv, L', E⟩ ∧ Good W' g' ⟨lv, L', E⟩ ∧ Left D lv L ρ0 aos.length L' ρ' ros y) hf hb ?_).mono fun e u' W' ⟨q1, v, L', g', ρ', q2, q3, q4, q5⟩ => ⟨v, L', g', ρ', q2, q3, q4, by rw [q1]; rfl, q5⟩⟩
 have hpl : (z65 lv L E ρ0 aos.length).pin.length ≤ aos.length := by simp only [z65, List.length_take]; omega
 refine wp_mono (hrun (z65 lv L E ρ0 aos.length) _ r hpl (y07 hD (by omega) hp2) x _ (hg.entry (E := E) aos.length hargs).tr h1 W g ⟨lv, L, E⟩ W _ g ⟨hG⟩ ⟨rfl, .refl _ _ _⟩ (zge hG hA)) fun ex a W' ⟨g1, σ, e', q1, q2, q3, q4⟩ => ?_
 have key : (∃ x, pack x = r ∧ TR D (z65 lv L E ρ0 aos.length) (l.bld D x) σ) → a.defers = [] ∧ ∃ v, (results fn a.tmps).run P W' = .ok v W' ∧ ∃ v' L' g' ρ', Ending.returned v = .returned v' ∧ Step W g ⟨lv, L, E⟩ W' g' ⟨lv, L', E⟩ ∧ Good W' g' ⟨lv, L', E⟩ ∧ Left D lv L ρ0 aos.length L' ρ' ros y := fun ⟨z, hz, υ, ρ', w1, w2⟩ => by
  subst hz
  obtain ⟨g3, w3, w4⟩ := w1 W g ⟨lv, L, E⟩ W' a g1 ⟨hG⟩ q2 q3
  obtain ⟨c, z1, z2⟩ := z7o (P := P) (fn := fn) (v := z9j []) w4 (by simp only [z6n, hres, zws, Option.map_some])
  obtain ⟨l1, l2⟩ := zug w2 (hout z) hlen
  have hd : υ.d = [] := w2.d
  rw [h2] at l2
  have w5 := w3.2
  have w6 := w4.good
  rw [l1] at w5 w6
  exact ⟨List.eq_nil_of_length_eq_zero (by rw [w4.dlen, hd]; rfl), c, z1, c, υ.H.L, g3, ρ', rfl, w5, w6, l2⟩
 cases q1 with
 | normal => exact key q4
 | ret => exact key q4
 | exit id => exact q4.elim
 | panic v c hr => exact q4.elim
def mvOf (D : Dat) : (m : Option Sh) → HL D.T (zrz m) → TV D.T
 | none, _ => .nili
 | some s, x => zi5 D (fun k => k) s x
theorem yls {tbl : List (Ent D)} {J : Nat → TS D.T → Option R} {mv : TV D.T} {c : AC} {K : Ks D.T R} {r : R} (h : runS D P tbl J mv c ts K = some r) :
  ∃ id ops b o rest ts1, c = .seq (.region id ops false) b ∧ ops.toList = o :: rest ∧ isRec o = true ∧ ts.put D o.dst mv = some ts1 ∧ zo0 P D tbl ops.toList (fun ts => run P D tbl J b ts K) K.kp rest ts1 = some r := by
 unfold runS at h
 split at h
 ·split at h
  ·rename_i hl
   split at h
   ·rename_i hrec
    split at h
    ·rename_i ts1 hput
     exact ⟨_, _, _, _, _, ts1, rfl, hl, hrec, hput, h⟩
    ·cases h
   ·cases h
  ·cases h
 ·cases h
theorem zvt (hm : P.follows .mixedOrders = true) (hD : D.Ok P) {f : Nat} {fn : Func} {c : AC} {nt : Nat} {args : List Sh} {aos ros : List OSh} {m : Option Sh} {l : LSh} {pack : HL D.T l.tys → R} {un : R → HL D.T (z2o ros)} {go : HL D.T (Sh.z48 args ++ z2o aos) → HL D.T (zrz m) → Option R}
  (hf : P.funcs[f]? = some fn) (hb : fn.body = some c.erase) (hnt : fn.ntmps = nt) (hent : ∀ args w, (callFunc f args).run P w = .ok (.enter f args) w) (hargs : args.length ≤ nt)
  (hp1 : aos.length ≤ l.pin) (hp2 : l.pin ≤ l.os.length) (hlen : l.os.length = ros.length) (hres : fn.results.toList = []) (hlab : c.labels = []) (hmode : (match m with | some (.iface _ _) => true | some _ => false | none => true) = true) (hout : ∀ x, (l.bld D x).o = z63 D (fun k => k) ros 0 (un (pack x)))
  (hgo : ∀ x mx, go x mx = runS D P [] (fun _ _ => none) (mvOf D m mx) c (entry D args aos nt x) (zx2 D l pack)) : zhk.Ok P { f := f, args := args, aos := aos, m := m, ros := ros, go := fun x mx => (go x mx).bind fun r => some (un r) } := fun x mx y hgo' lv L E ρ0 vargs hg am ham W g cargs u hG hA hM => by
 obtain ⟨r, h1, h2⟩ := zqn hgo'
 injection h2 with h2
 subst hnt
 rw [hgo] at h1
 refine ⟨fun w => hent cargs w, callsD_of_wpS hf hb fun c₀ cs hu => ?_⟩
 let F := z65 lv L E ρ0 aos.length
 have hpl : F.pin.length ≤ aos.length := by simp only [F, z65, List.length_take]; omega
 have hK : KOk D F (zx2 D l pack) (y8k D F l pack r) r := y07 hD (by omega) hp2
 have hR0 : TRr D F ρ0 (entry D args aos fn.ntmps x) _ := hg.entry (E := E) aos.length hargs
 have hmv : VR D ρ0 F.lv (mvOf D m mx) am.value := by
  cases m with
  | none => have ham : am = .ret := ham; subst ham; simp only [mvOf, z5u.value, VR]
  | some s => obtain ⟨v, h3, h4⟩ := ham; subst h3; exact (h4.more ρ0 : VR D ([] ++ ρ0) lv _ v)
 obtain ⟨id, ops, b, o, rest, ts1, rfl, hl, hrec, hput, h1⟩ := yls h1
 have ho : ops[0]? = some o := by
  have := congrArg (fun x => x[0]?) hl
  simpa using this
 have hsz : ops.size = rest.length + 1 := by
  have := congrArg List.length hl
  simpa using this
 have hlab' : b.labels = [] := by
  simp only [AC.labels, List.nil_append] at hlab; exact hlab
 have z8b : zx1 P (LOk P D F (fun _ _ => none) r) b (y8k D F l pack r) := zgw (by rw [hlab']; exact .nil) fun l' a Q' hs => by
  have := zab hs; rw [hlab'] at this; cases this
 have behind : ∀ (σ' : St) (ts' : TS D.T) (ρ' : List Slot), TRr D F ρ' ts' σ' → run P D [] (fun _ _ => none) b ts' (zx2 D l pack) = some r → ∀ (W' : World) (a' : Act) (g' : Gh) (u' : FrameMode), Step W g ⟨lv, L, E⟩ W' g' σ'.H → zzp W' a' g' σ' → zl6 W' g' σ'.H am.ze8 u' →
   b.erase.wpS P (znp W g ⟨lv, L, E⟩ c₀ cs (y8k D F l pack r) am.ze8) a' ({ c₀ with mode := u' } :: cs) W' := fun σ' ts' ρ' hR' hrun W' a' g' u' hS' hG' hM' => by
  have hs := z8g (J := fun _ _ => none) (tbl := []) (c := b) hD (fun e he => by cases he) hK z8b hR'.tr hrun
  refine wpS_of_wp (wp_mono (hs W' g' σ'.H W' a' g' ⟨hG'.good⟩ ⟨by rw [hR'.e0, hR'.E]; rfl, .refl _ _ _⟩ hG') fun e a'' W'' ⟨g'', σ'', e'', q1, q2, q3, q4⟩ => ?_)
  exact ⟨g'', σ'', e'', u', q1, ⟨by rw [q2.1, hR'.E]; rfl, hS'.trans q2.2⟩, q3, rfl, hM'.mono q2.2, q4⟩
 have fin : ∀ a0 : Act, zzp W a0 g ⟨vargs ++ List.replicate (fn.ntmps - vargs.length) .any, ⟨lv, L, E⟩, [], E⟩ → (AC.seq (.region id ops false) b).erase.wpS P (znp W g ⟨lv, L, E⟩ c₀ cs (y8k D F l pack r) am.ze8) a0 (c₀ :: cs) W := fun a0 hG0 => by
  refine wpS_seq (wpS_region ?_)
  rw [List.range_eq_range', hsz, List.range'_succ]
  simp only [wpOpsS, ho]
  unfold isRec at hrec
  split at hrec
  ·rename_i cl hop
   split at hrec
   ·rename_i hcal
    simp only [Bool.and_eq_true, Option.isNone_iff_eq_none, Array.isEmpty_iff] at hrec
    have hwant : Region.wanted o (yielded ops a0.tmps) = true := by unfold Region.wanted; rw [hrec.1]
    have hex : (execOp a0.eval o).run P W = .ok .recover W := by
     unfold execOp
     rw [hop]
     obtain ⟨callee, as, argTypes⟩ := cl
     simp only at hcal hrec
     obtain ⟨_, rfl⟩ := hrec
     subst hcal
     simp [resolve, invoke, builtin]
    rw [if_pos hwant, hex]
    simp only
    have rest' : ∀ (cv : Value) (u' : FrameMode), Rel W g ⟨lv, L, E⟩ am.value cv → zl6 W g ⟨lv, L, E⟩ am.ze8 u' → wpOpsS P ops (Exit.thenS (b.erase.wpS P (znp W g ⟨lv, L, E⟩ c₀ cs (y8k D F l pack r) am.ze8)) (znp W g ⟨lv, L, E⟩ c₀ cs (y8k D F l pack r) am.ze8)) (List.range' (0 + 1) rest.length) (a0.put o.dst cv) ({ c₀ with mode := u' } :: cs) W := fun cv u' hv hM' => by
     have hR1 := hR0.put hput hmv
     have hG1 : zzp W (a0.put o.dst cv) g (St.put ⟨vargs ++ List.replicate (fn.ntmps - vargs.length) .any, ⟨lv, L, E⟩, [], E⟩ o.dst am.value) := hG0.next (.refl _ _ _) hG0.good hv o.dst
     have hs := zfo (Q := fun e σ' => e = .normal ∧ ∃ ts' ρ', TRr D F ρ' ts' σ' ∧ run P D [] (fun _ _ => none) b ts' (zx2 D l pack) = some r) hD (tbl := []) (r := r) (fun e he => by cases he) (fun ts' σ' ρ' hR' hk => ⟨rfl, ts', ρ', hR', hk⟩) (fun z ts' σ' ρ' v _ _ hk => by cases hk) rest 1 (fun j => by
      have := congrArg (fun x => x[1 + j]?) hl
      simpa [Nat.add_comm 1 j] using this.symm) hR1 h1
     have hH : (St.put ⟨vargs ++ List.replicate (fn.ntmps - vargs.length) .any, ⟨lv, L, E⟩, [], E⟩ o.dst am.value).H = ⟨lv, L, E⟩ := by cases o.dst <;> rfl
     have he : (St.put ⟨vargs ++ List.replicate (fn.ntmps - vargs.length) .any, ⟨lv, L, E⟩, [], E⟩ o.dst am.value).e0 = E := by cases o.dst <;> rfl
     have hs2 := hs W g ⟨lv, L, E⟩ W (a0.put o.dst cv) g ⟨hG⟩ ⟨by rw [he], by rw [hH]; exact .refl _ _ _⟩ hG1
     rw [show ops.size - 1 = rest.length by omega] at hs2
     refine zn8 (Q := Exit.thenS (b.erase.wpS P (znp W g ⟨lv, L, E⟩ c₀ cs (y8k D F l pack r) am.ze8)) (znp W g ⟨lv, L, E⟩ c₀ cs (y8k D F l pack r) am.ze8)) (fun a w h => znp.out h) _ _ _ (zkl (fun e a' W' ⟨g', σ', e', q1, q2, q3, q4⟩ => ?_) _ _ _ hs2)
     obtain ⟨rfl, ts', ρ', q5, q6⟩ := q4
     cases q1
     exact behind σ' ts' ρ' q5 q6 W' a' g' u' q2.2 q3 (hM'.mono q2.2)
    cases am with
    | ret =>
      have hmd : c₀.mode = .returning := by rw [hu]; exact hM
      have hrd : recoverD (c₀ :: cs) = none := by simp [recoverD, hmd]
      rw [hrd]
      exact rest' .nilIface c₀.mode .nili hmd
    | pan v rc =>
      have hrc : rc = false := by
        cases m with
        | none => cases (show z5u.pan v rc = .ret from ham)
        | some s => obtain ⟨v', h3, _⟩ := ham; injection h3
      subst hrc
      obtain ⟨cv, h3, h4⟩ := hM
      have h3 : c₀.mode = _ := hu.trans h3
      have hrd : recoverD (c₀ :: cs) = some (cv, { c₀ with mode := .panicking [{ v := cv, recovered := true }] } :: cs) := by simp [recoverD, h3]
      rw [hrd]
      exact rest' cv _ h4 ⟨cv, rfl, h4⟩
   ·cases hrec
  ·cases hrec
 refine y0k (fin _ (zge hG hA)) fun ex a' cs' W' ⟨g', σ', e', u', q1, q2, q3, q4, q5, q6⟩ => ?_
 subst q4
 have hmode : am = .ret ∨ ∃ v, am = .pan v false := by
  cases m with
  | none => exact .inl ham
  | some s => obtain ⟨v, h3, _⟩ := ham; exact .inr ⟨v, h3⟩
 have hset := q5.settle
 rw [y4y hmode] at hset
 have key : (∃ x, pack x = r ∧ TR D F (l.bld D x) σ') → a'.defers = [] ∧ ∃ u'', ({ c₀ with mode := u' } :: cs : List Frame) = { c₀ with mode := u'' } :: cs ∧ ∃ v, (results fn a'.tmps).run P W' = .ok v W' ∧ ∃ v' L' g' ρ', Ending.returned v = .returned v' ∧ Step W g ⟨lv, L, E⟩ W' g' ⟨lv, L', E⟩ ∧ Good W' g' ⟨lv, L', E⟩ ∧ settle u'' = .returning ∧ Left D lv L ρ0 aos.length L' ρ' ros y := fun ⟨z, hz, υ, ρ', w1, w2⟩ => by
  subst hz
  obtain ⟨g3, w3, w4⟩ := w1 W g ⟨lv, L, E⟩ W' a' g' ⟨hG⟩ q2 q3
  obtain ⟨c, z1, z2⟩ := z7o (P := P) (fn := fn) (v := z9j []) w4 (by simp only [z6n, hres, zws, Option.map_some])
  obtain ⟨l1, l2⟩ := zug w2 (hout z) hlen
  have hd : υ.d = [] := w2.d
  rw [h2] at l2
  have w5 := w3.2
  have w6 := w4.good
  rw [l1] at w5 w6
  exact ⟨List.eq_nil_of_length_eq_zero (by rw [w4.dlen, hd]; rfl), u', rfl, c, z1, c, υ.H.L, g3, ρ', rfl, w5, w6, hset, l2⟩
 cases q1 with
 | normal => exact key q6
 | ret => exact key q6
 | exit id => exact q6.elim
 | panic v c hr => exact q6.elim
def FI.ofP (D : Dat) (f nt p : Nat) (args : List Sh) (aos : List OSh) (outs : List Sh) (ros : List OSh) (pan : Sh) (pos : List OSh) (des : List (zhk D)) (l : LSh) {R : Type} (pack : HL D.T l.tys → R) (un : R → HL D.T (Sh.z48 outs ++ z2o ros))
  (go : Nat → HL D.T (Sh.z48 args ++ z2o aos) → Option (Res (HL D.T (pan.tys ++ z2o pos)) R)) (z8b : Nat → List (Nat × Lb D (Res (HL D.T (pan.tys ++ z2o pos)) R))) (c : AC) : FI D :=
 { R := Res (HL D.T (pan.tys ++ z2o pos)) R, ent := fun n => { f := f, p := p, args := args, aos := aos, outs := outs, ros := ros, pan := pan, pos := pos, pure := false, go := fun x k kp => (go n x).bind fun o => z8s o (fun r => k (un r)) (fun y => kp y) },
   c := c, K := ykk D des l pack pan pos p (fun y => y), p := p, args := args, aos := aos, nt := nt, z8b := z8b, go := go }
def y7f (P : Program) : List (zhk D) → Prop
 | [] => True
 | d :: l => d.Ok P ∧ y7f P l
theorem y7f.get : ∀ {l : List (zhk D)}, y7f P l → ∀ d ∈ l, d.Ok P
 | d :: l, h, e, he => by
   rcases List.mem_cons.1 he with rfl | he
   · exact h.1
   · exact y7f.get h.2 e he
def chkP (p nt : Nat) (args : List Sh) (ros pos : List OSh) (l : LSh) : Bool :=
 Nat.ble args.length nt && Nat.ble p l.pin && Nat.ble l.pin l.os.length && Nat.beq l.os.length ros.length && Nat.ble p pos.length
theorem FI.znn {hD : D.Ok P} {f nt p : Nat} {args : List Sh} {aos : List OSh} {outs : List Sh} {ros : List OSh} {pan : Sh} {pos : List OSh} {des : List (zhk D)} {l : LSh} {pack : HL D.T l.tys → R} {un : R → HL D.T (Sh.z48 outs ++ z2o ros)}
  {go : Nat → HL D.T (Sh.z48 args ++ z2o aos) → Option (Res (HL D.T (pan.tys ++ z2o pos)) R)} {z8b : Nat → List (Nat × Lb D (Res (HL D.T (pan.tys ++ z2o pos)) R))} {c : AC} {tbl : Nat → List (Ent D)} {fn : Func}
  (hf : P.funcs[f]? = some fn) (hnt : fn.ntmps = nt) (hent : ∀ args w, (callFunc f args).run P w = .ok (.enter f args) w)
  (hb : fn.body = some c.erase) (hnd : c.labels.Nodup) (hchk : chkP p nt args ros pos l = true) (hp : ∀ n, y7w p (z8b n) = true) (hdes : y7f P des)
  (hout : ∀ x, zx0 P D (l.bld D x) fn.results.toList = some (z5a D (fun k => k) outs (HL.fst _ (un (pack x)))))
  (hz : ∀ x, go 0 x = none) (hlz : y0b (fun _ lb => ∀ x, lb.go x = none) (z8b 0))
  (hs : ∀ n x, go (n + 1) x = run P D (tbl n) (jump D (z8b n)) c (entry D args aos nt x) (ykk D des l pack pan pos p (fun y => y)))
  (hls : ∀ n, y0b (fun j lb => ∀ x, lb.go x = y34 P D (tbl n) (jump D (z8b n)) j c (ykk D des l pack pan pos p (fun y => y)) (lb.sh.bld D x)) (z8b (n + 1)))
  (hros : ∀ x, (l.bld D x).o = z63 D (fun k => k) ros 0 (HL.snd _ (un (pack x)))) :
  (FI.ofP D f nt p args aos outs ros pan pos des l pack un go z8b c).Good P D tbl where
 nodup := hnd
 zero := hz
 lzero := fun j lb x h => hlz.get (z67 h) x
 pins := fun n j lb h => (zs6 (hp n)).get (z67 h)
 step := hs
 lstep := fun n j lb x h => (hls n).get (z67 h) x
 ok := fun n h => by
  simp only [chkP, Bool.and_eq_true, Nat.ble_eq] at hchk
  obtain ⟨⟨⟨⟨h1, h2⟩, h3⟩, h4⟩, h5⟩ := hchk
  exact ymk (l := l) (pack := pack) (un := un) (go := go n) (code := c.erase) (des := des) hD hf hb hnt hent h1 (fun _ _ _ _ => rfl) rfl rfl h2 h3 (Nat.eq_of_beq_eq_true h4) h5 (fun x => ⟨hout x, hros x⟩) hdes.get h
def FI.ofD (D : Dat) (f nt p : Nat) (args : List Sh) (aos : List OSh) (outs : List Sh) (ros : List OSh) (des : List (zhk D)) (l : LSh) {R : Type} (pack : HL D.T l.tys → R) (un : R → HL D.T (Sh.z48 outs ++ z2o ros))
  (go : Nat → HL D.T (Sh.z48 args ++ z2o aos) → Option R) (z8b : Nat → List (Nat × Lb D R)) (c : AC) : FI D :=
 { R := R, ent := fun n => { f := f, p := p, args := args, aos := aos, outs := outs, ros := ros, pan := .nilp, pos := ros, pure := false, go := fun x k _ => (go n x).bind fun r => k (un r) },
   c := c, K := ykl D des l pack, p := p, args := args, aos := aos, nt := nt, z8b := z8b, go := go }
theorem FI.zno {hD : D.Ok P} {f nt p : Nat} {args : List Sh} {aos : List OSh} {outs : List Sh} {ros : List OSh} {des : List (zhk D)} {l : LSh} {pack : HL D.T l.tys → R} {un : R → HL D.T (Sh.z48 outs ++ z2o ros)}
  {go : Nat → HL D.T (Sh.z48 args ++ z2o aos) → Option R} {z8b : Nat → List (Nat × Lb D R)} {c : AC} {tbl : Nat → List (Ent D)} {fn : Func}
  (hf : P.funcs[f]? = some fn) (hnt : fn.ntmps = nt) (hent : ∀ args w, (callFunc f args).run P w = .ok (.enter f args) w)
  (hb : fn.body = some c.erase) (hnd : c.labels.Nodup) (hchk : chkB p nt args outs aos ros false l c = true) (hp : ∀ n, y7w p (z8b n) = true) (hdes : y7f P des)
  (hout : ∀ x, zx0 P D (l.bld D x) fn.results.toList = some (z5a D (fun k => k) outs (HL.fst _ (un (pack x)))))
  (hz : ∀ x, go 0 x = none) (hlz : y0b (fun _ lb => ∀ x, lb.go x = none) (z8b 0))
  (hs : ∀ n x, go (n + 1) x = run P D (tbl n) (jump D (z8b n)) c (entry D args aos nt x) (ykl D des l pack))
  (hls : ∀ n, y0b (fun j lb => ∀ x, lb.go x = y34 P D (tbl n) (jump D (z8b n)) j c (ykl D des l pack) (lb.sh.bld D x)) (z8b (n + 1)))
  (hros : ∀ x, (l.bld D x).o = z63 D (fun k => k) ros 0 (HL.snd _ (un (pack x)))) :
  (FI.ofD D f nt p args aos outs ros des l pack un go z8b c).Good P D tbl where
 nodup := hnd
 zero := hz
 lzero := fun j lb x h => hlz.get (z67 h) x
 pins := fun n j lb h => (zs6 (hp n)).get (z67 h)
 step := hs
 lstep := fun n j lb x h => (hls n).get (z67 h) x
 ok := fun n h => by
  simp only [chkB, Bool.and_eq_true, Nat.ble_eq] at hchk
  obtain ⟨⟨⟨h1, h2⟩, h3⟩, h4⟩ := hchk
  exact yog (l := l) (pack := pack) (un := un) (go := go n) (code := c.erase) (des := des) hD hf hb hnt hent h1 (fun _ _ _ _ => rfl) rfl rfl h2 h3 (Nat.eq_of_beq_eq_true h4) (fun x => ⟨hout x, hros x⟩) hdes.get h
theorem ypg (hD : D.Ok P) {f : FI D} {t : List (FI D)} (h : f.Good P D (tb t)) (hok : OkL P t) (n : Nat) : y98 P D f.c.erase f.p f.args f.aos f.nt f.K (f.go n) :=
 h.runs hD n fun m _ e he => by
  obtain ⟨b, hm, rfl⟩ := List.mem_map.1 he
  exact hok.get hm m
end
theorem zzb {P : Program} {D : Dat} (hD : D.Ok P) {f : FI D} {bs : List (FI D)} (hb : OkL P bs) (h : f.Good P D (tb bs)) : OkL P [f] :=
 ⟨fun n => h.ok n (h.runs hD n fun m _ e he => by
  obtain ⟨b, hm, rfl⟩ := List.mem_map.1 he
  exact hb.get hm m), trivial⟩
end Go.Ab


namespace Go.Ab
open Go
set_option linter.unusedVariables false
theorem yqa {α : Type} (l : List α) (k : Nat) : ix l (k : Int) = l[k]? := by simp [ix]
theorem wrk {k : Nat} (h : k ≤ 4611686018427387904) : IntKind.i64.wrap ((k : Int) + 1) = ((k + 1 : Nat) : Int) := by rw [wr1 h]; rfl
theorem z0u {α : Type} {l : List α} {k : Nat} (h : k < l.length) : ix l (k : Int) = some l[k] := by rw [yqa, List.getElem?_eq_getElem h]
theorem yi0 {x y : List UInt8} (h : x.length + y.length ≤ 16777216) : cat x y = some (x ++ y) := by unfold cat; rw [if_pos]; simp [maxLen]; omega
noncomputable def eqB {α : Type} (a b : α) : Bool := @decide (a = b) (Classical.propDecidable _)
theorem zdj {α : Type} {a b : α} : eqB a b = true ↔ a = b := @decide_eq_true_iff _ (Classical.propDecidable _)
theorem zcl {α : Type} {a b : α} : eqB a b = false ↔ a ≠ b := @decide_eq_false_iff_not _ (Classical.propDecidable _)
@[simp] theorem yjq {α : Type} (a : α) : eqB a a = true := zdj.2 rfl
theorem down {len : Nat} {Q : Nat → Prop} (h0 : Q len) (hs : ∀ k, k < len → Q (k + 1) → Q k) : ∀ k, k ≤ len → Q k := by
 intro k hk
 obtain ⟨m, rfl⟩ : ∃ m, k = len - m := ⟨len - k, by omega⟩
 induction m with
 | zero => exact h0
 | succ m ih =>
   by_cases h : m < len
   · refine hs _ (by omega) ?_
     rw [show len - (m + 1) + 1 = len - m by omega]
     exact ih (by omega)
   · rw [show len - (m + 1) = len - m by omega]; exact ih (by omega)
end Go.Ab


namespace Go.Ab
open Go
set_option linter.unusedVariables false
set_option linter.unusedSimpArgs false
def Ev {α : Type} (f : Nat → Option α) (r : α) : Prop := ∃ n, ∀ m, n ≤ m → f m = some r
section
variable {α β : Type} {r : α}
theorem Ev.get {f : Nat → Option α} (h : Ev f r) : ∃ n, f n = some r := by obtain ⟨n, hn⟩ := h; exact ⟨n, hn n (Nat.le_refl _)⟩
theorem Ev.succ {f g : Nat → Option α} (h : ∀ n, f (n + 1) = g n) (hg : Ev g r) : Ev f r := by
 obtain ⟨n, hn⟩ := hg
 refine ⟨n + 1, fun m hm => ?_⟩
 obtain ⟨q, rfl⟩ : ∃ q, m = q + 1 := ⟨m - 1, by omega⟩
 rw [h]; exact hn q (by omega)
theorem Ev.same {f g : Nat → Option α} (h : ∀ n, f n = g n) (hg : Ev g r) : Ev f r := by
 obtain ⟨n, hn⟩ := hg
 exact ⟨n, fun m hm => by rw [h]; exact hn m hm⟩
theorem Ev.pure {o : Option α} (h : o = some r) : Ev (fun _ => o) r := ⟨0, fun _ _ => h⟩
theorem Ev.bind {a : Nat → Option β} {k : Nat → β → Option α} {y : β} (ha : Ev a y) (hk : Ev (fun n => k n y) r) : Ev (fun n => (a n).bind (k n)) r := by
 obtain ⟨n, hn⟩ := ha
 obtain ⟨q, hq⟩ := hk
 exact ⟨max n q, fun m hm => by show (a m).bind (k m) = _; rw [hn m (by omega)]; exact hq m (by omega)⟩
theorem Ev.t {c : Bool} {a b : Nat → Option α} (hc : c = true) (ha : Ev a r) : Ev (fun n => if c = true then a n else b n) r := by subst hc; exact ha
theorem Ev.f {c : Bool} {a b : Nat → Option α} (hc : c = false) (ha : Ev b r) : Ev (fun n => if c = true then a n else b n) r := by subst hc; exact ha
theorem Ev.cond {c : Bool} {a b : Nat → Option α} (ht : c = true → Ev a r) (hf : c = false → Ev b r) : Ev (fun n => if c = true then a n else b n) r := by
 cases c
 ·exact hf rfl
 ·exact ht rfl
theorem Ev.to {f : Nat → Option α} {r' : α} (h : Ev f r') (e : r' = r) : Ev f r := e ▸ h
end
section
variable {α β γ : Type} {xs : List α}
end
end Go.Ab


namespace Go.Ab
open Go
set_option linter.unusedVariables false
set_option linter.unusedSimpArgs false
section
variable {α β : Type} {r : α}
theorem Ev.yob {f g : Nat → Option α} (h : ∀ n, f (n + 1) = g n) : Ev f r ↔ Ev g r :=
 ⟨fun ⟨n, hn⟩ => ⟨n, fun m hm => by rw [← h]; exact hn _ (by omega)⟩, Ev.succ h⟩
theorem evS (f : Nat → Option α) (r : α) {g : Nat → Option α} (h : ∀ n, f (n + 1) = g n) : Ev f r ↔ Ev g r := Ev.yob h
theorem Ev.kz0 {a : Nat → Option β} {k : Nat → β → Option α} {y : β} (ha : Ev a y) : Ev (fun n => (a n).bind (k n)) r ↔ Ev (fun n => k n y) r :=
 ⟨fun h => by
  obtain ⟨n, hn⟩ := h; obtain ⟨q, hq⟩ := ha
  refine ⟨max n q, fun m hm => ?_⟩
  have := hn m (by omega)
  simp only [hq m (by omega)] at this
  exact this, Ev.bind ha⟩
theorem Ev.kz3 {o : Option β} {k : Nat → β → Option α} {y : β} (ho : o = some y) : Ev (fun n => o.bind (k n)) r ↔ Ev (fun n => k n y) r := by subst ho; exact Iff.rfl
theorem Ev.yz2 {a b : Nat → Option α} {c : Bool} (hc : c = true) : Ev (fun n => pIf c (a n) (b n)) r ↔ Ev a r := by subst hc; exact Iff.rfl
theorem Ev.kz1 {a b : Nat → Option α} {c : Bool} (hc : c = false) : Ev (fun n => pIf c (a n) (b n)) r ↔ Ev b r := by subst hc; exact Iff.rfl
theorem Ev.pif {a b : Nat → Option α} {c : Bool} : Ev (fun n => pIf c (a n) (b n)) r ↔ if c = true then Ev a r else Ev b r := by cases c <;> exact Iff.rfl
theorem Ev.yz0 {x : α} : Ev (fun _ => some x) r ↔ x = r := ⟨fun ⟨n, h⟩ => by have := h n (Nat.le_refl _); injection this, fun h => ⟨0, fun _ _ => by rw [h]⟩⟩
theorem Ev.z7e {X R : Type} {y : R} {f : Nat → R → Option α} {g : Nat → X → Option α} : Ev (fun n => z8s (.ok y) (f n) (g n)) r ↔ Ev (fun n => f n y) r := Iff.rfl
theorem Ev.z4z {X R : Type} {y : X} {f : Nat → R → Option α} {g : Nat → X → Option α} : Ev (fun n => z8s (.pan y) (f n) (g n)) r ↔ Ev (fun n => g n y) r := Iff.rfl
end
theorem wI {x : Int} (h : -9223372036854775808 ≤ x ∧ x ≤ 9223372036854775807) : IntKind.i64.wrap x = x := IntWalk.i64_in _ h
theorem wU {x : Int} (h : 0 ≤ x ∧ x ≤ 18446744073709551615) : IntKind.u64.wrap x = x := IntWalk.u64_in _ h
theorem wUn {x : Int} (h : -18446744073709551616 ≤ x ∧ x < 0) : IntKind.u64.wrap x = x + 18446744073709551616 := by
 unfold IntKind.wrap
 simp only [IntKind.bits, IntKind.signed, Bool.false_and, Bool.false_eq_true, if_false]
 omega
theorem y08 {a b : Nat} : mxI (a : Int) (b : Int) = ((max a b : Nat) : Int) := by unfold mxI; split <;> omega
end Go.Ab


namespace Go.Ab
open Go
set_option linter.unusedVariables false
set_option linter.unusedSimpArgs false
def isLet (c : UInt8) : Bool := decide (97 ≤ c.toNat) && decide (c.toNat ≤ 122)
def y7m (c : UInt8) : Bool := decide (48 ≤ c.toNat) && decide (c.toNat ≤ 57)
def zde (c : UInt8) : Bool := isLet c || c == 45 || y7m c
def zfc (s : List UInt8) : Bool := match s with
 | [] => false
 | c :: t => isLet c && t.all zde && decide (s.length ≤ 40)
def parts (b : UInt8) : List UInt8 → List (List UInt8)
 | [] => [[]]
 | c :: t => if c == b then [] :: parts b t else match parts b t with
   | h :: r => (c :: h) :: r
   | [] => [[c]]
def steps (s : List UInt8) : List (List UInt8) := if s == [] then [] else parts 47 s
end Go.Ab


namespace Go.Ab
open Go
set_option linter.unusedVariables false
set_option linter.unusedSimpArgs false
theorem yo7 {s : List UInt8} {k : Nat} (h : k < s.length) (ha : s[k].toNat < 128) : zhq s k = (s[k].toNat, 1) := by
 have h' : k < (ByteArray.mk s.toArray).size := by simpa [ByteArray.size] using h
 have e : (ByteArray.mk s.toArray)[k] = s[k] := rfl
 have := decode_ascii ⟨s.toArray⟩ k h' (by rw [e]; exact ha)
 rw [e] at this
 exact this
theorem yly {s : List UInt8} {k : Nat} (h : k < s.length) (ha : 128 ≤ s[k].toNat) : 128 ≤ (zhq s k).1 ∧ 1 ≤ (zhq s k).2 := by
 have h' : k < (ByteArray.mk s.toArray).size := by simpa [ByteArray.size] using h
 have e : (ByteArray.mk s.toArray)[k] = s[k] := rfl
 exact decode_high ⟨s.toArray⟩ k h' (by rw [e]; exact ha)
theorem ypk {α : Type} {l : List α} {lo hi : Nat} (h1 : lo ≤ hi) (h2 : hi ≤ l.length) : sub l (lo : Int) (hi : Int) = some ((l.take hi).drop lo) := by
 unfold sub; rw [if_pos ⟨by omega, by omega, by omega⟩]; simp
theorem ym7 {α : Type} {l : List α} {hi : Nat} (h2 : hi ≤ l.length) : sub l 0 (hi : Int) = some (l.take hi) := by
 unfold sub; rw [if_pos ⟨by omega, by omega, by omega⟩]; simp
end Go.Ab


namespace Go.Ab
open Go
set_option linter.unusedVariables false
set_option linter.unusedSimpArgs false
inductive BT (α : Type) where
 | leaf
 | node (v : α) (l r : BT α)
section
variable {α : Type} (d : α)
def BT.val : BT α → α
 | .leaf => d
 | .node v _ _ => v
def BT.lt : BT α → BT α
 | .leaf => .leaf
 | .node _ l _ => l
def BT.rt : BT α → BT α
 | .leaf => .leaf
 | .node _ _ r => r
noncomputable def BT.get (p : List Bool) : BT α → α := @List.rec Bool (fun _ => BT α → α) (fun t => t.val d) (fun b _ ih t => @Bool.rec (fun _ => α) (ih t.lt) (ih t.rt) b) p
noncomputable def BT.put (x : α) (p : List Bool) : BT α → BT α := @List.rec Bool (fun _ => BT α → BT α) (fun t => .node x t.lt t.rt) (fun b _ ih t => @Bool.rec (fun _ => BT α) (.node (t.val d) (ih t.lt) t.rt) (.node (t.val d) t.lt (ih t.rt)) b) p
@[simp] theorem BT.get_nil (t : BT α) : BT.get d [] t = t.val d := rfl
@[simp] theorem BT.get_t (p : List Bool) (t : BT α) : BT.get d (true :: p) t = BT.get d p t.rt := rfl
@[simp] theorem BT.get_f (p : List Bool) (t : BT α) : BT.get d (false :: p) t = BT.get d p t.lt := rfl
@[simp] theorem BT.put_nil (x : α) (t : BT α) : BT.put d x [] t = .node x t.lt t.rt := rfl
@[simp] theorem BT.put_t (x : α) (p : List Bool) (t : BT α) : BT.put d x (true :: p) t = .node (t.val d) t.lt (BT.put d x p t.rt) := rfl
@[simp] theorem BT.put_f (x : α) (p : List Bool) (t : BT α) : BT.put d x (false :: p) t = .node (t.val d) (BT.put d x p t.lt) t.rt := rfl
theorem BT.zr3 : ∀ p : List Bool, BT.get d p .leaf = d
 | [] => rfl
 | true :: p => BT.zr3 p
 | false :: p => BT.zr3 p
theorem BT.zov (x : α) : ∀ (q p : List Bool) (t : BT α), BT.get d p (BT.put d x q t) = if p = q then x else BT.get d p t
 | [], [], t => by simp [BT.val]
 | [], true :: p, t => by simp [BT.rt]
 | [], false :: p, t => by simp [BT.lt]
 | true :: q, [], t => by simp [BT.val]
 | false :: q, [], t => by simp [BT.val]
 | true :: q, true :: p, t => by simp [BT.rt, BT.zov x q p]
 | false :: q, false :: p, t => by simp [BT.lt, BT.zov x q p]
 | true :: q, false :: p, t => by simp [BT.lt]
 | false :: q, true :: p, t => by simp [BT.rt]
end
def yer : Nat → Nat → List Bool
 | 0, _ => []
 | f + 1, n => match Nat.beq n 0 with
   | true => []
   | false => Nat.beq (Nat.mod n 2) 1 :: yer f (Nat.div n 2)
def path (n : Nat) : List Bool := yer n n
def yj6 : List Bool → Nat
 | [] => 0
 | b :: p => (match b with | true => 1 | false => 0) + 2 * yj6 p
theorem ybq : ∀ (f n : Nat), n ≤ f → yj6 (yer f n) = n
 | 0, n, h => by
   have : n = 0 := by omega
   subst this; rfl
 | f + 1, n, h => by
   unfold yer
   cases e : Nat.beq n 0
   · have hn : n ≠ 0 := fun hh => by subst hh; cases e
     simp only [yj6]
     have hd : Nat.div n 2 = n / 2 := rfl
     have hm : Nat.mod n 2 = n % 2 := rfl
     rw [ybq f (Nat.div n 2) (by rw [hd]; omega), hd, hm]
     cases e2 : Nat.beq (n % 2) 1
     · have : n % 2 ≠ 1 := fun hh => by rw [hh] at e2; cases e2
       show 0 + 2 * (n / 2) = n
       omega
     · have : n % 2 = 1 := Nat.eq_of_beq_eq_true e2
       show 1 + 2 * (n / 2) = n
       omega
   · have : n = 0 := Nat.eq_of_beq_eq_true e
     subst this; rfl
theorem zrn {m n : Nat} (h : path m = path n) : m = n := by
 have h1 := ybq m m (Nat.le_refl _)
 have h2 := ybq n n (Nat.le_refl _)
 rw [show yer m m = path m from rfl, h] at h1
 rw [← h1]; exact h2
structure XH where
 n : Nat
 t : BT (Option zz5)
noncomputable def xg (lv : Nat) (h : XH) (l i : Nat) : Option zz5 := match Nat.beq l lv with
 | true => BT.get none (path i) h.t
 | false => none
structure XHR (lv : Nat) (E : Nat → Nat → Option zz5) (h : XH) (H : kz2) : Prop where
 lv : H.lv = lv
 out : H.E = E
 len : H.L.length = h.n
 get : ∀ i, (H.L[i]?).join = BT.get none (path i) h.t
theorem XHR.xg {lv : Nat} {E : Nat → Nat → Option zz5} {h : XH} {H : kz2} (k : XHR lv E h H) {l i : Nat} {o : zz5} (hg : xg lv h l i = some o) : H.get l i = some o := by
 unfold Go.Ab.xg at hg
 split at hg
 ·rename_i hl
  have : l = lv := Nat.eq_of_beq_eq_true hl
  unfold kz2.get
  rw [if_pos (by rw [this, k.lv]), k.get, hg]
 ·cases hg
inductive Eff where
 | keep (v : V)
 | push (mk : Nat → Nat → V) (o : zz5)
 | set (l i : Nat) (o : zz5) (v : V)
 | zir (i : Nat) (v : V)
def Eff.on (H : kz2) : Eff → V × kz2
 | .keep v => (v, H)
 | .push mk o => (mk H.lv H.L.length, H.push o)
 | .set l i o v => (v, H.set l i o)
 | .zir i v => (v, H.zir i)
noncomputable def Eff.onX (lv : Nat) (h : XH) : Eff → Option (V × XH)
 | .keep v => some (v, h)
 | .push mk o => some (mk lv h.n, ⟨Nat.succ h.n, BT.put none (some o) (path h.n) h.t⟩)
 | .set l i o v => match Nat.beq l lv with
   | true => match Nat.blt i h.n with
     | true => some (v, ⟨h.n, BT.put none (some o) (path i) h.t⟩)
     | false => none
   | false => none
 | .zir i v => match Nat.blt i h.n with
   | true => some (v, ⟨h.n, BT.put none none (path i) h.t⟩)
   | false => none
theorem y0v {a b : Nat} (h : Nat.blt a b = true) : a < b := by
 unfold Nat.blt at h
 exact Nat.le_of_ble_eq_true h
theorem Eff.yh1 {lv : Nat} {E : Nat → Nat → Option zz5} {h h' : XH} {H : kz2} {v : V} (k : XHR lv E h H) {e : Eff} (he : e.onX lv h = some (v, h')) : (e.on H).1 = v ∧ XHR lv E h' (e.on H).2 := by
 cases e with
 | keep u =>
   simp only [Eff.onX, Option.some.injEq, Prod.mk.injEq] at he
   obtain ⟨rfl, rfl⟩ := he
   exact ⟨rfl, k⟩
 | push mk o =>
   simp only [Eff.onX, Option.some.injEq, Prod.mk.injEq] at he
   obtain ⟨rfl, rfl⟩ := he
   refine ⟨by simp only [Eff.on, k.lv, k.len], k.lv, k.out, by simp [Eff.on, kz2.push, k.len], fun i => ?_⟩
   simp only [Eff.on, kz2.push]
   rw [BT.zov]
   by_cases hi : i = h.n
   · subst hi
     rw [if_pos rfl, ← k.len]; simp
   · rw [if_neg (fun hh => hi (zrn hh)), ← k.get]
     by_cases h2 : i < H.L.length
     · rw [List.getElem?_append_left h2]
     · rw [List.getElem?_eq_none (show (H.L ++ [some o]).length ≤ i by have := k.len; simp; omega), List.getElem?_eq_none (show H.L.length ≤ i by omega)]
 | set l i o u =>
   simp only [Eff.onX] at he
   split at he
   · rename_i hl
     split at he
     · rename_i hi
       simp only [Option.some.injEq, Prod.mk.injEq] at he
       obtain ⟨rfl, rfl⟩ := he
       have hl' : l = lv := Nat.eq_of_beq_eq_true hl
       have hi' : i < H.L.length := by rw [k.len]; exact y0v hi
       have hs : H.set l i o = { H with L := H.L.set i (some o) } := by unfold kz2.set; rw [if_pos (by rw [hl', k.lv])]
       refine ⟨rfl, ?_, ?_, ?_, fun j => ?_⟩
       · simp only [Eff.on, hs]; exact k.lv
       · simp only [Eff.on, hs]; exact k.out
       · simp only [Eff.on, hs, List.length_set]; exact k.len
       · simp only [Eff.on, hs]
         rw [BT.zov, List.getElem?_set]
         by_cases hj : i = j
         · subst hj; rw [if_pos rfl, if_pos rfl, if_pos hi']; rfl
         · rw [if_neg hj, if_neg (fun hh => hj (zrn hh).symm)]; exact k.get j
     · cases he
   · cases he
 | zir i u =>
   simp only [Eff.onX] at he
   split at he
   · rename_i hi
     simp only [Option.some.injEq, Prod.mk.injEq] at he
     obtain ⟨rfl, rfl⟩ := he
     have hi' : i < H.L.length := by rw [k.len]; exact y0v hi
     refine ⟨rfl, k.lv, k.out, by simp only [Eff.on, kz2.zir, List.length_set]; exact k.len, fun j => ?_⟩
     simp only [Eff.on, kz2.zir]
     rw [BT.zov, List.getElem?_set]
     by_cases hj : i = j
     · subst hj; rw [if_pos rfl, if_pos rfl, if_pos hi']; rfl
     · rw [if_neg hj, if_neg (fun hh => hj (zrn hh).symm)]; exact k.get j
   · cases he
noncomputable def evT (T : BT V) : Operand → V
 | .tmp j => BT.get .any (path j) T
 | .const v => ofConst v
 | .global k => gv k
 | .func f => .fn f [] []
noncomputable def zvj (n : Nat) (T : BT V) (dst : Option Nat) (v : V) : Option (BT V) :=
 match dst with
 | none => some T
 | some d => match Nat.blt d n with
   | true => some (BT.put .any v (path d) T)
   | false => none
noncomputable def zup (ops : Array Oper) (T : BT V) (o : Oper) : Option Bool :=
 match o.guard with
 | none => some true
 | some (j, want) => match (ops[j]?).bind (·.dst) with
   | some d => match BT.get .any (path d) T with
     | .bool b => some (b == want)
     | .tup _ => some false
     | _ => none
   | none => none
abbrev DL := List (Nat × List V)
structure XR (n lv : Nat) (E : Nat → Nat → Option zz5) (T : BT V) (h : XH) (D : DL) (σ : St) : Prop where
 heap : XHR lv E h σ.H
 defers : σ.d = D
 e0 : σ.e0 = E
 len : σ.t.length = n
 get : ∀ j, σ.t.getD j .any = BT.get .any (path j) T
section
variable {n lv : Nat} {E : Nat → Nat → Option zz5} {T T' : BT V} {h h' : XH} {σ : St} {D : DL}
theorem XR.ev (k : XR n lv E T h D σ) : σ.ev = evT T := by
 funext o
 cases o with
 | tmp j => exact k.get j
 | const v => rfl
 | global g => rfl
 | func f => rfl
theorem XR.wanted (k : XR n lv E T h D σ) (ops : Array Oper) (o : Oper) : z0n ops σ o = zup ops T o := by
 unfold z0n zup
 simp only [k.get]
 cases o.guard with
 | none => rfl
 | some p =>
   obtain ⟨j, w⟩ := p
   simp only
   cases (ops[j]?).bind (fun x => x.dst) with
   | none => rfl
   | some d =>
     simp only
     cases BT.get V.any (path d) T <;> rfl
theorem XR.put (k : XR n lv E T h D σ) {H' : kz2} (hh : XHR lv E h' H') {dst : Option Nat} {v : V} (hp : zvj n T dst v = some T') : XR n lv E T' h' D ({ σ with H := H' }.put dst v) := by
 unfold zvj at hp
 split at hp
 ·injection hp with hp; subst hp
  exact ⟨hh, k.defers, k.e0, k.len, k.get⟩
 ·rename_i d
  split at hp
  ·rename_i hd
   injection hp with hp; subst hp
   have hd' : d < n := y0v hd
   refine ⟨hh, k.defers, k.e0, by simp [St.put, k.len], fun j => ?_⟩
   rw [BT.zov]
   simp only [St.put]
   rw [List.getD_eq_getElem?_getD, List.getElem?_set]
   by_cases e : d = j
   ·subst e
    rw [if_pos rfl, if_pos rfl, if_pos (by rw [k.len]; exact hd')]
    rfl
   ·rw [if_neg e, if_neg (fun hh => e (zrn hh).symm), ← List.getD_eq_getElem?_getD]
    exact k.get j
  ·cases hp
theorem XR.ynw (k : XR n lv E T h D σ) {dst : Option Nat} {v : V} (hp : zvj n T dst v = some T') : XR n lv E T' h D (σ.put dst v) := by
 have := k.put (H' := σ.H) k.heap hp
 exact this
end
noncomputable def zf1 (j : Nat) (vs : List V) : BT V → BT V := @List.rec V (fun _ => Nat → BT V → BT V) (fun _ T => T) (fun v _ ih j T => ih (Nat.succ j) (BT.put .any v (path j) T)) vs j
theorem yhj (j : Nat) (T : BT V) : zf1 j [] T = T := rfl
theorem yfm (j : Nat) (v : V) (vs : List V) (T : BT V) : zf1 j (v :: vs) T = zf1 (Nat.succ j) vs (BT.put .any v (path j) T) := rfl
theorem zu9 : ∀ (vs : List V) (j k : Nat) (T : BT V), BT.get .any (path k) (zf1 j vs T) = if j ≤ k ∧ k < j + vs.length then vs.getD (k - j) .any else BT.get .any (path k) T
 | [], j, k, T => by
   rw [yhj, if_neg (by simp only [List.length_nil]; omega)]
 | v :: vs, j, k, T => by
   rw [yfm, zu9 vs, BT.zov]
   simp only [Nat.succ_eq_add_one, List.length_cons]
   by_cases h1 : j = k
   · subst h1
     rw [if_neg (by omega), if_pos rfl, if_pos (by omega)]; simp
   · rw [if_neg (fun hh => h1 (zrn hh).symm)]
     by_cases h2 : j + 1 ≤ k ∧ k < j + 1 + vs.length
     · rw [if_pos h2, if_pos (by omega), show k - j = (k - (j + 1)) + 1 by omega]; rfl
     · rw [if_neg h2, if_neg (by omega)]
theorem yd5 {n lv : Nat} {E : Nat → Nat → Option zz5} {args : List V} {h : XH} {H : kz2} (hl : Nat.ble args.length n = true) (hh : XHR lv E h H) : XR n lv E (zf1 0 args .leaf) h [] ⟨args ++ List.replicate (n - args.length) .any, H, [], E⟩ := by
 have hl' := Nat.le_of_ble_eq_true hl
 refine ⟨hh, rfl, rfl, by simp; omega, fun j => ?_⟩
 rw [zu9, BT.zr3]
 simp only [Nat.zero_le, true_and, Nat.zero_add, Nat.sub_zero]
 rw [List.getD_eq_getElem?_getD, List.getElem?_append]
 split
 ·rw [List.getD_eq_getElem?_getD]
 ·rw [List.getElem?_replicate]
  split <;> simp
end Go.Ab


namespace Go.Ab
open Go
set_option linter.unusedVariables false
set_option linter.unusedSimpArgs false
def keyOf : V → Option (Nat × Nat)
 | .ptr l i _ => some (l, i)
 | .ap l i _ _ _ => some (l, i)
 | .hs l i _ _ _ _ => some (l, i)
 | .map l i => some (l, i)
 | _ => none
def z57 (g : Nat → Nat → Option zz5) (v : V) : kz2 := match keyOf v with
 | some (l, i) => ⟨Nat.succ l, [], fun _ _ => g l i⟩
 | none => ⟨0, [], fun _ _ => none⟩
theorem za8 {g : Nat → Nat → Option zz5} {v : V} {l i : Nat} (h : keyOf v = some (l, i)) : (z57 g v).get l i = g l i := by
 unfold z57
 rw [h]
 unfold kz2.get
 simp
section
variable {P : Program} {g : Nat → Nat → Option zz5} {H : kz2} (hg : ∀ l i o, g l i = some o → H.get l i = some o)
include hg
theorem y7u {v : V} {l i : Nat} {o : zz5} (h : keyOf v = some (l, i)) (ho : g l i = some o) : (z57 g v).get l i = some o ∧ H.get l i = some o := ⟨by rw [za8 h, ho], hg _ _ _ ho⟩
theorem y7t {t : Nat} {x v : V} (h : z82 P (z57 g x) t x = some v) : z82 P H t x = some v := by
 cases x with
 | ptr l i off =>
   simp only [z82, za8 (g := g) (v := .ptr l i off) rfl] at h
   cases ho : g l i with
   | none => rw [ho] at h; cases h
   | some o => rw [ho] at h; simp only [z82, hg _ _ _ ho]; exact h
 | ap l i ver idx off =>
   simp only [z82, ztd, za8 (g := g) (v := .ap l i ver idx off) rfl] at h
   cases ho : g l i with
   | none => rw [ho] at h; cases h
   | some o => rw [ho] at h; simp only [z82, ztd, hg _ _ _ ho]; exact h
 | ref cs off => exact h
 | _ => cases h
theorem yp3 {t : Nat} {x v : V} (h : zg2 P (z57 g x) t x = some v) : zg2 P H t x = some v := by
 cases x with
 | hs l i ver off n full =>
   simp only [zg2, za8 (g := g) (v := .hs l i ver off n full) rfl] at h
   cases ho : g l i with
   | none => rw [ho] at h; simp only at h; split at h <;> cases h
   | some o => rw [ho] at h; simp only [zg2, hg _ _ _ ho]; exact h
 | map l i =>
   simp only [zg2, za8 (g := g) (v := .map l i) rfl] at h
   cases ho : g l i with
   | none => rw [ho] at h; simp only at h; split at h <;> cases h
   | some o => rw [ho] at h; simp only [zg2, hg _ _ _ ho]; exact h
 | _ => exact h
theorem y1g {t : Nat} {x y v : V} (h : zzy P (z57 g x) t x y = some v) : zzy P H t x y = some v := by
 cases x with
 | hs l i ver off n full =>
   cases ho : g l i with
   | none =>
     unfold zzy at h
     simp only [za8 (g := g) (v := .hs l i ver off n full) rfl, ho] at h
     split at h
     · split at h
       · split at h
         · cases h
         · split at h <;> cases h
         · cases h
       · cases h
     · cases h
   | some o =>
     obtain ⟨h1, h2⟩ := y7u hg (v := .hs l i ver off n full) rfl ho
     unfold zzy at h ⊢
     simp only [h1] at h
     simp only [h2]
     exact h
 | _ => exact h
theorem yj0 {t : Nat} {x v : V} {lo hi mx : Option V} (h : z9v P (z57 g x) t x lo hi mx = some v) : z9v P H t x lo hi mx = some v := by
 cases x with
 | hs l i ver off n full =>
   cases ho : g l i with
   | none =>
     unfold z9v at h
     simp only [za8 (g := g) (v := .hs l i ver off n full) rfl, ho] at h
     split at h <;> cases h
   | some o =>
     obtain ⟨h1, h2⟩ := y7u hg (v := .hs l i ver off n full) rfl ho
     unfold z9v at h ⊢
     simp only [h1] at h
     simp only [h2]
     exact h
 | _ => exact h
theorem yje {x : V} {es : List (V × V)} (h : y2b (z57 g x) x = some es) : y2b H x = some es := by
 cases x with
 | map l i =>
   simp only [y2b, za8 (g := g) (v := .map l i) rfl] at h
   cases ho : g l i with
   | none => rw [ho] at h; cases h
   | some o => rw [ho] at h; simp only [y2b, hg _ _ _ ho]; exact h
 | mapn => exact h
 | _ => cases h
theorem yfk {t : Nat} {x k v : V} {ok : Bool} (h : zo1 P (z57 g x) t x k ok = some v) : zo1 P H t x k ok = some v := by
 unfold zo1 at h ⊢
 split at h
 ·cases he : y2b (z57 g x) x with
  | none => rw [he] at h; simp at h
  | some es => rw [he] at h; rw [yje hg he]; exact h
 ·cases h
theorem yhv {sz : Nat} {x : V} {ys : List V} (h : zao (z57 g x) sz x = some ys) : zao H sz x = some ys := by
 cases x with
 | hs l i ver off n full =>
   simp only [zao, za8 (g := g) (v := .hs l i ver off n full) rfl] at h
   cases ho : g l i with
   | none => rw [ho] at h; cases h
   | some o => rw [ho] at h; simp only [zao, hg _ _ _ ho]; exact h
 | nils => exact h
 | sl s xs f => exact h
 | _ => cases h
theorem ynf {sz : Nat} {x : V} {ys : List V} (h : zq5 (z57 g x) sz x = some ys) : zq5 H sz x = some ys := by
 cases x with
 | str s => exact h
 | _ =>
   simp only [zq5] at h ⊢
   exact yhv hg h
end
def xpv (P : Program) (g : Nat → Nat → Option zz5) (ρ : Operand → V) (op : Op) : Option V :=
 match op with
 | .load t a => z82 P (z57 g (ρ a)) t (ρ a)
 | .indexAddr t x i => zzy P (z57 g (ρ x)) t (ρ x) (ρ i)
 | .slice t x lo hi mx => z9v P (z57 g (ρ x)) t (ρ x) (lo.map ρ) (hi.map ρ) (mx.map ρ)
 | .lookup t x k ok => zo1 P (z57 g (ρ x)) t (ρ x) (ρ k) ok
 | .call c => match c.callee with
   | .builtin .len => match c.args.toList, c.argTypes.toList with
     | [x], [t] => zg2 P (z57 g (ρ x)) t (ρ x)
     | _, _ => none
   | .builtin .min => zio false (c.args.toList.map ρ)
   | .builtin .max => zio true (c.args.toList.map ρ)
   | _ => none
 | op => pv P ⟨0, [], fun _ _ => none⟩ ρ op
theorem yiv {P : Program} {g : Nat → Nat → Option zz5} {H : kz2} (hg : ∀ l i o, g l i = some o → H.get l i = some o) {ρ : Operand → V} {op : Op} {v : V} (h : xpv P g ρ op = some v) : pv P H ρ op = some v := by
 cases op with
 | load t a => exact y7t hg h
 | indexAddr t x i => exact y1g hg h
 | slice t x lo hi mx => exact yj0 hg h
 | lookup t x k ok => exact yfk hg h
 | call c =>
   simp only [xpv] at h
   simp only [pv, z8o]
   split at h
   · rename_i hc
     rw [hc]
     simp only
     split at h
     · rename_i x t e1 e2
       rw [e1, e2]
       exact yp3 hg h
     · cases h
   · rename_i hc; rw [hc]; exact h
   · rename_i hc; rw [hc]; exact h
   · cases h
 | makeFunc f a b =>
   cases f with
   | func k => exact h
   | _ => cases h
 | _ => exact h
def yh9 (P : Program) (g : Nat → Nat → Option zz5) (t : Nat) (a x : V) : Option Eff :=
 if x.z0b && (P.info? t).isSome && x.cells.length == P.cellsOf t then
  match a with
  | .ptr l i off => match g l i with
    | some (.cells cs) => if off + x.cells.length ≤ cs.length then some (.set l i (.cells (z43 cs off x.cells)) .any) else none
    | _ => none
  | .ap l i ver idx off => match g l i with
    | some (.arr ver' ty sz xs cp) => if ver' = ver then match xs[idx]? with
      | some y => if off + x.cells.length ≤ y.cells.length ∧ fits y (z43 y.cells off x.cells) = true then
          some (.set l i (.arr ver ty sz (xs.set idx (z7u y (z43 y.cells off x.cells))) cp) .any) else none
      | none => none else none
    | _ => none
  | _ => none
 else none
def zo9 (P : Program) (g : Nat → Nat → Option zz5) (t : Nat) (m k x : V) : Option Eff :=
 match P.underlying t with
 | some (.map kt _) => match m with
   | .map l i => match g l i with
     | some (.map es) => match zvu P kt k with
       | some d => match y2m d k es 0 with
         | some r => some (.set l i (.map (zth es k x r)) .any)
         | none => none
       | none => none
     | _ => none
   | _ => none
 | _ => none
def zwm (g : Nat → Nat → Option zz5) (e size : Nat) (s : V) (ys : List V) : Option Eff :=
 match s with
 | .nils => match ys with
   | [] => some (.keep .nils)
   | y :: r => if (y :: r).length ≤ zct then some (.push (fun lv n => .hs lv n 0 0 (y :: r).length false) (.arr 0 e size (y :: r) none)) else none
 | .sl sz xs true => if sz = size then match ys with
   | [] => some (.keep (.sl sz xs true))
   | y :: r => if xs.length + (y :: r).length ≤ zct then some (.push (fun lv n => .hs lv n 0 0 (xs.length + (y :: r).length) false) (.arr 0 e size (xs ++ y :: r) none)) else none else none
 | .hs l i' ver 0 n false => match g l i' with
   | some (.arr ver' e' sz xs _) => if ver' = ver ∧ e' = e ∧ sz = size ∧ n = xs.length ∧ xs.length + ys.length ≤ zct then
       some (.set l i' (.arr (ver + 1) e sz (xs ++ ys) none) (.hs l i' (ver + 1) 0 (xs.length + ys.length) false)) else none
   | _ => none
 | _ => none
def yjm (P : Program) (g : Nat → Nat → Option zz5) (t u : Nat) (s x : V) : Option Eff :=
 match P.underlying t, P.underlying u with
 | some (.slice e), some du =>
   match P.info? e with
   | some i =>
     match zq5 (z57 g x) i.size x, i.zero with
     | some ys, some z =>
       if ya7 du && decide (0 < i.size) && decide (i.bytes ≤ 524288) && z.cells.size == i.size then zwm g e i.size s ys else none
     | _, _ => none
   | none => none
 | _, _ => none
def ypz (g : Nat → Nat → Option zz5) (x : V) (str : Bool) : Option Eff :=
 match x, str with
 | .ptr l i 0, true => match g l i with
   | some (.siter s pos) => if pos < s.length then some (.set l i (.siter s (pos + (zhq s pos).2)) (.tup [.bool true, .int .i64 pos, .int .i32 (zhq s pos).1])) else some (.keep (.tup [.bool false]))
   | _ => none
 | _, _ => none
def yf7 (P : Program) (t : Nat) (r : Option V) : Option Eff :=
 match r with
 | none => some (.push (fun lv n => .map lv n) (.map []))
 | some (.int _ _) => match P.underlying t with
   | some (.map _ _) => some (.push (fun lv n => .map lv n) (.map []))
   | _ => none
 | _ => none
def yp6 (P : Program) (t : Nat) (x : V) : Option Eff :=
 match x with
 | .str s => match P.underlying t with
   | some .string => some (.push (fun lv n => .ptr lv n 0) (.siter s 0))
   | _ => none
 | _ => none
def eox (P : Program) (g : Nat → Nat → Option zz5) (ρ : Operand → V) (op : Op) : Option Eff :=
 match op with
 | .alloc t => match zeroV P t with
   | some z => if z.z0b then some (.push (fun lv n => .ptr lv n 0) (.cells z.cells)) else none
   | none => none
 | .box _ x => if (ρ x).z0b then some (.push (fun lv n => .ptr lv n 0) (.cells (ρ x).cells)) else none
 | .store t a x => yh9 P g t (ρ a) (ρ x)
 | .makeMap t r => yf7 P t (r.map ρ)
 | .mapUpdate t m k x => zo9 P g t (ρ m) (ρ k) (ρ x)
 | .insert t m k x => zo9 P g t (ρ m) (ρ k) (ρ x)
 | .range t x => yp6 P t (ρ x)
 | .next i b => ypz g (ρ i) b
 | .call c => match c.callee with
   | .builtin .append => match c.args.toList, c.argTypes.toList with
     | [s, x], [t, u] => yjm P g t u (ρ s) (ρ x)
     | _, _ => none
   | .builtin .copy => none
   | _ => (xpv P g ρ (.call c)).map .keep
 | o => (xpv P g ρ o).map .keep
section
variable {P : Program} {g : Nat → Nat → Option zz5} {H : kz2} (hg : ∀ l i o, g l i = some o → H.get l i = some o)
include hg
theorem ymg {t : Nat} {a x : V} {e : Eff} (h : yh9 P g t a x = some e) : zib P H t a x = some (e.on H) := by
 unfold yh9 at h
 unfold zib
 split at h
 ·rename_i hc
  rw [if_pos hc]
  split at h
  ·rename_i l i off
   split at h
   ·rename_i cs ho
    simp only [hg _ _ _ ho]
    split at h
    ·rename_i hle
     injection h with h; subst h
     rw [if_pos hle]; rfl
    ·cases h
   ·cases h
  ·rename_i l i ver idx off
   split at h
   ·rename_i ver' ty sz xs cp ho
    simp only [hg _ _ _ ho]
    split at h
    ·rename_i hv
     rw [if_pos hv]
     split at h
     ·rename_i y hy
      simp only [hy]
      split at h
      ·rename_i hle
       injection h with h; subst h
       rw [if_pos hle]; rfl
      ·cases h
     ·cases h
    ·cases h
   ·cases h
  ·cases h
 ·cases h
theorem zta {t : Nat} {m k x : V} {e : Eff} (h : zo9 P g t m k x = some e) : zga P H t m k x = some (e.on H) := by
 unfold zo9 at h
 unfold zga
 split at h
 ·rename_i kt et ht
  simp only [ht]
  split at h
  ·rename_i l i
   split at h
   ·rename_i es ho
    simp only [hg _ _ _ ho]
    split at h
    ·rename_i d hd
     simp only [hd]
     split at h
     ·rename_i r hr
      injection h with h; subst h
      simp only [hr]; rfl
     ·cases h
    ·cases h
   ·cases h
  ·cases h
 ·cases h
theorem ybi {e' size : Nat} {s : V} {ys : List V} {e : Eff} (h : zwm g e' size s ys = some e) : z6h H e' size s ys = some (e.on H) := by
 unfold zwm at h
 unfold z6h
 split at h
 ·split at h
  ·injection h with h; subst h; rfl
  ·split at h
   ·rename_i hr; injection h with h; subst h; simp only [if_pos hr]; rfl
   ·cases h
 ·split at h
  ·rename_i hz
   simp only [if_pos hz]
   split at h
   ·injection h with h; subst h; rfl
   ·split at h
    ·rename_i hr; injection h with h; subst h; simp only [if_pos hr]; rfl
    ·cases h
  ·cases h
 ·split at h
  ·rename_i ho
   simp only [hg _ _ _ ho]
   split at h
   ·rename_i hr; injection h with h; subst h; rw [if_pos hr]; rfl
   ·cases h
  ·cases h
 ·cases h
theorem yh5 {ρ : Operand → V} {op : Op} {e : Eff} (h : eox P g ρ op = some e) : ox P H ρ op = some (e.on H) := by
 have keep : ∀ {o : Op}, (xpv P g ρ o).map Eff.keep = some e → (pv P H ρ o).map (fun v => (v, H)) = some (e.on H) := fun {o} hh => by
  simp only [Option.map_eq_some_iff] at hh
  obtain ⟨v, hv, rfl⟩ := hh
  rw [yiv hg hv]; rfl
 cases op with
 | alloc t =>
   simp only [eox] at h
   simp only [ox, zw1]
   split at h
   · rename_i z hz
     simp only [hz]
     split at h
     · rename_i hs; injection h with h; subst h; rw [if_pos hs]; rfl
     · cases h
   · cases h
 | box t x =>
   simp only [eox] at h
   simp only [ox, ykw]
   split at h
   · rename_i hs; injection h with h; subst h; rw [if_pos hs]; rfl
   · cases h
 | store t a x => exact ymg hg h
 | makeMap t r =>
   simp only [eox, yf7] at h
   simp only [ox, zva]
   split at h
   · rename_i hr; rw [hr]; injection h with h; subst h; rfl
   · rename_i hr; rw [hr]
     split at h
     · rename_i ht; simp only [ht]; injection h with h; subst h; rfl
     · cases h
   · cases h
 | mapUpdate t m k x => exact zta hg h
 | insert t m k x => exact zta hg h
 | range t x =>
   simp only [eox, yp6] at h
   simp only [ox, y38]
   split at h
   · rename_i s hs
     rw [hs]
     split at h
     · rename_i ht; simp only [ht]; injection h with h; subst h; rfl
     · cases h
   · cases h
 | next i b =>
   simp only [eox, ypz] at h
   simp only [ox, y0r]
   split at h
   · rename_i l j hx
     rw [hx]
     split at h
     · rename_i s pos ho
       simp only [hg _ _ _ ho]
       split at h
       · rename_i hp; injection h with h; subst h; rw [if_pos hp]; rfl
       · rename_i hp; injection h with h; subst h; rw [if_neg hp]; rfl
     · cases h
   · cases h
 | call c =>
   simp only [eox] at h
   simp only [ox]
   split at h
   · rename_i hc
     rw [hc]
     simp only
     split at h
     · rename_i s x t u e1 e2
       rw [e1, e2]
       simp only
       unfold yjm at h
       unfold hAppend
       split at h
       · rename_i et du ht hu
         simp only [ht, hu]
         split at h
         · rename_i i hi
           simp only [hi]
           split at h
           · rename_i ys z h1 h2
             simp only [ynf hg h1, h2]
             split at h
             · rename_i hcc; rw [if_pos hcc]; exact ybi hg h
             · cases h
           · cases h
         · cases h
       · cases h
     · cases h
   · cases h
   · rename_i h1 h2
     have := keep h
     split
     · rename_i hc; exact (h1 hc).elim
     · rename_i hc; exact (h2 hc).elim
     · exact this
 | _ =>
   simp only [eox] at h
   simp only [ox]
   exact keep h
end
section
variable {P : Program} {g : Nat → Nat → Option zz5} {H : kz2} (hg : ∀ l i o, g l i = some o → H.get l i = some o)
include hg
theorem zwx {x : V} {p : Nat × Nat × Nat × Nat} (h : y6c (z57 g x) x = some p) : y6c H x = some p := by
 cases x with
 | ap l i ver idx off =>
   simp only [y6c, za8 (g := g) (v := .ap l i ver idx off) rfl] at h
   cases ho : g l i with
   | none => rw [ho] at h; cases h
   | some o => rw [ho] at h; simp only [y6c, hg _ _ _ ho]; exact h
 | _ => cases h
theorem ycv {x : V} (h : zx8 (z57 g x) x = true) : zx8 H x = true := by
 cases x with
 | ap l i ver idx off =>
   simp only [zx8, za8 (g := g) (v := .ap l i ver idx off) rfl] at h
   cases ho : g l i with
   | none => rw [ho] at h; cases h
   | some o => rw [ho] at h; simp only [zx8, hg _ _ _ ho]; exact h
 | _ => cases h
theorem ykv {op : BinOp} {t : Nat} {x y v : V} (h : y87 P (z57 g x) op t x y = some v) : y87 P H op t x y = some v := by
 unfold y87 at h ⊢
 split at h
 ·rename_i p e h1 h2 h3
  rw [h1, zwx hg h2, h3]; exact h
 ·cases h
theorem ycq {op : BinOp} {t : Nat} {xo yo : Operand} {x y v : V} (h : ya5 P (z57 g x) op t xo yo x y = some v) : ya5 P H op t xo yo x y = some v := by
 unfold ya5 at h ⊢
 split at h
 ·exact h
 ·exact ykv hg h
theorem ym9 {s d : Nat} {x v : V} (h : y3h P (z57 g x) s d x = some v) : y3h P H s d x = some v := by
 unfold y3h at h ⊢
 split at h
 ·rename_i t p h1 h2 h3
  rw [h1, h2, zwx hg h3]; exact h
 ·rename_i u ty sz n o h1 h2 h3
  rw [h1, h2, zwx hg h3]
  dsimp only at h ⊢
  split at h
  ·rename_i j hj
   split at h
   ·rename_i hc
    simp only [Bool.and_eq_true] at hc
    rw [hc.1.1.1, hc.1.1.2, ycv hg hc.1.2, hc.2]; exact h
   ·cases h
  ·cases h
 ·cases h
theorem y0p {x v : V} (h : zb1 (z57 g x) x = some v) : zb1 H x = some v := by
 cases x with
 | hs l i ver off n full =>
   simp only [zb1, za8 (g := g) (v := .hs l i ver off n full) rfl] at h
   cases ho : g l i with
   | none => rw [ho] at h; cases h
   | some o => rw [ho] at h; simp only [zb1, hg _ _ _ ho]; exact h
 | nils => exact h
 | _ => cases h
end
def ymz (P : Program) (lv : Nat) (g : Nat → Nat → Option zz5) (pt : Nat) (p n : V) : Option Eff :=
 match p, n with
 | .nilp, .int .i64 (.ofNat 0) => some (.keep (.str []))
 | .ap l i ver 0 0, .int .i64 (.ofNat m) => match g l i, P.underlying pt with
   | some (.arr ver' ty sz xs cp), some (.pointer e) => match Nat.beq ver' ver && Nat.beq sz 1 && Nat.beq l lv && Nat.beq e ty && Nat.beq (P.cellsOf ty) 1 && Nat.blt 0 m && Nat.ble m xs.length && Nat.ble m zct with
     | true => match zw0 (xs.take m) with
       | some s => some (.zir i (.str s))
       | none => none
     | false => none
   | _, _ => none
 | _, _ => none
def y3e (P : Program) (t : Nat) (n c : V) : Option Eff :=
 match n, c with
 | .int _ (.ofNat n), .int _ (.ofNat c) => match P.underlying t with
   | some (.slice e) => match P.info? e, zeroV P e with
     | some i, some z => match z.z0b && Nat.beq z.cells.length i.size && Nat.blt 0 i.size && Nat.ble n c && Nat.ble c 1000000 && Nat.ble i.bytes 100000 with
       | true => some (.push (fun lv k => .hs lv k 0 0 n false) (.arr 0 e i.size (List.replicate n z) none))
       | false => none
     | _, _ => none
   | _ => none
 | _, _ => none
def yjx (P : Program) (t : Nat) : Option Eff := match zeroV P t, P.info? t with
 | some z, some i => if z.z0b && z.cells.length == i.size && Nat.blt 0 i.size then some (.push (fun lv k => .ap lv k 0 0 0) (.arr 0 t i.size [z] (some 1))) else none
 | _, _ => none
def y1l (P : Program) (lv : Nat) (g : Nat → Nat → Option zz5) (ρ : Operand → V) (op : Op) : Option Eff := match op with
 | .alloc t => match ypx P t with
   | true => yjx P t
   | false => none
 | .makeSlice t n c => y3e P t (ρ n) (ρ c)
 | .convert s d x => (y3h P (z57 g (ρ x)) s d (ρ x)).map .keep
 | .binOp op t x y _ => (ya5 P (z57 g (ρ x)) op t x y (ρ x) (ρ y)).map .keep
 | .call c => match c.callee with
   | .builtin .unsafeSliceData => match c.args.toList with
     | [x] => (zb1 (z57 g (ρ x)) (ρ x)).map .keep
     | _ => none
   | .builtin .unsafeString => match c.args.toList, c.argTypes.toList with
     | [p, n], [pt, _] => ymz P lv g pt (ρ p) (ρ n)
     | _, _ => none
   | _ => none
 | _ => none
theorem ztw {P : Program} {g : Nat → Nat → Option zz5} {H : kz2} (hg : ∀ l i o, g l i = some o → H.get l i = some o) {ρ : Operand → V} {op : Op} {e : Eff} (h : y1l P H.lv g ρ op = some e) : zfs P H ρ op = some (e.on H) := by
 have keep : ∀ {q q' : Option V}, (∀ v, q = some v → q' = some v) → q.map Eff.keep = some e → (q'.map fun v => (v, H)) = some (e.on H) := fun {q q'} hq hh => by
  simp only [Option.map_eq_some_iff] at hh
  obtain ⟨v, hv, rfl⟩ := hh
  rw [hq v hv]; rfl
 cases op with
 | alloc t =>
   simp only [y1l] at h
   simp only [zfs]
   split at h
   · rename_i hb
     rw [hb]
     unfold yjx at h
     unfold y01
     split at h
     · rename_i z i h1 h2
       simp only [h1, h2]
       split at h
       · rename_i hc; injection h with h; subst h; rw [if_pos hc]; rfl
       · cases h
     · cases h
   · cases h
 | makeSlice t n c =>
   simp only [y1l] at h
   simp only [zfs]
   unfold y3e at h
   unfold zpp
   split at h
   · rename_i k1 n' k2 c' e1 e2
     rw [e1, e2]
     try dsimp only
     split at h
     · rename_i el ht
       rw [ht]
       try dsimp only
       split at h
       · rename_i i z h1 h2
         rw [h1, h2]
         try dsimp only
         split at h
         · rename_i hc; injection h with h; subst h; rw [hc]; rfl
         · cases h
       · cases h
     · cases h
   · cases h
 | convert s d x => exact keep (fun v hv => ym9 hg hv) h
 | binOp op t x y ty => exact keep (fun v hv => ycq hg hv) h
 | call c =>
   simp only [y1l] at h
   simp only [zfs]
   split at h
   · rename_i hc
     rw [hc]
     try dsimp only
     split at h
     · rename_i x hx
       rw [hx]
       exact keep (fun v hv => y0p hg hv) h
     · cases h
   · rename_i hc
     rw [hc]
     try dsimp only
     split at h
     · rename_i p n pt it h1 h2
       rw [h1, h2]
       try dsimp only
       unfold ymz at h
       unfold yc1
       split at h
       · rename_i e1 e2
         rw [e1, e2]
         injection h with h; subst h; rfl
       · rename_i l i ver m e1 e2
         rw [e1, e2]
         try dsimp only
         split at h
         · rename_i ver' ty sz xs cp e' h3 h4
           simp only [hg _ _ _ h3, h4]
           try dsimp only
           split at h
           · rename_i hc2
             rw [hc2]
             try dsimp only
             split at h
             · rename_i s hs; rw [hs]; injection h with h; subst h; rfl
             · cases h
           · cases h
         · cases h
       · cases h
     · cases h
   · cases h
 | _ => cases h
end Go.Ab


namespace Go.Ab
open Go
set_option linter.unusedVariables false
set_option linter.unusedSimpArgs false
mutual
def V.data : V → Bool
 | .ptr _ _ _ => false
 | .ap _ _ _ _ _ => false
 | .hs _ _ _ _ _ _ => false
 | .map _ _ => false
 | .ref cs _ => V.zrp cs
 | .sl _ xs _ => V.zrp xs
 | .fn _ a b => V.zrp a && V.zrp b
 | .iface _ v => V.data v
 | .agg cs => V.zrp cs
 | .tup vs => V.zrp vs
 | _ => true
def V.zrp : List V → Bool
 | [] => true
 | v :: vs => V.data v && V.zrp vs
end
mutual
theorem y27 {D : Nat → Nat → Prop} : ∀ {v : V}, v.data = true → V.kin D v
 | .any, _ => by simp [V.kin]
 | .bool _, _ => by simp [V.kin]
 | .int _ _, _ => by simp [V.kin]
 | .str _, _ => by simp [V.kin]
 | .nilp, _ => by simp [V.kin]
 | .ptr _ _ _, h => by simp [V.data] at h
 | .ref cs _, h => by simp only [V.data] at h; simp only [V.kin]; exact zew h
 | .ap _ _ _ _ _, h => by simp [V.data] at h
 | .nils, _ => by simp [V.kin]
 | .sl _ xs _, h => by simp only [V.data] at h; simp only [V.kin]; exact zew h
 | .hs _ _ _ _ _ _, h => by simp [V.data] at h
 | .mapn, _ => by simp [V.kin]
 | .map _ _, h => by simp [V.data] at h
 | .fn _ a b, h => by simp only [V.data, Bool.and_eq_true] at h; simp only [V.kin]; exact ⟨zew h.1, zew h.2⟩
 | .nilf, _ => by simp [V.kin]
 | .iface _ v, h => by simp only [V.data] at h; simp only [V.kin]; exact y27 h
 | .nili, _ => by simp [V.kin]
 | .agg cs, h => by simp only [V.data] at h; simp only [V.kin]; exact zew h
 | .tup vs, h => by simp only [V.data] at h; simp only [V.kin]; exact zew h
theorem zew {D : Nat → Nat → Prop} : ∀ {vs : List V}, V.zrp vs = true → V.zav D vs
 | [], _ => by simp [V.zav]
 | v :: vs, h => by simp only [V.zrp, Bool.and_eq_true] at h; simp only [V.zav]; exact ⟨y27 h.1, zew h.2⟩
end
def zqv (f : V → Option V) : List V → Option (List V)
 | [] => some []
 | v :: vs => match f v, zqv f vs with
   | some u, some us => some (u :: us)
   | _, _ => none
def frz (lv : Nat) (g : Nat → Nat → Option zz5) : Nat → V → Option V
 | 0, _ => none
 | k + 1, v => match v with
   | .hs l i ver off n full => match g l i with
     | some (.arr ver' ty sz xs cp) => match Nat.beq l lv && Nat.beq ver' ver with
       | true => match zqv (frz lv g k) ((xs.drop off).take n) with
         | some ys => match Nat.beq ys.length n with
           | true => some (.sl sz ys false)
           | false => none
         | none => none
       | false => none
     | _ => none
   | .agg vs => (zqv (frz lv g k) vs).map .agg
   | .tup vs => (zqv (frz lv g k) vs).map .tup
   | .sl sz xs b => match V.zrp xs with
     | true => some (.sl sz xs b)
     | false => (zqv (frz lv g k) xs).map fun ys => .sl sz ys false
   | v => match V.data v with
     | true => some v
     | false => none
theorem znt {f : V → Option V} : ∀ {vs us : List V}, zqv f vs = some us → us.length = vs.length ∧ ∀ (j : Nat) (v u : V), vs[j]? = some v → us[j]? = some u → f v = some u
 | [], us, h => by simp only [zqv, Option.some.injEq] at h; subst h; exact ⟨rfl, by simp⟩
 | v :: vs, us, h => by
   simp only [zqv] at h
   split at h
   · rename_i u us' h1 h2
     injection h with h; subst h
     obtain ⟨k1, k2⟩ := znt h2
     refine ⟨by simp [k1], fun j a b ha hb => ?_⟩
     cases j with
     | zero => simp at ha hb; subst ha; subst hb; exact h1
     | succ j => exact k2 j a b (by simpa using ha) (by simpa using hb)
   · cases h
theorem zhf {lv m : Nat} {g : Nat → Nat → Option zz5} {H : kz2} (hg : ∀ l i o, g l i = some o → H.get l i = some o) (hlv : H.lv = lv) : ∀ (k : Nat) {v u : V}, frz lv g k v = some u →
  VS H (outer m) v u ∧ v.cells.length = u.cells.length ∧ ∀ (t : Nat) (a b : V), v.cells[t]? = some a → u.cells[t]? = some b → VS H (outer m) a b
 | 0, v, u, h => by cases h
 | k + 1, v, u, h => by
   have one : ∀ {v u : V}, v.cells = [v] → u.cells = [u] → VS H (outer m) v u → VS H (outer m) v u ∧ v.cells.length = u.cells.length ∧ ∀ (t : Nat) (a b : V), v.cells[t]? = some a → u.cells[t]? = some b → VS H (outer m) a b := fun {v u} h1 h2 h3 => by
     refine ⟨h3, by rw [h1, h2]; rfl, fun t a b ha hb => ?_⟩
     rw [h1] at ha; rw [h2] at hb
     cases t with
     | zero => simp at ha hb; subst ha; subst hb; exact h3
     | succ t => simp at ha
   have leaf : ∀ {v : V}, v.cells = [v] → (match V.data v with | true => some v | false => none) = some u → VS H (outer m) v u ∧ v.cells.length = u.cells.length ∧ ∀ (t : Nat) (a b : V), v.cells[t]? = some a → u.cells[t]? = some b → VS H (outer m) a b := fun {v} hc hh => by
     split at hh
     · rename_i hd
       injection hh with hh; subst hh
       exact one hc hc (.keep _ (y27 hd))
     · cases hh
   cases v with
   | hs l i ver off n full =>
     simp only [frz] at h
     split at h
     · rename_i ver' ty sz xs cp ho
       split at h
       · rename_i hb
         simp only [Bool.and_eq_true] at hb
         have e1 : l = lv := Nat.eq_of_beq_eq_true hb.1
         have e2 : ver' = ver := Nat.eq_of_beq_eq_true hb.2
         subst e2
         split at h
         · rename_i ys hys
           split at h
           · rename_i hn
             have hn : ys.length = n := Nat.eq_of_beq_eq_true hn
             injection h with h; subst h
             obtain ⟨k1, k2⟩ := znt hys
             have get : ∀ (j : Nat) (x y : V), xs[off + j]? = some x → ys[j]? = some y → frz lv g k x = some y := fun j x y hx hy => by
               have hj := (List.getElem?_eq_some_iff.1 hy).1
               refine k2 j x y ?_ hy
               rw [List.getElem?_take, if_pos (by omega), List.getElem?_drop]; exact hx
             refine one rfl rfl (.hs l i ver' ty sz off n full xs ys cp (by rw [e1, hlv]) (hg _ _ _ ho) hn (fun j x y hx hy => (zhf (m := m) hg hlv k (get j x y hx hy)).2.1) (fun j x y t a b hx hy ha hb => (zhf (m := m) hg hlv k (get j x y hx hy)).2.2 t a b ha hb))
           · cases h
         · cases h
       · cases h
     · cases h
   | agg vs =>
     simp only [frz, Option.map_eq_some_iff] at h
     obtain ⟨us, h1, rfl⟩ := h
     obtain ⟨k1, k2⟩ := znt h1
     have get : ∀ (j : Nat) (a b : V), vs[j]? = some a → us[j]? = some b → VS H (outer m) a b := fun j a b ha hb => (zhf (m := m) hg hlv k (k2 j a b ha hb)).1
     exact ⟨.agg _ _ k1.symm get, k1.symm, get⟩
   | tup vs =>
     simp only [frz, Option.map_eq_some_iff] at h
     obtain ⟨us, h1, rfl⟩ := h
     obtain ⟨k1, k2⟩ := znt h1
     exact one rfl rfl (.tup _ _ k1.symm fun j a b ha hb => (zhf (m := m) hg hlv k (k2 j a b ha hb)).1)
   | sl sz xs b =>
     simp only [frz] at h
     split at h
     · rename_i hd
       injection h with h; subst h
       exact one rfl rfl (.keep _ (by simp only [V.kin]; exact zew hd))
     · simp only [Option.map_eq_some_iff] at h
       obtain ⟨ys, h1, rfl⟩ := h
       obtain ⟨k1, k2⟩ := znt h1
       exact one rfl rfl (.sl _ _ _ _ k1.symm (fun j x y hx hy => (zhf (m := m) hg hlv k (k2 j x y hx hy)).2.1) (fun j x y t a b hx hy ha hb => (zhf (m := m) hg hlv k (k2 j x y hx hy)).2.2 t a b ha hb))
   | any => exact leaf rfl h
   | bool _ => exact leaf rfl h
   | int _ _ => exact leaf rfl h
   | str _ => exact leaf rfl h
   | nilp => exact leaf rfl h
   | ptr _ _ _ => exact leaf rfl h
   | ref _ _ => exact leaf rfl h
   | ap _ _ _ _ _ => exact leaf rfl h
   | nils => exact leaf rfl h
   | mapn => exact leaf rfl h
   | map _ _ => exact leaf rfl h
   | fn _ _ _ => exact leaf rfl h
   | nilf => exact leaf rfl h
   | iface _ _ => exact leaf rfl h
   | nili => exact leaf rfl h
def kno : IntKind → Nat
 | .i8 => 0 | .i16 => 1 | .i32 => 2 | .i64 => 3 | .u8 => 4 | .u16 => 5 | .u32 => 6 | .u64 => 7
theorem ypf {a b : IntKind} (h : kno a = kno b) : a = b := by
 cases a <;> cases b <;> first | rfl | cases h
def yni : Int → Int → Bool
 | .ofNat a, .ofNat b => Nat.beq a b
 | .negSucc a, .negSucc b => Nat.beq a b
 | _, _ => false
theorem ymn {a b : Int} (h : yni a b = true) : a = b := by
 cases a <;> cases b <;> simp only [yni] at h <;> first | cases h | skip
 ·rw [Nat.eq_of_beq_eq_true h]
 ·rw [Nat.eq_of_beq_eq_true h]
def yji : List UInt8 → List UInt8 → Bool
 | [], [] => true
 | a :: s, b :: t => match Nat.beq a.toNat b.toNat with
   | true => yji s t
   | false => false
 | _, _ => false
theorem ygn : ∀ {a b : List UInt8}, yji a b = true → a = b
 | [], [], _ => rfl
 | [], _ :: _, h => by cases h
 | _ :: _, [], h => by cases h
 | a :: s, b :: t, h => by
   simp only [yji] at h
   split at h
   · rename_i e
     have : a = b := UInt8.toNat_inj.1 (Nat.eq_of_beq_eq_true e)
     rw [this, ygn h]
   · cases h
def yjk : Bool → Bool → Bool
 | true, true => true
 | false, false => true
 | _, _ => false
theorem y3g {a b : Bool} (h : yjk a b = true) : a = b := by cases a <;> cases b <;> first | rfl | cases h
def zfp : Bool → Bool → Bool
 | true, b => b
 | false, _ => false
theorem z4y {a b : Bool} (h : zfp a b = true) : a = true ∧ b = true := by cases a <;> simp [zfp] at h ⊢; exact h
mutual
def V.same : V → V → Bool
 | .any, .any => true
 | .bool a, .bool b => yjk a b
 | .int k a, .int l b => zfp (Nat.beq (kno k) (kno l)) (yni a b)
 | .str a, .str b => yji a b
 | .ptr l i o, .ptr m j p => zfp (Nat.beq l m) (zfp (Nat.beq i j) (Nat.beq o p))
 | .ap l i v x o, .ap m j w y p => zfp (Nat.beq l m) (zfp (Nat.beq i j) (zfp (Nat.beq v w) (zfp (Nat.beq x y) (Nat.beq o p))))
 | .hs l i v o n f, .hs m j w p k g => zfp (Nat.beq l m) (zfp (Nat.beq i j) (zfp (Nat.beq v w) (zfp (Nat.beq o p) (zfp (Nat.beq n k) (yjk f g)))))
 | .map l i, .map m j => zfp (Nat.beq l m) (Nat.beq i j)
 | .nilp, .nilp => true
 | .nils, .nils => true
 | .mapn, .mapn => true
 | .nilf, .nilf => true
 | .nili, .nili => true
 | .ref a i, .ref b j => zfp (Nat.beq i j) (V.zlo a b)
 | .sl n a x, .sl m b y => zfp (Nat.beq n m) (zfp (yjk x y) (V.zlo a b))
 | .fn f a b, .fn g c d => zfp (Nat.beq f g) (zfp (V.zlo a c) (V.zlo b d))
 | .iface t a, .iface u b => zfp (Nat.beq t u) (V.same a b)
 | .agg a, .agg b => V.zlo a b
 | .tup a, .tup b => V.zlo a b
 | _, _ => false
def V.zlo : List V → List V → Bool
 | [], [] => true
 | a :: s, b :: t => zfp (V.same a b) (V.zlo s t)
 | _, _ => false
end
mutual
theorem ybe : ∀ {a b : V}, V.same a b = true → a = b
 | .any, b, h => by cases b <;> first | rfl | (simp [V.same] at h; done)
 | .nilp, b, h => by cases b <;> first | rfl | (simp [V.same] at h; done)
 | .nils, b, h => by cases b <;> first | rfl | (simp [V.same] at h; done)
 | .mapn, b, h => by cases b <;> first | rfl | (simp [V.same] at h; done)
 | .nilf, b, h => by cases b <;> first | rfl | (simp [V.same] at h; done)
 | .nili, b, h => by cases b <;> first | rfl | (simp [V.same] at h; done)
 | .bool a, b, h => by
   cases b <;> simp only [V.same] at h <;> first | cases h | rw [y3g h]
 | .int k a, b, h => by
   cases b <;> simp only [V.same] at h <;> first | cases h | skip
   obtain ⟨h1, h2⟩ := z4y h
   rw [ypf (Nat.eq_of_beq_eq_true h1), ymn h2]
 | .str a, b, h => by
   cases b <;> simp only [V.same] at h <;> first | cases h | rw [ygn h]
 | .ptr _ _ _, b, h => by
   cases b <;> simp only [V.same] at h <;> first | cases h | skip
   obtain ⟨h1, h2⟩ := z4y h
   obtain ⟨h2, h3⟩ := z4y h2
   rw [Nat.eq_of_beq_eq_true h1, Nat.eq_of_beq_eq_true h2, Nat.eq_of_beq_eq_true h3]
 | .ap _ _ _ _ _, b, h => by
   cases b <;> simp only [V.same] at h <;> first | cases h | skip
   obtain ⟨h1, h2⟩ := z4y h
   obtain ⟨h2, h3⟩ := z4y h2
   obtain ⟨h3, h4⟩ := z4y h3
   obtain ⟨h4, h5⟩ := z4y h4
   rw [Nat.eq_of_beq_eq_true h1, Nat.eq_of_beq_eq_true h2, Nat.eq_of_beq_eq_true h3, Nat.eq_of_beq_eq_true h4, Nat.eq_of_beq_eq_true h5]
 | .hs _ _ _ _ _ _, b, h => by
   cases b <;> simp only [V.same] at h <;> first | cases h | skip
   obtain ⟨h1, h2⟩ := z4y h
   obtain ⟨h2, h3⟩ := z4y h2
   obtain ⟨h3, h4⟩ := z4y h3
   obtain ⟨h4, h5⟩ := z4y h4
   obtain ⟨h5, h6⟩ := z4y h5
   rw [Nat.eq_of_beq_eq_true h1, Nat.eq_of_beq_eq_true h2, Nat.eq_of_beq_eq_true h3, Nat.eq_of_beq_eq_true h4, Nat.eq_of_beq_eq_true h5, y3g h6]
 | .map _ _, b, h => by
   cases b <;> simp only [V.same] at h <;> first | cases h | skip
   obtain ⟨h1, h2⟩ := z4y h
   rw [Nat.eq_of_beq_eq_true h1, Nat.eq_of_beq_eq_true h2]
 | .ref a i, b, h => by
   cases b <;> simp only [V.same] at h <;> first | cases h | skip
   obtain ⟨h1, h2⟩ := z4y h
   rw [Nat.eq_of_beq_eq_true h1, zds h2]
 | .sl n a x, b, h => by
   cases b <;> simp only [V.same] at h <;> first | cases h | skip
   obtain ⟨h1, h2⟩ := z4y h
   obtain ⟨h2, h3⟩ := z4y h2
   rw [Nat.eq_of_beq_eq_true h1, y3g h2, zds h3]
 | .fn f a c, b, h => by
   cases b <;> simp only [V.same] at h <;> first | cases h | skip
   obtain ⟨h1, h2⟩ := z4y h
   obtain ⟨h2, h3⟩ := z4y h2
   rw [Nat.eq_of_beq_eq_true h1, zds h2, zds h3]
 | .iface t a, b, h => by
   cases b <;> simp only [V.same] at h <;> first | cases h | skip
   obtain ⟨h1, h2⟩ := z4y h
   rw [Nat.eq_of_beq_eq_true h1, ybe h2]
 | .agg a, b, h => by
   cases b <;> simp only [V.same] at h <;> first | cases h | rw [zds h]
 | .tup a, b, h => by
   cases b <;> simp only [V.same] at h <;> first | cases h | rw [zds h]
theorem zds : ∀ {a b : List V}, V.zlo a b = true → a = b
 | [], [], _ => rfl
 | [], _ :: _, h => by simp [V.zlo] at h
 | _ :: _, [], h => by simp [V.zlo] at h
 | a :: s, b :: t, h => by
   simp only [V.zlo] at h
   obtain ⟨h1, h2⟩ := z4y h
   rw [ybe h1, zds h2]
end
def ynv : Option zz5 → Option zz5 → Bool
 | some (.cells a), some (.cells b) => V.zlo a b
 | some (.arr v t s xs none), some (.arr w u z ys none) => zfp (Nat.beq v w) (zfp (Nat.beq t u) (zfp (Nat.beq s z) (V.zlo xs ys)))
 | _, _ => false
theorem ymy {a b : Option zz5} (h : ynv a b = true) : a = b := by
 unfold ynv at h
 split at h
 ·rw [zds h]
 ·obtain ⟨h1, h2⟩ := z4y h
  obtain ⟨h2, h3⟩ := z4y h2
  obtain ⟨h3, h4⟩ := z4y h3
  rw [Nat.eq_of_beq_eq_true h1, Nat.eq_of_beq_eq_true h2, Nat.eq_of_beq_eq_true h3, zds h4]
 ·cases h
noncomputable def ypy (h h2 : XH) (x : Nat) : Bool := zfp (Nat.blt x h.n) (zfp (Nat.blt x h2.n) (ynv (BT.get none (path x) h.t) (BT.get none (path x) h2.t)))
abbrev zpr := Bool → Nat → List V → Nat → XH → Option (Out × XH)
abbrev zd5 := Nat → Nat → List V → Option V
inductive XO where
 | val (v : V) (h : XH)
 | pan (v : V) (h : XH)
 | dfr (f : Nat) (args : List V)
 | bad
section
variable (P : Program) (hk : zd5) (call : zpr) (lv : Nat)
noncomputable def zy9 (e : Option Eff) (h : XH) (k : XO) : XO :=
 match e with
 | some e => (match e.onX lv h with
   | some (v, h') => .val v h'
   | none => .bad)
 | none => k
noncomputable def yoa (o : Op) (T : BT V) (h : XH) : XO :=
 zy9 lv (y1l P lv (xg lv h) (evT T) o) h (zy9 lv (eox P (xg lv h) (evT T) o) h .bad)
def XO.of (r : Option V) (h : XH) : XO := match r with
 | some v => .val v h
 | none => .bad
noncomputable def xop1 (o : Op) (T : BT V) (h : XH) : XO :=
 match o with
 | .move x => .val (evT T x) h
 | .assign x => .val (evT T x) h
 | .load t a => .of (z82 P (z57 (xg lv h) (evT T a)) t (evT T a)) h
 | .binOp op t x y _ => (match zsq P op t (evT T x) (evT T y) with
   | some v => .val v h
   | none => .of (ya5 P (z57 (xg lv h) (evT T x)) op t x y (evT T x) (evT T y)) h)
 | .fieldAddr s x f => .of (z83 P s f (evT T x)) h
 | .call c => match target (evT T) c with
   | some (f, args) => (match hk lv f args with
     | some r => .val r h
     | none => (match call false f args lv h with
       | some (.ret r, h') => .val r h'
       | some (.pan v, h') => .pan v h'
       | none => .bad))
   | none => yoa P lv (.call c) T h
 | .defer c => match target (evT T) c with
   | some (f, args) => .dfr f args
   | none => .bad
 | .panic x => match evT T x with
   | .iface t v => .pan (.iface t v) h
   | _ => .bad
 | o => yoa P lv o T h
abbrev zo5 := Option (zza × BT V × XH × DL)
noncomputable def ynj (n : Nat) (ops : Array Oper) (o : Oper) (k : BT V → XH → DL → zo5) (T : BT V) (h : XH) (D : DL) : zo5 :=
 match zup ops T o with
 | none => none
 | some false => (match zvj n T o.dst (.tup []) with
   | some T' => k T' h D
   | none => none)
 | some true => (match xop1 P hk call lv o.op T h with
   | .val v h' => (match zvj n T o.dst v with
     | some T' => k T' h' D
     | none => none)
   | .pan v h' => some (.panic v, T, h', D)
   | .dfr f args => (match zvj n T o.dst .any with
     | some T' => k T' h ((f, args) :: D)
     | none => none)
   | .bad => none)
noncomputable def yn2 (n : Nat) (ops : Array Oper) (l : List Oper) : BT V → XH → DL → zo5 :=
 @List.rec Oper (fun _ => BT V → XH → DL → zo5) (fun T h D => some (.normal, T, h, D)) (fun o _ ih => ynj P hk call lv n ops o ih) l
noncomputable def xq1 (o : Op) (T : BT V) (h : XH) : Option V :=
 match o with
 | .move x => some (evT T x)
 | .assign x => some (evT T x)
 | .binOp op t x y _ => zsq P op t (evT T x) (evT T y)
 | .call c => match target (evT T) c with
   | some (f, args) => (match hk lv f args with
     | some r => some r
     | none => (match call true f args lv h with
       | some (.ret r, _) => some r
       | _ => none))
   | none => xpv P (xg lv h) (evT T) (.call c)
 | o => xpv P (xg lv h) (evT T) o
noncomputable def yh4 (n : Nat) (ops : Array Oper) (o : Oper) (k : BT V → XH → Option (BT V)) (T : BT V) (h : XH) : Option (BT V) :=
 match zup ops T o with
 | none => none
 | some false => (match zvj n T o.dst (.tup []) with
   | some T' => k T' h
   | none => none)
 | some true => (match xq1 P hk call lv o.op T h with
   | some v => (match zvj n T o.dst v with
     | some T' => k T' h
     | none => none)
   | none => none)
noncomputable def xq (n : Nat) (ops : Array Oper) (l : List Oper) : BT V → XH → Option (BT V) :=
 @List.rec Oper (fun _ => BT V → XH → Option (BT V)) (fun T _ => some T) (fun o _ ih => yh4 P hk call lv n ops o ih) l
def zvs (ops : Array Oper) : Nat → Option Nat → Option Nat
 | 0, b => b
 | k + 1, b => match Region.lexTailB .any ops k with
   | true => zvs ops k (some k)
   | false => b
def ypv (ops : Array Oper) : Option Nat := match Region.lexB .any ops with
 | true => some ops.size
 | false => zvs ops ops.size none
def zj8 (i : Nat) (R : List Nat) : Bool := R.any (Nat.beq i)
noncomputable def xgR (h : XH) (R : List Nat) (l i : Nat) : Option zz5 := match zj8 i R with
 | true => xg lv h l i
 | false => none
def y1k (v : V) : List Nat := match keyOf v with
 | some (l, i) => (match Nat.beq l lv with
   | true => [i]
   | false => [])
 | none => []
noncomputable def zqw (T : BT V) (op : Op) : List Nat := match op with
 | .load _ a => y1k lv (evT T a)
 | .indexAddr _ x _ => y1k lv (evT T x)
 | .slice _ x _ _ _ => y1k lv (evT T x)
 | .lookup _ x _ _ => y1k lv (evT T x)
 | .convert _ _ x => y1k lv (evT T x)
 | .binOp _ _ x _ _ => y1k lv (evT T x)
 | .call c => (match c.callee with
   | .builtin _ => c.args.toList.flatMap fun x => y1k lv (evT T x)
   | _ => [])
 | _ => []
def Eff.wr (h : XH) : Eff → List Nat
 | .keep _ => []
 | .push _ _ => [h.n]
 | .set _ i _ _ => [i]
 | .zir i _ => [i]
inductive CK where
 | quiet (ks : List Nat)
 | eff (ks : List Nat)
 | call (kept : List Nat)
abbrev CL := List (Nat × CK)
def CK.reads : CK → List Nat
 | .quiet ks => ks
 | _ => []
def y1j : CK → CK → Bool
 | .quiet _, .quiet _ => false
 | .quiet a, .eff b => a.any fun k => zj8 k b
 | .eff a, .quiet b => a.any fun k => zj8 k b
 | .eff _, .eff _ => true
 | .call a, .quiet b => b.any fun k => !zj8 k a
 | .quiet b, .call a => b.any fun k => !zj8 k a
 | .call _, _ => true
 | _, .call _ => true
noncomputable def zxz (h h2 : XH) (prev : CL) : List Nat := (prev.flatMap fun p => p.2.reads).filter (ypy h h2)
def okP (all : List Oper) (i : Nat) (c : CK) (prev : CL) : Bool := prev.all fun p => match y1j c p.2 with
 | false => true
 | true => y8q all p.1 i
def yi1 (all : List Oper) (i n : Nat) : Bool := (List.range' (i + 1) (n - (i + 1))).all fun j => y8q all i j
noncomputable def ztm (o : Op) (T : BT V) (h : XH) (R : List Nat) : Option V := match o with
 | .makeSlice t n c => zni P t (evT T n) (evT T c)
 | o => match y1l P lv (xgR lv h R) (evT T) o with
   | some (.keep v) => some v
   | _ => xpv P (xgR lv h R) (evT T) o
inductive XC where
 | val (v : V)
 | pan (v : V)
 | flat (f : Nat) (args : List V)
 | bad
def XC.of : Option V → XC
 | some v => .val v
 | none => .bad
noncomputable def yc0 (o : Op) (T : BT V) (h : XH) (R : List Nat) : XC :=
 match o with
 | .call c => (match target (evT T) c with
   | some (f, args) => (match hk lv f args with
     | some r => .val r
     | none => (match call true f args lv h with
       | some (.ret r, _) => .val r
       | some (.pan v, _) => .pan v
       | none => .flat f args))
   | none => .of (ztm P lv (.call c) T h R))
 | o => .of (ztm P lv o T h R)
noncomputable def yq2 (o : Op) (T : BT V) (h : XH) : Option Eff := match y1l P lv (xg lv h) (evT T) o with
 | some e => some e
 | none => eox P (xg lv h) (evT T) o
abbrev ykh := Option (zza × BT V × XH)
noncomputable def yi3 (n : Nat) (ops : Array Oper) (i : Nat) (o : Oper) (prev : CL) (k : CL → BT V → XH → ykh) (T : BT V) (h : XH) : ykh :=
 match zup ops T o with
 | none => none
 | some false => (match zvj n T o.dst (.tup []) with
   | some T' => k ((i, .quiet []) :: prev) T' h
   | none => none)
 | some true => (match yht o.op with
   | true => (match yq2 P lv o.op T h with
     | some e => (match okP ops.toList i (.eff (e.wr h)) prev with
       | true => (match e.onX lv h with
         | some (v, h') => (match zvj n T o.dst v with
           | some T' => k ((i, .eff (e.wr h)) :: prev) T' h'
           | none => none)
         | none => none)
       | false => none)
     | none => none)
   | false => (match yc0 P hk call lv o.op T h (zqw lv T o.op) with
     | .val v => (match okP ops.toList i (.quiet (zqw lv T o.op)) prev with
       | true => (match zvj n T o.dst v with
         | some T' => k ((i, .quiet (zqw lv T o.op)) :: prev) T' h
         | none => none)
       | false => none)
     | .pan v => (match okP ops.toList i (.call (zxz h h prev)) prev with
       | true => (match yi1 ops.toList i ops.size with
         | true => some (.panic v, .leaf, h)
         | false => none)
       | false => none)
     | .flat f args => (match yi1 ops.toList i ops.size with
       | true => (match call false f args lv h with
         | some (.ret r, h') => (match okP ops.toList i (.call (zxz h h' prev)) prev with
           | true => (match zvj n T o.dst r with
             | some T' => k ((i, .call (zxz h h' prev)) :: prev) T' h'
             | none => none)
           | false => none)
         | some (.pan v, h') => (match okP ops.toList i (.call (zxz h h' prev)) prev with
           | true => some (.panic v, .leaf, h')
           | false => none)
         | none => none)
       | false => none)
     | .bad => none))
noncomputable def ykq (n : Nat) (ops : Array Oper) (l : List Oper) : Nat → CL → BT V → XH → ykh :=
 @List.rec Oper (fun _ => Nat → CL → BT V → XH → ykh) (fun _ _ T h => some (.normal, T, h)) (fun o _ ih i prev T h => yi3 P hk call lv n ops i o prev (ih (Nat.succ i)) T h) l
def y8b (f : BT V → XH → DL → zo5) : zo5 → zo5
 | some (.normal, T, h, D) => f T h D
 | r => r
noncomputable def yd1 (f : BT V → XH → DL → zo5) (m : Nat) : BT V → XH → DL → zo5 :=
 @Nat.rec (fun _ => BT V → XH → DL → zo5) (fun _ _ _ => none) (fun _ ih T h D => y8b ih (f T h D)) m
noncomputable def yjl (n : Nat) (ops : Array Oper) (T : BT V) (h : XH) (D : DL) : zo5 := match zu1 .any ops (List.range' 0 ops.size) (Array.replicate ops.size false) with
 | true => (match ykq P hk call lv n ops ops.toList 0 [] T h with
   | some (e, T', h') => some (e, T', h', D)
   | none => none)
 | false => none
noncomputable def yas (n : Nat) (ops : Array Oper) (draw : Bool) (T : BT V) (h : XH) (D : DL) : zo5 :=
 match draw with
 | false => yn2 P hk call lv n ops ops.toList T h D
 | true => match ypv ops with
   | some k => (match xq P hk call lv n ops (ops.toList.take k) T h with
     | some T' => yn2 P hk call lv n ops (ops.toList.drop k) T' h D
     | none => yjl P hk call lv n ops T h D)
   | none => yjl P hk call lv n ops T h D
noncomputable def yn5 (o : Operand) (fa fb : BT V → XH → DL → zo5) (T : BT V) (h : XH) (D : DL) : zo5 :=
 match evT T o with
 | .bool true => fa T h D
 | .bool false => fb T h D
 | _ => none
def ygx (id : Nat) : zo5 → zo5
 | some (.exit i, T', h', D') => (match Nat.beq i id with
   | true => some (.normal, T', h', D')
   | false => some (.exit i, T', h', D'))
 | r => r
noncomputable def zpx (n lf : Nat) (c : Code) : BT V → XH → DL → zo5 :=
 @Code.rec (fun _ => BT V → XH → DL → zo5) (fun T h D => some (.normal, T, h, D)) (fun _ ops draw => yas P hk call lv n ops draw) (fun _ _ fa fb T h D => y8b fb (fa T h D)) (fun o _ _ fa fb => yn5 o fa fb)
  (fun id _ f T h D => ygx id (f T h D)) (fun _ f => yd1 f lf) (fun _ _ _ _ _ _ _ _ _ => none) (fun id T h D => some (.exit id, T, h, D)) (fun _ _ _ _ _ => none) (fun _ _ _ _ => none) (fun _ _ _ _ => none) (fun T h D => some (.ret, T, h, D)) (fun _ _ _ _ => none) c
noncomputable def resX (g : Nat → Nat → Option zz5) (T : BT V) : ResultVar → Option V
 | .tmp t => some (evT T (.tmp t))
 | .cell a t => z82 P (z57 g (evT T (.tmp a))) t (evT T (.tmp a))
noncomputable def zy3 (g : Nat → Nat → Option zz5) (T : BT V) : List ResultVar → Option (List V)
 | [] => some []
 | r :: rs => match resX P g T r, zy3 g T rs with
   | some v, some vs => some (v :: vs)
   | _, _ => none
end
section
variable (P : Program) (hk : zd5) (call : zpr) (lv : Nat)
noncomputable def xS (n lf : Nat) (m : z5u) : Code → BT V → XH → Option (zza × BT V × XH)
 | .seq a b, T, h => match xS n lf m a T h with
   | some (.normal, T', h') => (match zpx P hk call lv n lf b T' h' [] with
     | some (e, T2, h2, []) => some (e, T2, h2)
     | _ => none)
   | _ => none
 | .region _ ops draw, T, h => match draw, ops.toList with
   | false, o :: rest => (match isRec o with
     | true => (match zvj n T o.dst m.value with
       | some T' => (match yn2 P hk call lv n ops rest T' h [] with
         | some (e, T2, h2, []) => some (e, T2, h2)
         | _ => none)
       | none => none)
     | false => none)
   | _, _ => none
 | _, _, _ => none
noncomputable def ycs (fn : Func) (T : BT V) (h : XH) (m : z5u) : Option (XH × z5u) := match zy3 P (xg lv h) T fn.results.toList with
 | some _ => some (h, m)
 | none => none
noncomputable def yq1 (lf : Nat) (fn : Func) (b : Code) (vs : List V) (m : z5u) (h : XH) : Option (XH × z5u) := match zpx P hk call lv fn.ntmps lf b (zf1 0 vs .leaf) h [] with
 | some (.ret, T, h', []) => ycs P lv fn T h' m
 | some (.normal, T, h', []) => ycs P lv fn T h' m
 | _ => none
noncomputable def xdef (lf f : Nat) (vs : List V) (m : z5u) (h : XH) : Option (XH × z5u) := match P.funcs[f]? with
 | none => none
 | some fn => match fn.body with
   | none => none
   | some b => match (fn.name == "runtime.NumGoroutine") || !(Nat.ble vs.length fn.ntmps) with
     | true => none
     | false => match xS P hk call lv fn.ntmps lf m b (zf1 0 vs .leaf) h with
       | some (.ret, T, h') => ycs P lv fn T h' m.ze8
       | some (.normal, T, h') => ycs P lv fn T h' m.ze8
       | some _ => none
       | none => yq1 P hk call lv lf fn b vs m h
noncomputable def zls (lf : Nat) (fn : Func) (T : BT V) : DL → z5u → XH → Option (Out × XH)
 | [], .ret, h => (match T with
   | .leaf => (match fn.results.toList with
     | [] => some (.ret (z9j []), h)
     | _ :: _ => none)
   | .node _ _ _ => (match zy3 P (xg lv h) T fn.results.toList with
     | some vs => some (.ret (z9j vs), h)
     | none => none))
 | [], .pan v false, h => some (.pan v, h)
 | [], .pan _ true, _ => none
 | (f, vs) :: ds, m, h => match xdef P hk call lv lf f vs m h with
   | some (h', m') => zls lf fn T ds m'.settle h'
   | none => none
end
noncomputable def y7k (P : Program) (hk : zd5) (call : zpr) (lf : Nat) (fn : Func) (b : Code) (args : List V) (lv : Nat) (h : XH) : Option (Out × XH) :=
 match zpx P hk call lv fn.ntmps lf b (zf1 0 args .leaf) h [] with
 | some (.ret, T, h', D) => zls P hk call lv lf fn T D .ret h'
 | some (.normal, T, h', D) => zls P hk call lv lf fn T D .ret h'
 | some (.panic v, T, h', D) => zls P hk call lv lf fn T D (.pan v false) h'
 | _ => none
noncomputable def ykf (P : Program) (hk : zd5) (call : zpr) (lf K : Nat) (fn : Func) (b : Code) (args : List V) (lv : Nat) : Option Out :=
 match y7k P hk call lf fn b args (Nat.succ lv) ⟨0, .leaf⟩ with
 | some (.ret v, h') => (frz (Nat.succ lv) (xg (Nat.succ lv) h') K v).map .ret
 | some (.pan v, h') => (frz (Nat.succ lv) (xg (Nat.succ lv) h') K v).map .pan
 | none => none
noncomputable def yia (P : Program) (hk : zd5) (lf K : Nat) (fl : List Nat) (ih : zpr) : zpr := fun pure f args lv h => match P.funcs[f]? with
 | none => none
 | some fn => match fn.body with
   | none => none
   | some b => match (fn.name == "runtime.NumGoroutine") || !(Nat.ble args.length fn.ntmps) with
     | true => none
     | false => match zfp (V.zrp args) (!zj8 f fl) with
       | true => (match ykf P hk ih lf K fn b args lv with
         | some o => some (o, h)
         | none => (match pure with
           | true => none
           | false => y7k P hk ih lf fn b args lv h))
       | false => (match pure with
         | true => none
         | false => y7k P hk ih lf fn b args lv h)
noncomputable def yju (P : Program) (hk : zd5) (lf K : Nat) (fl : List Nat) (m : Nat) : zpr := @Nat.rec (fun _ => zpr) (fun _ _ _ _ _ => none) (fun _ ih => yia P hk lf K fl ih) m
end Go.Ab

