/-
  THE TYPED MACHINE: functions that panic, and deferred calls.
-/
import Derived.Test.YthlmhmebajjkbaaGreatDoorLib7
import Derived.Test.YthlmhmebajjkbaaGreatDoorLib2
import Derived.Test.YthlmhmebajjkbaaGreatDoorLib3
import Derived.Test.YthlmhmebajjkbaaGreatDoorLib1
import Derived.Lib.Bytealg
import Derived.Laws.RangeAny
namespace Go.Ab
open Go
set_option linter.unusedVariables false
set_option linter.unusedSimpArgs false
set_option linter.unusedSectionVars false
section
variable {P : Program} {D : Dat} {F : Fr} {ρ : List Slot} {ts : TS D.T} {σ : St} {lv : Nat} {R X : Type}
theorem y6s (hD:D.Ok P) (hR:TRr D F ρ ts σ) {pan:Sh} {pos:List OSh} {p:Nat} {z:TV D.T} {v:V} {x:HL D.T (pan.tys++z09 pos)} (hp:F.pin.length<=p) (hp2:p<=pos.length) (hz:VR D ρ F.lv z v) (h:ycb D pan pos p z ts=some x) :
  ∃ρ',TRr D F ρ' ⟨[],z2m D (λk=>k) pos 0 (HL.snd _ x),pos.length,ts.nt,[],[]⟩ σ∧VR D ρ' F.lv (zi8 D (λk=>k) pan (HL.fst _ x)) v:=by
 unfold ycb at h;split at h
 ·rename_i hde;split at h
  ·rename_i M y hy;split at h
   ·rename_i M' w hw;injection h with h;subst h;obtain ⟨a1,a2,a3⟩:=zj6 hD pan hy hz;obtain ⟨b1,b2,b3,b4⟩:=zjs hD hR pos hw;have hM:MOk pos.length M':=b2 (a2 ⟨λk src h=>by have:=(zhl h).1;omega,λk k' s h h'=>by have e:=(zhl h).2;have e':=(zhl h').2;injection e with e;injection e' with e';omega,λk src hm=>zys hm⟩);obtain ⟨ρ',c1,c2,c3⟩:=ybr hR hM λj hj=>by simpa using b3 j hj
    rw [HL.zk6,HL.zk1]
    have place:∀s sl i,ρ'[s]? = some sl->sl.has i->∃s0 o0,fnd M' s=some (.slot s0)∧fnd ts.o s0=some o0∧o0.live∧ρ[s0]? = some sl:=λs sl i hs hk=>by
     obtain ⟨src,e1,e2⟩:=c3 s sl hs
     cases src with
     |nil=>simp only [Src.is] at e2;subst e2;rcases hk with h|h <;> cases h
     |slot s0=>
      obtain ⟨src',e3,e4⟩:=b3 s (by rw [<-c1];exact (Qaa.1 hs).1)
      rw [Nat.zero_add,e1] at e3;injection e3 with e3;subst e3
      obtain ⟨o0,f1,f2⟩:=e4 s0 rfl;exact ⟨s0,o0,e1,f1,f2,e2⟩
    refine ⟨ρ',⟨c1,hR.nt,λj c hj=>by simp [fnd] at hj,λs o ho => ?_,λs s' o o' sl sl' i h1 h2 l1 l2 r1 r2 k1 k2 => ?_,λs o sl i h1 l1 r1 k1 => ?_,hR.lv,hR.E,hR.e0,(by have:=hR.d;rw [hde] at this;exact this),hR.out,λj sl hj => ?_,λs o sl i h1 l1 r1 k1=>by
     obtain ⟨s0,o0,d1,d2,d3,d4⟩:=place s sl i r1 (.inr k1)
     exact hR.fpl s0 o0 sl i d2 d3 d4 k1,λi s v h=>by simp at h⟩,a3 ρ' (b1.agr c2)⟩
    rotate_right
    ·have hlt:=(Qaa.1 hj).1;obtain ⟨sl',e1,e2⟩:=c2 j _ (b1 _ _ (a1 _ _ (ztv (n:=p) (k:=j) (by omega))));simp only [Src.is] at e2
     rw [hR.pin j sl hj] at e2;injection e2 with e2;subst e2;exact e1
    ·obtain ⟨_,_,_,sl,e1,e2⟩:=b4 ρ' c2 s o (z4b ho);exact ⟨sl,e1,e2⟩
    ·obtain ⟨s0,o0,d1,d2,d3,d4⟩:=place s sl i r1 k1;obtain ⟨s1,o1,e1,e2,e3,e4⟩:=place s' sl' i r2 k2;have:=hR.inj s0 s1 o0 o1 sl sl' i d2 e2 d3 e3 d4 e4 k1 k2;subst this;exact hM.inj s s' s0 d1 e1
    ·obtain ⟨s0,o0,d1,d2,d3,d4⟩:=place s sl i r1 k1;exact hR.mine s0 o0 sl i d2 d3 d4 k1
   ·cases h
  ·cases h
 ·cases h
def z6v (lv:Nat) (L:List (Option kz2)) (E:Nat->Nat->Option kz2) (ρ0:List Slot) (p:Nat):Fr :=
 ⟨lv,E,E,L,λi=>i<L.length∧∀(k:Nat) (sl0:Slot),ρ0[k]? = some sl0->¬sl0.has i,ρ0.take p,[]⟩
theorem ydc {L:List (Option kz2)} {E:Nat->Nat->Option kz2} {ρ0 ρ':List Slot} {p:Nat} {os:List OSh} {y:HL D.T (z09 os)} {τ:St} (hR:TRr D (z6v lv L E ρ0 p) ρ' ts τ) (ho:ts.o=z2m D (λk=>k) os 0 y) (hnx:ts.nx=os.length) :
  τ.H=⟨lv,τ.H.L,E⟩∧Left D lv L ρ0 p τ.H.L ρ' os y:=by
 have hlen':ρ'.length=os.length:=by rw [hR.nx,hnx]
 have live:∀s sl,ρ'[s]? = some sl->∃o,fnd ts.o s=some o∧o.live:=λs sl hs=>by
  rw [ho];exact zsv os (Qbn _) (by rw [Nat.zero_add,<-hlen'];exact (Qaa.1 hs).1)
 refine ⟨zl1 (F:=z6v lv L E ρ0 p) τ.H hR.lv hR.E,hlen',λj o hm => ?_,λs s' sl sl' i r1 r2 c1 c2 => ?_,λs sl i r1 c1 => ?_,λi hi hno=>hR.out i ⟨hi,hno⟩,λj sl hj hs => ?_,λs sl i r1 c1=>by
  obtain ⟨o,a1,a2⟩:=live s sl r1
  exact hR.fpl s o sl i a1 a2 r1 c1⟩
 ·exact hR.ob j o (by rw [ho];exact ztq os hm)
 ·obtain ⟨o,a1,a2⟩:=live s sl r1;obtain ⟨o',b1,b2⟩:=live s' sl' r2;exact hR.inj s s' o o' sl sl' i a1 b1 a2 b2 r1 r2 c1 c2
 ·obtain ⟨o,a1,a2⟩:=live s sl r1;have:=hR.mine s o sl i a1 a2 r1 c1;by_cases hlt:i<L.length
  ·right;by_cases hex:∃(k:Nat) (sl0:Slot),ρ0[k]? = some sl0∧sl0.has i
   ·exact hex
   ·exact (this ⟨hlt,λk sl0 e1 e2=>hex ⟨k,sl0,e1,e2⟩⟩).elim
  ·left;omega
 ·exact hR.pin j sl (by simp only [z6v,Qau];rw [Qbp hj];exact hs)
theorem zue:∀(l:List Sh) (y:HL D.T (Sh.z1a l)),(z15 D (λk=>k) l y).length=l.length
 |[],_=>rfl
 |s::l,y=>by
  show (zi8 D (λk=>k) s (HL.fst _ y)::z15 D (λk=>k) l (HL.snd _ y)).length=_;rw [List.length_cons,zue l,List.length_cons]
structure yac (D:Dat) (lv:Nat) (L:List (Option kz2)) (ρ0:List Slot) (args:List Sh) (aos:List OSh) (x:HL D.T (Sh.z1a args++z09 aos)) (vargs:List V):Prop where
 len:ρ0.length=aos.length
 args:VRL D ρ0 lv (z15 D (λk=>k) args (HL.fst _ x)) vargs
 ob:∀j o,(j,o)∈z2m D (λk=>k) aos 0 (HL.snd _ x)->∃sl,ρ0[j]? = some sl∧OR D ρ0 lv L sl o
 inj:SlOk L ρ0
theorem yac.entry {L:List (Option kz2)} {E:Nat->Nat->Option kz2} {ρ0:List Slot} {args:List Sh} {aos:List OSh} {x:HL D.T (Sh.z1a args++z09 aos)} {vargs:List V} (h:yac D lv L ρ0 args aos x vargs) (p:Nat) {nt:Nat} (hargs:args.length<=nt) :
  TRr D (z6v lv L E ρ0 p) ρ0 (entry D args aos nt [] x) ⟨vargs++List.replicate (nt-vargs.length) .any,⟨lv,L,E⟩,[],E⟩:=by
 have hvl:vargs.length=args.length:=by rw [<-h.args.length];exact zue _ _
 refine ⟨h.len,by simp only [Ab.entry,Qan,List.length_replicate];omega,znm _ h.args,λs o ho=>h.ob s o (z4b ho),λs s' o o' sl sl' i a1 a2 l1 l2 r1 r2=>h.inj.1 s s' sl sl' i r1 r2,λs o sl i a1 l1 r1 hk ho=>ho.2 s sl r1 hk,rfl,rfl,rfl,rfl,λi hi=>⟨hi.1,rfl⟩,λj sl hj => ?_,λs o sl i a1 l1 r1 hk=>h.inj.2 s sl i r1 hk,λi s v hi=>by simp [Ab.entry] at hi⟩
 simp only [z6v,Qau] at hj;split at hj
 ·exact hj
 ·cases hj
def yh7 (D:Dat) (lv:Nat):(m:Option Sh)->HL D.T (zvu m)->zl9->Prop
 |none,_,am=>am = .ret
 |some s,x,am=>∃v,am = .pan v false∧VR D [] lv (zi8 D (λk=>k) s x) v
def zq2.Ok (P:Program) (de:zq2 D):Prop:=∀x mx y,de.go x mx=some y->∀(lv:Nat) (L:List (Option kz2)) (E:Nat->Nat->Option kz2) (ρ0:List Slot) (vargs:List V),yac D lv L ρ0 de.args de.aos x vargs ->
 ∀(am:zl9),yh7 D lv de.m mx am->∀(W:World) (g:Gh) (cargs:Array Value) (u:FrameMode),Good W g ⟨lv,L,E⟩->zgl W g ⟨lv,L,E⟩ vargs cargs->y6y W g ⟨lv,L,E⟩ am u ->
  (∀w,(callFunc de.f cargs).run P w = .ok (.enter de.f cargs) w)∧CallsD P de.f cargs u W (λe u' W'=>∃v L' g' ρ',e = .returned v∧Step W g ⟨lv,L,E⟩ W' g' ⟨lv,L',E⟩∧Good W' g' ⟨lv,L',E⟩∧settle u' = .returning∧Left D lv L ρ0 de.aos.length L' ρ' de.ros y)
def yfw (D:Dat) (ρ:List Slot) (lv:Nat) (z:Option (TV D.T)) (am:zl9):Prop:=match z with
 |none=>am = .ret
 |some z=>∃v,am = .pan v false∧VR D ρ lv z v
theorem y2o (hD:D.Ok P) {m:Option Sh} {z:Option (TV D.T)} {mx:HL D.T (zvu m)} (h:y5b D m z=some mx) {am:zl9} (hz:yfw D ρ lv z am):yh7 D lv m mx am:=by
 cases m with
 |none=>
  cases z with
  |none=>exact hz
  |some z=>cases h
 |some s=>
  cases z with
  |none=>cases h
  |some z=>
   simp only [y5b] at h;split at h
   · rename_i M x hx;injection h with h;subst h;obtain ⟨v,h1,h2⟩:=hz;obtain ⟨a1,a2,a3⟩:=zj6 hD s hx h2;refine ⟨v,h1,a3 [] λk src hk => ?_⟩;have hM:=a2 ⟨λk src h=>by simp [fnd] at h,λk k' s h=>by simp [fnd] at h,λk src h=>by cases h⟩;exact absurd (hM.lt k src hk) (by omega)
   · cases h
theorem zum (hD:D.Ok P) {des:List (zq2 D)} (hdes:∀de∈des,de.Ok P) {fn:Func} {tm:Array Value} {k:TS D.T->Option R} {kp:TV D.T->TS D.T->Option R} {r:R} {R':Ending->World->Prop} {W0:World} {g0:Gh} {H0:Heap}
  (hk:∀ts σ ρ a W g,TRr D F ρ ts σ->zzn W a g σ->Step W0 g0 H0 W g σ.H->a.tmps=tm->k ts=some r->∃c,(results fn tm).run P W = .ok c W∧R' (.returned c) W)
  (hkp:∀z ts σ ρ a W g v c,TRr D F ρ ts σ->zzn W a g σ->Step W0 g0 H0 W g σ.H->VR D ρ F.lv z v->Rel W g σ.H v c->kp z ts=some r->R' (.panicked [{v:=c,recovered:=false}]) W) :
  ∀(l:List (Nat×List (TV D.T))) (z:Option (TV D.T)) (am:zl9) (ts:TS D.T) (σ:St) (ρ:List Slot) (a:Act) (W:World) (g:Gh) (u:FrameMode),ts.d=l->TRr D F ρ ts σ->zzn W a g σ->Step W0 g0 H0 W g σ.H->a.tmps=tm->y6y W g σ.H am u ->
   yfw D ρ F.lv z am->zi4 D des k kp l z ts=some r->Leaves P fn tm R' a.defers u W
 |[],z,am,ts,σ,ρ,a,W,g,u,hd,hR,hG,hS,htm,hM,hz,h=>by
  have hd0:σ.d=[]:=by have:=hR.d;rw [hd] at this;exact this
  have hd1:a.defers=[]:=Qam (by rw [hG.dlen,hd0];rfl);rw [hd1]
  cases z with
  |none=>
   have hz:am = .ret:=hz;subst hz;have hu:u = .returning:=hM;subst hu
   exact hk ts σ ρ a W g hR hG hS htm h
  |some z=>
   obtain ⟨v,rfl,hv⟩:=hz;obtain ⟨c,h1,h2⟩:=hM;subst h1
   exact hkp z ts σ ρ a W g v c hR hG hS hv h2 h
 |(f,vs)::l,z,am,ts,σ,ρ,a,W,g,u,hd,hR,hG,hS,htm,hM,hz,h=>by
  simp only [zi4] at h;have hdl:=hR.d;rw [hd] at hdl;obtain ⟨vargs,s,hs1,hs2,hs3⟩:=hdl;obtain ⟨caps,as,k1,k2⟩:=hG.defs 0 f vargs (by rw [hs1];rfl)
  obtain ⟨d0,ds0,hds⟩:∃d0 ds0,a.defers=d0::ds0:=by
   cases hq:a.defers with
   |nil=>rw [hq] at k1;cases k1
   |cons d0 ds0=>exact ⟨d0,ds0,rfl⟩
  rw [hds] at k1;simp only [Qbu,Qbm] at k1;subst k1
  have look:∀des':List (zq2 D),(∀de∈des',de∈des)->zsm D f vs z ts (λts'=>zi4 D des k kp l none {ts' with d:=l}) des'=some r->Leaves P fn tm R' a.defers u W:=λdes'=>by
   induction des' with
   |nil=>intro _ h;cases h
   |cons de rest ih=>
    intro hmem h;have ih:=ih λe he=>hmem e (Qag _ he)
    simp only [zsm] at h;split at h
    · exact ih h
    · rename_i hf;have hf:=Qah hf;split at h
      · exact ih h
      · rename_i mx hmx;split at h
        · rename_i M x hfit;split at h
          · rename_i hc;obtain ⟨c1,c2⟩:=hc;obtain ⟨y,hy,h⟩:=z0u h;obtain ⟨hMok,ρ0,d1,d2,d3,d4,d5⟩:=Ent.zit hD hR (e:=de.ent) hs2 hfit
            have hp:∀k,k<de.aos.length->∃s,fnd M k=some (.slot s):=λk hk=>by
             have:=Qar.1 c2 k (List.mem_range.2 hk);split at this
             · rename_i s hs;exact ⟨s,hs⟩
             · cases this
            have hHeap:σ.H=⟨F.lv,σ.H.L,F.E⟩:=zl1 σ.H hR.lv hR.E;have hgiven:yac D F.lv σ.H.L ρ0 de.args de.aos x vargs:=⟨d1,d4,d5,ztf hR hMok d3⟩;have hde:=hdes de (hmem de Qai)
            have hmode:am = .ret∨∃v,am = .pan v false:=by
             cases z with
             |none=>exact .inl hz
             |some z=>obtain ⟨v,h1,_⟩:=hz;exact .inr ⟨v,h1⟩
            have hG0:=hG.good;rw [hHeap] at hG0 k2 hM;obtain ⟨e1,e2⟩:=hde x mx y hy F.lv σ.H.L F.E ρ0 vargs hgiven am (y2o hD hmx hz) W g (as++caps) u hG0 k2 hM;rw [hf] at e1 e2;rw [hds];have hu:u ≠ .run:=hM.run;refine leaves_cons hu (by show (callFunc f (as++caps)).run P W=_;exact e1 W) (e2.mono λe u' W' ⟨v,L',g',ρ',q1,q2,q3,q4,q5⟩ => ?_);subst q1;rw [<-hHeap] at q2
            obtain ⟨g1,g2⟩:=TRr.after hR hD hMok d2 d3 (λk s hm=>hMok.one k _ hm) hp c1 q5
            have hR2:TRr D F (ρ++ρ'.drop de.aos.length) {z7n D M de.aos.length ts de.ros y with d:=l} {σ with H:=⟨F.lv,L',F.E⟩,d:=s}:=by
             have hd2:DfL D ρ F.lv l s:=hs3;exact ⟨g1.nx,g1.nt,g1.tm,g1.ob,g1.inj,g1.mine,g1.lv,g1.E,g1.e0,hd2.more _,g1.out,g1.pin,g1.fpl,g1.g⟩
            have hG2:zzn W' {a with defers:=ds0} g' {σ with H:=⟨F.lv,L',F.E⟩,d:=s}:=by
             have hl:=hG.dlen;rw [hds,hs1] at hl;refine ⟨q3,hG.size,λj v hj=>(hG.tmps j v hj).mono q2,by simpa using hl,λj f' vs' hj => ?_⟩;obtain ⟨caps',as',z1,z2⟩:=hG.defs (j+1) f' vs' (by rw [hs1];simpa using hj);exact ⟨caps',as',by rw [hds] at z1;simpa using z1,z2.mono q2⟩
            exact zum hD hdes hk hkp l none .ret _ {σ with H:=⟨F.lv,L',F.E⟩,d:=s} _ {a with defers:=ds0} W' g' (settle u') rfl hR2 hG2 (hS.trans q2) htm q4 rfl h
          · cases h
        · exact ih h
  exact look des (λde h=>h) h
def EndQP (D:Dat) (F:Fr) {Z:Type} (K:Ks D.T Z) (r:Z) (e:zz9) (σ:St):Prop :=
 match e with
 | .normal=>∃ts,TR D F ts σ∧K.kn ts=some r
 | .ret=>∃ts,TR D F ts σ∧K.kr ts=some r
 | .panic v=>∃ts ρ z,TRr D F ρ ts σ∧VR D ρ F.lv z v∧K.kp z ts=some r
 | .exit _=>False
theorem yh8 {Z:Type} {K:Ks D.T Z} (hkx:K.kx=[]) {r:Z}:KOk D F K (EndQP D F K r) r :=
 ⟨λts σ hT h=>⟨ts,hT,h⟩,λid k ts σ h=>by rw [hkx] at h;simp [fnd] at h,λts σ hT h=>⟨ts,hT,h⟩,λz ts σ ρ v hR hv h=>⟨ts,ρ,z,hR,hv,h⟩⟩
theorem y3d (hD:D.Ok P) {Z:Type} {f p nt:Nat} {args:List Sh} {aos:List OSh} {fn:Func} {code:Code} {l:LSh} {kret:HL D.T l.tys->Z} {kpan:TV D.T->TS D.T->Option Z} {des:List (zq2 D)} {go:HL D.T (Sh.z1a args++z09 aos)->Option Z} {K:Ks D.T Z}
  (hf:P.funcs[f]? = some fn) (hb:fn.body=some code) (hnt:fn.ntmps=nt) (hent:∀args w,(callFunc f args).run P w = .ok (.enter f args) w) (hargs:args.length<=nt) (hp1:p<=l.pin) (hp2:l.pin<=l.os.length)
  (hK:K=⟨λts=>zi4 D des (l.enter D (λx=>some (kret x)) 9) kpan ts.d none ts,[],λts=>zi4 D des (l.enter D (λx=>some (kret x)) 9) kpan ts.d none ts,λz ts=>zi4 D des (l.enter D (λx=>some (kret x)) 9) kpan ts.d (some z) ts⟩)
  (hdes:∀de∈des,de.Ok P) (hrun:yen P D code p args aos nt [] K go) {x:HL D.T (Sh.z1a args++z09 aos)} {z0:Z} (hz:go x=some z0) {lv:Nat} {L:List (Option kz2)} {E:Nat->Nat->Option kz2} {ρ0:List Slot} {vargs:List V} (hg:yac D lv L ρ0 args aos x vargs) {Post:Out->Heap->Prop}
  (hret:∀y υ ρ',kret y=z0->TRr D (z6v lv L E ρ0 p) ρ' (l.bld D y) υ->∃vs,y3y P υ fn.results.toList=some vs∧Post (.ret (z7d vs)) υ.H)
  (hpan:∀z ts σ ρ v,TRr D (z6v lv L E ρ0 p) ρ ts σ->VR D ρ lv z v->kpan z ts=some z0->Post (.pan v) σ.H):zn2 P f vargs ⟨lv,L,E⟩ Post:=λW g cargs hG hA=>by
 subst hnt;refine ⟨hent cargs W,calls_of_wp_defers hf hb ?_⟩;have hpl:(z6v lv L E ρ0 p).pin.length<=p:=by simp only [z6v,Qaw];omega
 have hkx:K.kx=[]:=by rw [hK]
 have hsat:=hrun (z6v lv L E ρ0 p) _ z0 hpl (yh8 (K:=K) hkx) x _ (hg.entry (E:=E) p hargs).tr hz;refine wp_mono (hsat W g ⟨lv,L,E⟩ W _ g ⟨hG⟩ ⟨rfl,.refl _ _ _⟩ (ybq hG hA)).wp λex a W' ⟨g1,σ,e',q1,q2,q3,q4⟩ => ?_
 let PostE:Ending->World->Prop:=λen W'=>∃o H' g',Post o H'∧Step W g ⟨lv,L,E⟩ W' g' H'∧Good W' g' H'∧yhu W' g' H' o en
 have done:∀(z:Option (TV D.T)) (am:zl9) (u:FrameMode) (ts:TS D.T) (τ:St) (ρ:List Slot) (g2:Gh),TRr D (z6v lv L E ρ0 p) ρ ts τ->zzn W' a g2 τ->Step W g ⟨lv,L,E⟩ W' g2 τ.H->y6y W' g2 τ.H am u->yfw D ρ lv z am ->
   zi4 D des (l.enter D (λx=>some (kret x)) 9) kpan ts.d z ts=some z0->Leaves P fn a.tmps PostE a.defers u W':=λz am u ts τ ρ g2 hR hG2 hS2 hM hz hl=>by
  refine zum (F:=z6v lv L E ρ0 p) (R':=PostE) (W0:=W) (g0:=g) (H0:=⟨lv,L,E⟩) hD hdes (λts σ ρ a W2 g2 t1 t2 t3 t4 t5 => ?_) (λz ts σ ρ a W2 g2 v c t1 t2 t3 t4 t5 t6 => ?_) ts.d z am ts τ ρ a W' g2 u rfl hR hG2 hS2 rfl hM hz hl
  ·obtain ⟨y,hy,υ,ρ',w1,w2⟩:=LSh.z9t hD (by omega) hp2 t1.tr t5;injection hy with hy;obtain ⟨g3,w3,w4⟩:=w1 W g ⟨lv,L,E⟩ W2 a g2 ⟨hG⟩ ⟨t1.e0,t3⟩ t2;obtain ⟨vs,r1,r2⟩:=hret y υ ρ' hy w2;obtain ⟨c,z1,z2⟩:=zkp (P:=P) (fn:=fn) (v:=z7d vs) w4 (by simp only [z5u,r1,Qbl]);rw [t4] at z1;exact ⟨c,z1,.ret (z7d vs),υ.H,g3,r2,w3.2,w4.good,c,rfl,z2⟩
  ·exact ⟨.pan v,σ.H,g2,hpan z ts σ ρ v t1 t4 t6,t3,t2.good,c,rfl,t5⟩
 have back:∀{ts:TS D.T},TR D (z6v lv L E ρ0 p) ts σ->zi4 D des (l.enter D (λx=>some (kret x)) 9) kpan ts.d none ts=some z0->Leaves P fn a.tmps PostE a.defers .returning W':=λ{ts} hT hl=>by
  obtain ⟨τ,ρ,w1,w2⟩:=hT;obtain ⟨g2,w3,w4⟩:=w1 W g ⟨lv,L,E⟩ W' a g1 ⟨hG⟩ q2 q3;exact done none .ret .returning ts τ ρ g2 w2 w4 w3.2 rfl rfl hl
 subst hK
 cases q1 with
 |normal=>obtain ⟨ts,hT,hl⟩:=q4;exact back hT hl
 |ret=>obtain ⟨ts,hT,hl⟩:=q4;exact back hT hl
 |exit id=>exact q4.elim
 |panic v c hr=>
  obtain ⟨ts,ρ,z,hR,hv,hl⟩:=q4;exact done (some z) (.pan v false) _ ts σ ρ g1 hR q3 q2.2 ⟨c,rfl,hr⟩ ⟨v,rfl,hv⟩ hl
theorem yfy (hD:D.Ok P) {e:Ent D} {fn:Func} {code:Code} {nt:Nat} {l:LSh} {pack:HL D.T l.tys->R} {un:R->HL D.T (Sh.z1a e.outs++z09 e.ros)} {des:List (zq2 D)}
  {go:HL D.T (Sh.z1a e.args++z09 e.aos)->Option (Res (HL D.T (e.pan.tys++z09 e.pos)) R)}
  (hf:P.funcs[e.f]? = some fn) (hb:fn.body=some code) (hnt:fn.ntmps=nt) (hent:∀args w,(callFunc e.f args).run P w = .ok (.enter e.f args) w) (hargs:e.args.length<=nt)
  (hgo:∀(R':Type) (x:HL D.T (Sh.z1a e.args++z09 e.aos)) (k:HL D.T (Sh.z1a e.outs++z09 e.ros)->Option R') (kp:HL D.T (e.pan.tys++z09 e.pos)->Option R'),e.go x k kp=(go x).bind λo=>y03 o (λr=>k (un r)) (λy=>kp y))
  (hpure:e.pure=false) (hren:e.ren=[]) (hp1:e.p<=l.pin) (hp2:l.pin<=l.os.length) (hlen:l.os.length=e.ros.length) (hp3:e.p<=e.pos.length)
  (hout:∀x,zwa P D (l.bld D x) fn.results.toList=some (z15 D (λk=>k) e.outs (HL.fst _ (un (pack x))))∧(l.bld D x).o=z2m D (λk=>k) e.ros 0 (HL.snd _ (un (pack x))))
  (hdes:∀de∈des,de.Ok P) (hrun:yen P D code e.p e.args e.aos nt [] (yd8 D des l pack e.pan e.pos e.p (λy=>y)) go):e.Ok P:=λR' x k kp r h=>by
 rw [hpure];rw [hgo] at h;obtain ⟨o0,h1,h2⟩:=zkn h
 cases o0 with
 |ok r0=>
  refine .inl ⟨un r0,h2,λlv L E ρ0 vargs k1 k2 k3 k4=>y3d (p:=e.p) hD hf hb hnt hent hargs hp1 hp2 rfl hdes hrun h1 ⟨k1,k2,k3,k4⟩ (λy υ ρ' hy w2 => ?_) λz ts σ ρ v _ _ hk => ?_⟩
  · injection hy with hy;subst hy;obtain ⟨o1,o2⟩:=hout y;obtain ⟨vs,r1,r2⟩:=zj8 hD w2 o1;obtain ⟨l1,l2⟩:=ydc w2 o2 hlen;exact ⟨vs,r1,υ.H.L,ρ',l1,l2,(by rw [hren];intro q hq;cases hq),vs,rfl,r2⟩
  · unfold ygh at hk
    split at hk <;> cases hk
 |pan y0=>
  refine .inr ⟨y0,h2,λlv L E ρ0 vargs k1 k2 k3 k4=>y3d (p:=e.p) hD hf hb hnt hent hargs hp1 hp2 rfl hdes hrun h1 ⟨k1,k2,k3,k4⟩ (λy υ ρ' hy w2=>(by cases hy)) λz ts σ ρ v t1 t4 hk => ?_⟩;unfold ygh at hk;split at hk
  · rename_i y hy;injection hk with hk;injection hk with hk;subst hk;have hpl:(z6v lv L E ρ0 e.p).pin.length<=e.p:=by simp only [z6v,Qaw];omega
    obtain ⟨ρ',w1,w2⟩:=y6s hD t1 hpl hp3 t4 hy;obtain ⟨l1,l2⟩:=ydc w1 rfl rfl;exact ⟨σ.H.L,ρ',l1,l2,v,rfl,w2⟩
  · cases hk
def FI.ofP (D:Dat) (f nt p:Nat) (args:List Sh) (aos:List OSh) (outs:List Sh) (ros:List OSh) (pan:Sh) (pos:List OSh) (des:List (zq2 D)) (l:LSh) {R:Type} (pack:HL D.T l.tys->R) (un:R->HL D.T (Sh.z1a outs++z09 ros))
  (go:Nat->HL D.T (Sh.z1a args++z09 aos)->Option (Res (HL D.T (pan.tys++z09 pos)) R)) (z5h:Nat->List (Nat×Lb D (Res (HL D.T (pan.tys++z09 pos)) R))) (c:AC):FI D :=
 {R:=Res (HL D.T (pan.tys++z09 pos)) R,ent:=λn=>{f:=f,p:=p,args:=args,aos:=aos,outs:=outs,ros:=ros,pan:=pan,pos:=pos,pure:=false,go:=λx k kp=>(go n x).bind λo=>y03 o (λr=>k (un r)) (λy=>kp y)},
   c:=c,K:=yd8 D des l pack pan pos p (λy=>y),p:=p,args:=args,aos:=aos,nt:=nt,z5h:=z5h,go:=go}
def y8q (P:Program):List (zq2 D)->Prop
 |[]=>True
 |d::l=>d.Ok P∧y8q P l
theorem y8q.get:∀{l:List (zq2 D)},y8q P l->∀d∈l,d.Ok P
 |d::l,h,e,he=>by
  rcases Qbg.1 he with rfl|he
  · exact h.1
  · exact y8q.get h.2 e he
def chkP (p nt:Nat) (args:List Sh) (ros pos:List OSh) (l:LSh):Bool :=
 Nat.ble args.length nt&&Nat.ble p l.pin&&Nat.ble l.pin l.os.length&&Nat.beq l.os.length ros.length&&Nat.ble p pos.length
theorem FI.zhj {hD:D.Ok P} {f nt p:Nat} {args:List Sh} {aos:List OSh} {outs:List Sh} {ros:List OSh} {pan:Sh} {pos:List OSh} {des:List (zq2 D)} {l:LSh} {pack:HL D.T l.tys->R} {un:R->HL D.T (Sh.z1a outs++z09 ros)}
  {go:Nat->HL D.T (Sh.z1a args++z09 aos)->Option (Res (HL D.T (pan.tys++z09 pos)) R)} {z5h:Nat->List (Nat×Lb D (Res (HL D.T (pan.tys++z09 pos)) R))} {c:AC} {tbl:Nat->List (Ent D)} {fn:Func}
  (hf:P.funcs[f]? = some fn) (hnt:fn.ntmps=nt) (hent:∀args w,(callFunc f args).run P w = .ok (.enter f args) w)
  (hb:fn.body=some c.erase) (hnd:c.labels.Nodup) (hchk:chkP p nt args ros pos l=true) (hp:∀n,y9n p (z5h n)=true) (hdes:y8q P des)
  (hout:∀x,zwa P D (l.bld D x) fn.results.toList=some (z15 D (λk=>k) outs (HL.fst _ (un (pack x)))))
  (hz:∀x,go 0 x=none) (hlz:y5t (λ_ lb=>∀x,lb.go x=none) (z5h 0))
  (hs:∀n x,go (n+1) x=run P D (tbl n) (jump D (z5h n)) c (entry D args aos nt [] x) (yd8 D des l pack pan pos p (λy=>y)))
  (hls:∀n,y5t (λj lb=>∀x,lb.go x=y85 P D (tbl n) (jump D (z5h n)) j c (yd8 D des l pack pan pos p (λy=>y)) (lb.sh.bld D x)) (z5h (n+1)))
  (hros:∀x,(l.bld D x).o=z2m D (λk=>k) ros 0 (HL.snd _ (un (pack x)))) :
  (FI.ofP D f nt p args aos outs ros pan pos des l pack un go z5h c).Good P D tbl where
 nodup:=hnd
 zero:=hz
 lzero:=λj lb x h=>hlz.get (z4b h) x
 pins:=λn j lb h=>(zto (hp n)).get (z4b h)
 step:=hs
 lstep:=λn j lb x h=>(hls n).get (z4b h) x
 ok:=λn h=>by
  simp only [chkP,Qaf,Nat.ble_eq] at hchk;obtain ⟨⟨⟨⟨h1,h2⟩,h3⟩,h4⟩,h5⟩:=hchk;exact yfy (l:=l) (pack:=pack) (un:=un) (go:=go n) (code:=c.erase) (des:=des) hD hf hb hnt hent h1 (λ_ _ _ _=>rfl) rfl rfl h2 h3 (Qah h4) h5 (λx=>⟨hout x,hros x⟩) hdes.get h
end
theorem zz3 {P:Program} {D:Dat} (hD:D.Ok P) {f:FI D} {bs:List (FI D)} (hb:OkL P bs) (h:f.Good P D (tb bs)):OkL P [f] :=
 ⟨λn=>h.ok n (h.runs hD n λm _ e he=>by
  obtain ⟨b,hm,rfl⟩:=Qbc.1 he
  exact hb.get hm m),trivial⟩
theorem ycf {P:Program} {f:Nat} {vargs:List V} {cargs:Array Value} {W:World} (h:zn2 P f vargs H0 λout _=>out = .ret (.bool true)) (ha:zgl W g0 H0 vargs cargs) (hl:zkq W g0 H0) :
  Calls P f cargs W λe W'=>e = .returned (.bool true)∧RowKit.Below W.heap.size W W' :=
 (h W g0 cargs (yjc W hl) ha).2.mono λe W' ⟨o,H',g',ho,hs,_,hr⟩=>by
  subst ho;obtain ⟨c,he,hc⟩:=hr;cases hc;exact ⟨he,zoy hs⟩
theorem wrk {k:Nat} (h:k<=4611686018427387904):IntKind.i64.wrap ((k:Int)+1)=((k+1:Nat):Int):=by rw [wr1 h];rfl
noncomputable def eqB {α:Type} (a b:α):Bool:=@decide (a=b) (Classical.propDecidable _)
theorem yft {α:Type} {a b:α}:eqB a b=true↔a=b:=@decide_eq_true_iff _ (Classical.propDecidable _)
theorem znt {α:Type} {a b:α}:eqB a b=false↔a≠b:=@decide_eq_false_iff_not _ (Classical.propDecidable _)
@[simp] theorem y61 {α:Type} (a:α):eqB a a=true:=yft.2 rfl
theorem down {len:Nat} {Q:Nat->Prop} (h0:Q len) (hs:∀k,k<len->Q (k+1)->Q k):∀k,k<=len->Q k:=by
 intro k hk;obtain ⟨m,rfl⟩:∃m,k=len-m:=⟨len-k,by omega⟩
 induction m with
 |zero=>exact h0
 |succ m ih=>
  by_cases h:m<len
  · refine hs _ (by omega) ?_;rw [show len-(m+1)+1=len-m by omega];exact ih (by omega)
  · rw [show len-(m+1)=len-m by omega];exact ih (by omega)
def Ev {α:Type} (f:Nat->Option α) (r:α):Prop:=∃n,∀m,n<=m->f m=some r
section
variable {α β : Type} {r : α}
theorem Ev.get {f:Nat->Option α} (h:Ev f r):∃n,f n=some r:=by obtain ⟨n,hn⟩:=h;exact ⟨n,hn n (Qbo _)⟩
theorem Ev.succ {f g:Nat->Option α} (h:∀n,f (n+1)=g n) (hg:Ev g r):Ev f r:=by
 obtain ⟨n,hn⟩:=hg;refine ⟨n+1,λm hm => ?_⟩;obtain ⟨q,rfl⟩:∃q,m=q+1:=⟨m-1,by omega⟩;rw [h];exact hn q (by omega)
theorem Ev.same {f g:Nat->Option α} (h:∀n,f n=g n) (hg:Ev g r):Ev f r:=by
 obtain ⟨n,hn⟩:=hg;exact ⟨n,λm hm=>by rw [h];exact hn m hm⟩
theorem Ev.pure {o:Option α} (h:o=some r):Ev (λ_=>o) r:=⟨0,λ_ _=>h⟩
theorem Ev.bind {a:Nat->Option β} {k:Nat->β->Option α} {y:β} (ha:Ev a y) (hk:Ev (λn=>k n y) r):Ev (λn=>(a n).bind (k n)) r:=by
 obtain ⟨n,hn⟩:=ha;obtain ⟨q,hq⟩:=hk;exact ⟨max n q,λm hm=>by show (a m).bind (k m)=_;rw [hn m (by omega)];exact hq m (by omega)⟩
theorem Ev.opt {o:Option β} {k:Nat->β->Option α} {y:β} (ho:o=some y) (hk:Ev (λn=>k n y) r):Ev (λn=>o.bind (k n)) r:=.bind (.pure ho) hk
theorem Ev.t {c:Bool} {a b:Nat->Option α} (hc:c=true) (ha:Ev a r):Ev (λn=>if c=true then a n else b n) r:=by subst hc;exact ha
theorem Ev.f {c:Bool} {a b:Nat->Option α} (hc:c=false) (ha:Ev b r):Ev (λn=>if c=true then a n else b n) r:=by subst hc;exact ha
theorem Ev.cond {c:Bool} {a b:Nat->Option α} (ht:c=true->Ev a r) (hf:c=false->Ev b r):Ev (λn=>if c=true then a n else b n) r:=by
 cases c
 ·exact hf rfl
 ·exact ht rfl
end
section
variable {α β γ : Type} {xs : List α}
end
section
variable {α β : Type} {r : α}
theorem Ev.pif_t {a b:Nat->Option α} {c:Bool} (hc:c=true):Ev (λn=>pIf c (a n) (b n)) r↔Ev a r:=by subst hc;exact Iff.rfl
theorem Ev.pif_f {a b:Nat->Option α} {c:Bool} (hc:c=false):Ev (λn=>pIf c (a n) (b n)) r↔Ev b r:=by subst hc;exact Iff.rfl
theorem Ev.pt {a b:Nat->Option α} {c:Bool} (hc:c=true) (h:Ev a r):Ev (λn=>pIf c (a n) (b n)) r:=(Ev.pif_t hc).2 h
theorem Ev.pf {a b:Nat->Option α} {c:Bool} (hc:c=false) (h:Ev b r):Ev (λn=>pIf c (a n) (b n)) r:=(Ev.pif_f hc).2 h
end
section
variable {α σ γ : Type}
theorem loopAll {L:Nat->Int->Option γ} {xs:List α} {p:α->Bool} {fail r:γ}
  (he:Ev (λn=>L n (xs.length:Int)) r)
  (hs:∀k (h:k<xs.length) v,Ev (λn=>L n ((k+1:Nat):Int)) v->Ev (λn=>L n (k:Int)) (if p xs[k]=true then v else fail)) :
  Ev (λn=>L n 0) (if xs.all p=true then r else fail):=by
 have:∀k,k<=xs.length->Ev (λn=>L n (k:Int)) (if (xs.drop k).all p=true then r else fail) :=
  down (by simpa using he) λk hk ih=>by
   have h:=hs k hk _ ih;rw [<-List.getElem_cons_drop (h:=hk),List.all_cons];by_cases hp:p xs[k]=true
   ·rw [Qbp hp] at h;simpa [hp] using h
   ·rw [Qbq hp] at h;have hp':p xs[k]=false:=by simpa using hp
    simpa [hp'] using h
 simpa using this 0 (Qbn _)
theorem loopAny {L:Nat->Int->Option γ} {xs:List α} {p:α->Bool} {got r:γ}
  (he:Ev (λn=>L n (xs.length:Int)) r)
  (hs:∀k (h:k<xs.length) v,Ev (λn=>L n ((k+1:Nat):Int)) v->Ev (λn=>L n (k:Int)) (if p xs[k]=true then got else v)) :
  Ev (λn=>L n 0) (if xs.any p=true then got else r):=by
 have:∀k,k<=xs.length->Ev (λn=>L n (k:Int)) (if (xs.drop k).any p=true then got else r) :=
  down (by simpa using he) λk hk ih=>by
   have h:=hs k hk _ ih;rw [<-List.getElem_cons_drop (h:=hk),List.any_cons];by_cases hp:p xs[k]=true
   ·rw [Qbp hp] at h;simpa [hp] using h
   ·rw [Qbq hp] at h;have hp':p xs[k]=false:=by simpa using hp
    simpa [hp'] using h
 simpa using this 0 (Qbn _)
theorem loopEnds {L:Nat->Int->Option γ} {len:Nat}
  (he:∃v,Ev (λn=>L n (len:Int)) v)
  (hs:∀k,k<len->∀v,Ev (λn=>L n ((k+1:Nat):Int)) v->∃w,Ev (λn=>L n (k:Int)) w) :
  ∃v,Ev (λn=>L n 0) v:=by
 have:∀k,k<=len->∃v,Ev (λn=>L n (k:Int)) v:=down he λk hk ⟨v,ih⟩=>hs k hk v ih
 simpa using this 0 (Qbn _)
theorem loopEq {L:Nat->Int->Option γ} {xs ys:List α} {fail r:γ} (hlen:xs.length=ys.length)
  (he:Ev (λn=>L n (xs.length:Int)) r)
  (hs:∀k (h:k<xs.length) (h':k<ys.length) v,Ev (λn=>L n ((k+1:Nat):Int)) v->Ev (λn=>L n (k:Int)) (if eqB xs[k] ys[k]=true then v else fail)) :
  Ev (λn=>L n 0) (if eqB xs ys=true then r else fail):=by
 have:∀k,k<=xs.length->Ev (λn=>L n (k:Int)) (if eqB (xs.drop k) (ys.drop k)=true then r else fail) :=
  down (by rw [List.drop_length,hlen,List.drop_length];simpa [hlen] using he) λk hk ih=>by
   have hk':k<ys.length:=by omega
   have h:=hs k hk hk' _ ih;rw [<-List.getElem_cons_drop (h:=hk),<-List.getElem_cons_drop (h:=hk')];by_cases hp:xs[k]=ys[k]
   ·rw [hp,y61,Qbp rfl] at h;rw [hp]
    have e:eqB (ys[k]::xs.drop (k+1)) (ys[k]::ys.drop (k+1))=eqB (xs.drop (k+1)) (ys.drop (k+1)):=by
     by_cases q:xs.drop (k+1)=ys.drop (k+1)
     ·rw [q,y61,y61]
     ·rw [znt.2 q,znt.2 (λh=>q (by injection h))]
    rw [e];exact h
   ·rw [znt.2 hp] at h;rw [znt.2 (by intro q;injection q with q1 q2;exact hp q1)];exact h
 simpa using this 0 (Qbn _)
theorem loopFold {L:Nat->Int->σ->Option γ} {xs:List α} {f:σ->α->σ} {I:Nat->σ->Prop} {v:γ} {s0:σ} (h0:I 0 s0)
  (he:I xs.length (xs.foldl f s0)->Ev (λn=>L n (xs.length:Int) (xs.foldl f s0)) v)
  (hs:∀k (h:k<xs.length) s,I k s->I (k+1) (f s xs[k])∧(Ev (λn=>L n ((k+1:Nat):Int) (f s xs[k])) v->Ev (λn=>L n (k:Int) s) v)) :
  Ev (λn=>L n 0 s0) v:=by
 have:∀m k,k+m=xs.length->∀s,I k s->(xs.drop k).foldl f s=xs.foldl f s0->Ev (λn=>L n (k:Int) s) v:=λm=>by
  induction m with
  |zero=>
   intro k hk s hi hf;have hkl:k=xs.length:=by omega
   subst hkl;rw [List.drop_length] at hf;simp only [List.foldl_nil] at hf
   rw [hf];exact he (hf▸hi)
  |succ m ih=>
   intro k hk s hi hf;have hlt:k<xs.length:=by omega
   obtain ⟨h1,h2⟩:=hs k hlt s hi;refine h2 (ih (k+1) (by omega) _ h1 ?_);rw [<-List.getElem_cons_drop (h:=hlt)] at hf;exact hf
 simpa using this xs.length 0 (by omega) s0 h0 (by simp)
end
def isLet (c:UInt8):Bool:=decide (97<=c.toNat)&&decide (c.toNat<=122)
def isDig (c:UInt8):Bool:=decide (48<=c.toNat)&&decide (c.toNat<=57)
def isMid (c:UInt8):Bool:=isLet c||c==45||isDig c
def nameOk (s:List UInt8):Bool:=match s with
 |[]=>false
 |c::t=>isLet c&&t.all isMid&&decide (s.length<=40)
def cutAt (b:UInt8) (s:List UInt8):List UInt8×List UInt8×Bool:=(s.takeWhile (· != b),(s.dropWhile (· != b)).tail,s.any (· == b))
def parts (b:UInt8):List UInt8->List (List UInt8)
 |[]=>[[]]
 |c::t=>if c==b then []::parts b t else match parts b t with
  |h::r=>(c::h)::r
  |[]=>[[c]]
def steps (s:List UInt8):List (List UInt8):=if s==[] then [] else parts 47 s
theorem parts_eq (b:UInt8):∀s:List UInt8,parts b s=(cutAt b s).1::(if (cutAt b s).2.2 then parts b (cutAt b s).2.1 else [])
 |[]=>by simp [parts,cutAt]
 |c::t=>by
  rw [parts];by_cases h:c=b
  · subst h;simp [cutAt]
  · have h':(c==b)=false:=by simpa using h
    rw [h',parts_eq b t];simp [cutAt,h',bne,List.takeWhile_cons,List.dropWhile_cons]
theorem yhn (b:UInt8) (s:List UInt8):parts b s≠[]:=by rw [parts_eq];simp
theorem zem (b:UInt8):∀s:List UInt8,(parts b s).length=s.countP (· == b)+1
 |[]=>by simp [parts]
 |c::t=>by
  rw [parts];have ih:=zem b t;split
  · rename_i h;simp [ih,List.countP_cons,h]
  · rename_i h
    cases hp:parts b t with
    |nil=>exact (yhn b t hp).elim
    |cons a r=>rw [hp] at ih;simp [List.countP_cons,h] at ih ⊢;omega
theorem zx1 (b:UInt8) (s:List UInt8):(cutAt b s).2.1.length<=s.length:=by
 have:=(List.dropWhile_sublist (l:=s) (· != b)).length_le;simp only [cutAt,List.length_tail];omega
theorem zpv {b:UInt8}:∀{s:List UInt8},(cutAt b s).2.2=true->(cutAt b s).2.1.length<s.length
 |[],h=>by simp [cutAt] at h
 |c::t,h=>by
  by_cases hc:c=b
  · subst hc;simp [cutAt]
  · have h':(c==b)=false:=by simpa using hc
    have:=zpv (b:=b) (s:=t) (by simpa [cutAt,h'] using h);simp only [cutAt,List.dropWhile_cons,bne,h',Bool.not_false,if_true,List.length_cons] at this ⊢;omega
theorem yie {α:Type} {l:List α} {lo hi:Nat} (h1:lo<=hi) (h2:hi<=l.length):sub l (lo:Int) (hi:Int)=some ((l.take hi).drop lo):=by
 unfold sub;rw [Qbp ⟨by omega,by omega,by omega⟩];simp
theorem yea {α:Type} {l:List α} {hi:Nat} (h2:hi<=l.length):sub l 0 (hi:Int)=some (l.take hi):=by
 unfold sub;rw [Qbp ⟨by omega,by omega,by omega⟩];simp
theorem zwe (b:UInt8):∀s:List UInt8,Lib.indexByte s b=if s.any (· == b) then ((s.takeWhile (· != b)).length:Int) else -1
 |[]=>rfl
 |c::t=>by
  rw [Lib.indexByte,zwe b t];cases h:c==b
  · simp only [List.any_cons,h,Bool.false_or,List.takeWhile_cons,bne,Bool.not_false,if_true,List.length_cons];cases t.any (· == b)
    · simp
    · simp only [if_true,Qbh];rw [Qbq (by simp),Qbq (by omega)];simp
  · simp [h,bne]
theorem y6l {b:UInt8}:∀{s:List UInt8},s.any (· == b)=true->(s.takeWhile (· != b)).length<s.length∧s.take (s.takeWhile (· != b)).length=s.takeWhile (· != b)∧s.drop ((s.takeWhile (· != b)).length+1)=(s.dropWhile (· != b)).tail
 |[],h=>by simp at h
 |c::t,h=>by
  cases hc:c==b
  · have ih:=y6l (b:=b) (s:=t) (by simpa [hc] using h);simp only [bne] at ih ⊢;simp [List.takeWhile_cons,List.dropWhile_cons,hc];exact ⟨ih.1,ih.2.1,by simpa using ih.2.2⟩
  · simp [List.takeWhile_cons,List.dropWhile_cons,hc,bne]
theorem ybc {b:UInt8}:∀{s:List UInt8},s.any (· == b)=false->cutAt b s=(s,[],false)
 |[],h=>rfl
 |c::t,h=>by
  simp only [List.any_cons,Bool.or_eq_false_iff] at h;have ih:=ybc (b:=b) (s:=t) h.2;simp only [cutAt,bne] at ih ⊢;simp [List.takeWhile_cons,List.dropWhile_cons,h.1];simpa using ih
end Go.Ab
