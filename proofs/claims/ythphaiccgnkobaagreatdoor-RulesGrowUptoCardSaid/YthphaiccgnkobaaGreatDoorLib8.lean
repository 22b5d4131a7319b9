/-
  THE TYPED MACHINE: functions that panic, and deferred calls.
-/
import Derived.Test.YthphaiccgnkobaaGreatDoorLib7
import Derived.Test.YthphaiccgnkobaaGreatDoorLib3
import Derived.Test.YthphaiccgnkobaaGreatDoorLib2
import Derived.Test.YthphaiccgnkobaaGreatDoorLib1
import Derived.Lib.Bytealg
import Derived.Laws.RangeAny
namespace Go.Ab
open Go
set_option linter.unusedVariables false
set_option linter.unusedSimpArgs false
set_option linter.unusedSectionVars false
section
variable {P : Program} {D : Dat} {F : Fr} {ρ : List Slot} {ts : TS D.T} {σ : St} {lv : Nat} {R X : Type}
theorem ynf(hD:D.Ok P)(hR:TRr D F ρ ts σ){pan pos p z v x}(hp:F.pin.length<=p)(hp2:p<=pos.length)(hz:VR D ρ F.lv z v)(h:ytj D pan pos p z ts=some x) :
  ∃ρ',TRr D F ρ' ⟨[],z55 D (λk=>k) pos 0 (HL.snd _ x),pos.length,ts.nt,[],[]⟩ σ∧VR D ρ' F.lv (zq2 D (λk=>k) pan (HL.fst _ x)) v:=by
 unfold ytj at h;split at h
 ·rename_i hde;split at h
  ·rename_i M y hy;split at h
   ·rename_i M' w hw;cases h;obtain⟨a1,a2,a3⟩:=znk hD pan hy hz;obtain⟨b1,b2,b3,b4⟩:=zoj hD hR pos hw;have hM:=b2 (a2 ⟨λk src h=>by have:=(zk4 h).1;omega,λk k' s h h'=>by have e:=(zk4 h).2;have e':=(zk4 h').2;grind,λk src hm=>yb9 hm⟩);obtain⟨ρ',c1,c2,c3⟩:=ysv hR hM λj hj=>by simpa using b3 j hj
    rw[HL.zlq,HL.zls]
    have place:∀s sl i,ρ'[s]? = some sl->sl.has i->∃s0 o0,fnd M' s=some (.slot s0)∧fnd ts.o s0=some o0∧o0.live∧ρ[s0]? = some sl:=λs sl i hs hk=>by
     obtain⟨src,e1,e2⟩:=c3 s sl hs
     cases src with
     |nil=>simp[Src.is]at e2;subst e2;rcases hk with h|h <;> cases h
     |slot s0=>
      obtain⟨src',e3,e4⟩:=b3 s (by grind);rw[Nat.zero_add,e1]at e3;cases e3;obtain⟨o0,f1,f2⟩:=e4 s0 rfl;exact⟨s0,o0,e1,f1,f2,e2⟩
    refine⟨ρ',⟨c1,hR.nt,λj c hj=>by simp[fnd]at hj,λs o ho =>?_,λs s' o o' sl sl' i h1 h2 l1 l2 r1 r2 k1 k2 =>?_,λs o sl i h1 l1 r1 k1 =>?_,hR.lv,hR.E,hR.e0,(by have:=hR.d;rw[hde]at this;exact this),hR.out,λj sl hj =>?_,λs o sl i h1 l1 r1 k1=>by
     obtain⟨s0,o0,d1,d2,d3,d4⟩:=place s sl i r1 (.inr k1)
     exact hR.fpl s0 o0 sl i d2 d3 d4 k1,λi s v h=>by simp at h⟩,a3 ρ' (b1.agr c2)⟩
    rotate_right
    have hlt:=(Qaa.1 hj).1;obtain⟨sl',e1,e2⟩:=c2 j _ (b1 _ _ (a1 _ _ (y5m (n:=p) (k:=j) (by omega))));simp[Src.is]at e2;rw[hR.pin j sl hj]at e2;cases e2;exact e1
    simp_all[z2o]
    obtain⟨s0,o0,d1,d2,d3,d4⟩:=place s sl i r1 k1;obtain⟨s1,o1,e1,e2,e3,e4⟩:=place s' sl' i r2 k2;have:=hR.inj s0 s1 o0 o1 sl sl' i d2 e2 d3 e3 d4 e4 k1 k2;subst this;exact hM.inj s s' s0 d1 e1;obtain⟨s0,o0,d1,d2,d3,d4⟩:=place s sl i r1 k1;exact hR.mine s0 o0 sl i d2 d3 d4 k1
   cases h
  cases h
 cases h
def z7e(lv:Nat)(L:List (Option kzg))(E:Nat->Nat->Option kzg)(ρ0:List Slot)(p:Nat):Fr :=
 ⟨lv,E,E,L,λi=>i<L.length∧∀(k:Nat) (sl0),ρ0[k]? = some sl0->¬sl0.has i,ρ0.take p,[]⟩
theorem y54{L E ρ0 ρ' p os y τ}(hR:TRr D (z7e lv L E ρ0 p) ρ' ts τ)(ho:ts.o=z55 D (λk=>k) os 0 y)(hnx:ts.nx=os.length) :
  τ.H=⟨lv,τ.H.L,E⟩∧Left D lv L ρ0 p τ.H.L ρ' os y:=by
 have hlen':ρ'.length=os.length:=by rw[hR.nx,hnx]
 have live:∀s sl,ρ'[s]? = some sl->∃o,fnd ts.o s=some o∧o.live:=λs sl hs=>by
  rw[ho];exact y7a os (Qbo _) (by rw[Nat.zero_add,<-hlen'];grind)
 refine⟨zqy (F:=z7e lv L E ρ0 p) τ.H hR.lv hR.E,hlen',λj o hm =>?_,λs s' sl sl' i r1 r2 c1 c2 =>?_,λs sl i r1 c1 =>?_,λi hi hno=>hR.out i ⟨hi,hno⟩,λj sl hj hs =>?_,λs sl i r1 c1=>by
  obtain⟨o,a1,a2⟩:=live s sl r1
  exact hR.fpl s o sl i a1 a2 r1 c1⟩
 exact hR.ob j o (by rw[ho];exact y5z os hm);obtain⟨o,a1,a2⟩:=live s sl r1;obtain⟨o',b1,b2⟩:=live s' sl' r2;exact hR.inj s s' o o' sl sl' i a1 b1 a2 b2 r1 r2 c1 c2;obtain⟨o,a1,a2⟩:=live s sl r1;have:=hR.mine s o sl i a1 a2 r1 c1;by_cases hlt:i<L.length;right;by_cases hex:∃(k:Nat) (sl0:Slot),ρ0[k]? = some sl0∧sl0.has i;exact hex;exact(this ⟨hlt,λk sl0 e1 e2=>hex ⟨k,sl0,e1,e2⟩⟩).elim;left;omega
 exact hR.pin j sl (by simp_all[z7e])
theorem zvl:∀(l) (y),(z1u D (λk=>k) l y).length=l.length
 |[],_=>rfl
 |s::l,y=>by
  show(zq2 D (λk=>k) s (HL.fst _ y)::z1u D (λk=>k) l (HL.snd _ y)).length=_;rw[List.length_cons,zvl l,List.length_cons]
structure yo0(D:Dat)(lv:Nat)(L:List (Option kzg))(ρ0:List Slot)(args:List Sh)(aos:List OSh)(x:HL D.T (Sh.z04 args++z03 aos))(vargs:List V):Prop where
 len:ρ0.length=aos.length
 args:VRL D ρ0 lv (z1u D (λk=>k) args (HL.fst _ x)) vargs
 ob:∀j o,(j,o)∈z55 D (λk=>k) aos 0 (HL.snd _ x)->∃sl,ρ0[j]? = some sl∧OR D ρ0 lv L sl o
 inj:SlOk L ρ0
theorem yo0.entry{L E ρ0 args aos x vargs}(h:yo0 D lv L ρ0 args aos x vargs)(p){nt}(hargs:args.length<=nt) :
  TRr D (z7e lv L E ρ0 p) ρ0 (entry D args aos nt [] x) ⟨vargs++List.replicate (nt-vargs.length) .any,⟨lv,L,E⟩,[],E⟩:=by
 have hvl:vargs.length=args.length:=by rw[<-h.args.length];exact zvl _ _
 refine⟨h.len,by grind[Ab.entry],zo0 _ h.args,λs o ho=>h.ob s o (z2o ho),λs s' o o' sl sl' i a1 a2 l1 l2 r1 r2=>h.inj.1 s s' sl sl' i r1 r2,λs o sl i a1 l1 r1 hk ho=>ho.2 s sl r1 hk,rfl,rfl,rfl,rfl,λi hi=>⟨hi.1,rfl⟩,λj sl hj =>?_,λs o sl i a1 l1 r1 hk=>h.inj.2 s sl i r1 hk,λi s v hi=>by simp[Ab.entry]at hi⟩
 grind[z7e]
def z02l(D:Dat)(lv:Nat):(m:Option Sh)->HL D.T (y3r m)->zl7->Prop
 |none,_,am=>am = .ret
 |some s,x,am=>∃v,am = .pan v false∧VR D [] lv (zq2 D (λk=>k) s x) v
def zvx.Ok(P:Program)(de:zvx D):Prop:=∀x mx y,de.go x mx=some y->∀(lv) (L) (E) (ρ0) (vargs),yo0 D lv L ρ0 de.args de.aos x vargs ->
 ∀(am),z02l D lv de.m mx am->∀(W) (g) (cargs) (u),Good W g ⟨lv,L,E⟩->zk0 W g ⟨lv,L,E⟩ vargs cargs->y4w W g ⟨lv,L,E⟩ am u ->
  (∀w,(callFunc de.f cargs).run P w = .ok (.enter de.f cargs) w)∧CallsD P de.f cargs u W (λe u' W'=>∃v L' g' ρ',e = .returned v∧Step W g ⟨lv,L,E⟩ W' g' ⟨lv,L',E⟩∧Good W' g' ⟨lv,L',E⟩∧settle u' = .returning∧Left D lv L ρ0 de.aos.length L' ρ' de.ros y)
def z00e(D:Dat)(ρ:List Slot)(lv:Nat)(z:Option (TV D.T))(am:zl7):Prop:=match z with
 |none=>am = .ret
 |some z=>∃v,am = .pan v false∧VR D ρ lv z v
theorem yhw(hD:D.Ok P){m z mx}(h:ym3 D m z=some mx){am}(hz:z00e D ρ lv z am):z02l D lv m mx am:=by
 cases m with
 |none=>
  cases z with
  |none=>exact hz
  |some z=>cases h
 |some s=>
  cases z with
  |none=>cases h
  |some z=>
   simp[ym3]at h;split at h;rename_i M x hx;cases h;obtain⟨v,h1,h2⟩:=hz;obtain⟨a1,a2,a3⟩:=znk hD s hx h2;refine⟨v,h1,a3 [] λk src hk =>?_⟩;have hM:=a2 ⟨λk src h=>by simp[fnd]at h,λk k' s h=>by simp[fnd]at h,λk src h=>by cases h⟩;exact absurd (hM.lt k src hk) (by omega);cases h
theorem yhk{am:zl7}(h:am = .ret∨∃v,am = .pan v false):am.ztb.settle = .ret:=by
 rcases h with rfl|⟨v,rfl⟩ <;> rfl
theorem y81(hD:D.Ok P){des}(hdes:∀de∈des,de.Ok P){fn tm k kp}{r:R}{R' W0 g0 H0}
  (hk:∀ts σ ρ a W g,TRr D F ρ ts σ->zzb W a g σ->Step W0 g0 H0 W g σ.H->a.tmps=tm->k ts=some r->∃c,(results fn tm).run P W = .ok c W∧R' (.returned c) W)
  (hkp:∀z ts σ ρ a W g v c,TRr D F ρ ts σ->zzb W a g σ->Step W0 g0 H0 W g σ.H->VR D ρ F.lv z v->Rel W g σ.H v c->kp z ts=some r->R' (.panicked [{v:=c,recovered:=false}]) W) :
  ∀(l) (z) (am) (ts) (σ) (ρ) (a) (W) (g) (u),ts.d=l->TRr D F ρ ts σ->zzb W a g σ->Step W0 g0 H0 W g σ.H->a.tmps=tm->y4w W g σ.H am u ->
   z00e D ρ F.lv z am->zgn D des k kp l z ts=some r->Leaves P fn tm R' a.defers u W
 |[],z,am,ts,σ,ρ,a,W,g,u,hd,hR,hG,hS,htm,hM,hz,h=>by
  have hd0:=by have:=hR.d;rw[hd]at this;exact this
  have hd1:=Qao (by rw[hG.dlen,hd0];rfl);rw[hd1]
  cases z with
  |none=>
   subst hz;have hu:=hM;subst hu
   exact hk ts σ ρ a W g hR hG hS htm h
  |some z=>
   obtain⟨v,rfl,hv⟩:=hz;obtain⟨c,h1,h2⟩:=hM;subst h1
   exact hkp z ts σ ρ a W g v c hR hG hS hv h2 h
 |(f,vs)::l,z,am,ts,σ,ρ,a,W,g,u,hd,hR,hG,hS,htm,hM,hz,h=>by
  simp[zgn]at h;have hdl:=hR.d;rw[hd]at hdl;obtain⟨vargs,s,hs1,hs2,hs3⟩:=hdl;split at h
  case h_2=>cases h
  rename_i hfm;have hfm:=by rw[Nat.blt_eq]at hfm;exact hfm
  obtain⟨caps,as,k1,k2⟩:=(hG.defs 0 f vargs (by rw[hs1];rfl)).fn hfm
  obtain⟨d0,ds0,hds⟩:∃d0 ds0,a.defers=d0::ds0:=by
   cases hq:a.defers with
   |nil=>grind
   |cons d0 ds0=>grind
  rw[hds]at k1;simp[Qbn]at k1;subst k1
  have look:∀des':List (zvx D),(∀de∈des',de∈des)->y6w D f vs z ts (λts'=>zgn D des k kp l none {ts' with d:=l}) des'=some r->Leaves P fn tm R' a.defers u W:=λdes'=>by
   induction des' with
   |nil=>intro _ h;cases h
   |cons de rest ih=>
    intro hmem h;have ih:=ih λe he=>hmem e (Qai _ he)
    simp only[y6w]at h;split at h;exact ih h;rename_i hf;have hf:=Qaj hf;split at h;exact ih h;rename_i mx hmx;split at h;rename_i M x hfit;split at h;rename_i hc;obtain⟨c1,c2⟩:=hc;obtain⟨y,hy,h⟩:=z1p h;obtain⟨hMok,ρ0,d1,d2,d3,d4,d5⟩:=Ent.zm0 hD hR (e:=de.ent) hs2 hfit
    have hp:∀k,k<de.aos.length->∃s,fnd M k=some (.slot s):=λk hk=>by
     have:=Qat.1 c2 k (List.mem_range.2 hk);split at this
     grind
     cases this
    have hHeap:=zqy σ.H hR.lv hR.E;have hgiven:yo0 D F.lv σ.H.L ρ0 de.args de.aos x vargs:=⟨d1,d4,d5,y5f hR hMok d3⟩;have hde:=hdes de (hmem de Qak)
    have hmode:am = .ret∨∃v,am = .pan v false:=by
     cases z with
     |none=>exact .inl hz
     |some z=>obtain⟨v,h1,_⟩:=hz;grind
    have hG0:=hG.good;rw[hHeap]at hG0 k2 hM;obtain⟨e1,e2⟩:=hde x mx y hy F.lv σ.H.L F.E ρ0 vargs hgiven am (yhw hD hmx hz) W g (as++caps) u hG0 k2 hM;rw[hf]at e1 e2;rw[hds];have hu:=hM.run;refine leaves_cons hu (by show(callFunc f (as++caps)).run P W=_;exact e1 W) (e2.mono λe u' W' ⟨v,L',g',ρ',q1,q2,q3,q4,q5⟩ =>?_);subst q1;rw[<-hHeap]at q2
    obtain⟨g1,g2⟩:=TRr.after hR hD hMok d2 d3 (λk s hm=>hMok.one k _ hm) hp c1 q5
    have hR2:TRr D F (ρ++ρ'.drop de.aos.length) {zdp D M de.aos.length ts de.ros y with d:=l} {σ with H:=⟨F.lv,L',F.E⟩,d:=s}:=by
     have hd2:=hs3;exact⟨g1.nx,g1.nt,g1.tm,g1.ob,g1.inj,g1.mine,g1.lv,g1.E,g1.e0,hd2.more _,g1.out,g1.pin,g1.fpl,g1.g⟩
    have hG2:zzb W' {a with defers:=ds0} g' {σ with H:=⟨F.lv,L',F.E⟩,d:=s}:=by
     have hl:=hG.dlen;rw[hds,hs1]at hl;refine⟨q3,hG.size,λj v hj=>(hG.tmps j v hj).mono q2,by simpa using hl,λj f' vs' hj =>?_⟩;have z1:=hG.defs (j+1) f' vs' (by grind);rw[hds,List.getElem?_cons_succ]at z1;exact z1.mono hG.good q2
    exact y81 hD hdes hk hkp l none .ret _ {σ with H:=⟨F.lv,L',F.E⟩,d:=s} _ {a with defers:=ds0} W' g' (settle u') rfl hR2 hG2 (hS.trans q2) htm q4 rfl h;cases h;exact ih h
  grind
def EndQP(D:Dat)(F:Fr){Z}(K:Ks D.T Z)(r:Z)(e:z0j)(σ:St):Prop :=
 match e with
 |.normal=>∃ts,TR D F ts σ∧K.kn ts=some r
 |.ret=>∃ts,TR D F ts σ∧K.kr ts=some r
 |.panic v=>∃ts ρ z,TRr D F ρ ts σ∧VR D ρ F.lv z v∧K.kp z ts=some r
 |.exit _=>False
theorem yoh{Z K}(hkx:K.kx=[]){r:Z}:KOk D F K (EndQP D F K r) r :=
 ⟨λts σ hT h=>⟨ts,hT,h⟩,λid k ts σ h=>by rw[hkx]at h;simp[fnd]at h,λts σ hT h=>⟨ts,hT,h⟩,λz ts σ ρ v hR hv h=>⟨ts,ρ,z,hR,hv,h⟩⟩
theorem y6f(hD:D.Ok P){Z}{f p nt:Nat}{args aos fn code}{l:LSh}{kret:HL D.T l.tys->Z}{kpan des go K}
  (hf:P.funcs[f]? = some fn) (hb:fn.body=some code) (hnt:fn.ntmps=nt) (hent:∀args w,(callFunc f args).run P w = .ok (.enter f args) w) (hargs:args.length<=nt) (hp1:p<=l.pin) (hp2:l.pin<=l.os.length)
  (hK:K=⟨λts=>zgn D des (l.enter D (λx=>some (kret x)) 9) kpan ts.d none ts,[],λts=>zgn D des (l.enter D (λx=>some (kret x)) 9) kpan ts.d none ts,λz ts=>zgn D des (l.enter D (λx=>some (kret x)) 9) kpan ts.d (some z) ts⟩)
  (hdes:∀de∈des,de.Ok P) (hrun:ym2 P D code p args aos nt [] K go) {x z0} (hz:go x=some z0) {lv L E ρ0 vargs} (hg:yo0 D lv L ρ0 args aos x vargs) {Post}
  (hret:∀y υ ρ',kret y=z0->TRr D (z7e lv L E ρ0 p) ρ' (l.bld D y) υ->∃vs,y3h P υ fn.results.toList=some vs∧Post (.ret (z9y vs)) υ.H)
  (hpan:∀z ts σ ρ v,TRr D (z7e lv L E ρ0 p) ρ ts σ->VR D ρ lv z v->kpan z ts=some z0->Post (.pan v) σ.H):znq P f vargs ⟨lv,L,E⟩ Post:=λW g cargs hG hA=>by
 subst hnt;refine⟨hent cargs W,calls_of_wp_defers hf hb ?_⟩;have hpl:(z7e lv L E ρ0 p).pin.length<=p:=by grind[z7e]
 have hkx:K.kx=[]:=by rw[hK]
 have hsat:=hrun (z7e lv L E ρ0 p) _ z0 rfl hpl (yoh (K:=K) hkx) x _ (hg.entry (E:=E) p hargs).tr hz;refine wp_mono (hsat W g ⟨lv,L,E⟩ W _ g ⟨hG⟩ ⟨rfl,.refl _ _ _⟩ (y27 hG hA)).wp λex a W' ⟨g1,σ,e',q1,q2,q3,q4⟩ =>?_
 let PostE:=λen W'=>∃o H' g',Post o H'∧Step W g ⟨lv,L,E⟩ W' g' H'∧Good W' g' H'∧yuy W' g' H' o en
 have done:∀(z:Option (TV D.T)) (am:zl7) (u:FrameMode) (ts:TS D.T) (τ:St) (ρ:List Slot) (g2:Gh),TRr D (z7e lv L E ρ0 p) ρ ts τ->zzb W' a g2 τ->Step W g ⟨lv,L,E⟩ W' g2 τ.H->y4w W' g2 τ.H am u->z00e D ρ lv z am ->
   zgn D des (l.enter D (λx=>some (kret x)) 9) kpan ts.d z ts=some z0->Leaves P fn a.tmps PostE a.defers u W':=λz am u ts τ ρ g2 hR hG2 hS2 hM hz hl=>by
  refine y81 (F:=z7e lv L E ρ0 p) (R':=PostE) (W0:=W) (g0:=g) (H0:=⟨lv,L,E⟩) hD hdes (λts σ ρ a W2 g2 t1 t2 t3 t4 t5 =>?_) (λz ts σ ρ a W2 g2 v c t1 t2 t3 t4 t5 t6 =>?_) ts.d z am ts τ ρ a W' g2 u rfl hR hG2 hS2 rfl hM hz hl;obtain⟨y,hy,υ,ρ',w1,w2⟩:=LSh.zcn hD (by omega) hp2 t1.tr t5;injection hy with hy;obtain⟨g3,w3,w4⟩:=w1 W g ⟨lv,L,E⟩ W2 a g2 ⟨hG⟩ ⟨t1.e0,t3⟩ t2;obtain⟨vs,r1,r2⟩:=hret y υ ρ' hy w2
  obtain⟨c,z1,z2⟩:=zds (P:=P) (fn:=fn) (v:=z9y vs) w4 (by grind[z0w]);rw[t4]at z1;exact⟨c,z1,.ret (z9y vs),υ.H,g3,r2,w3.2,w4.good,c,rfl,z2⟩;exact⟨.pan v,σ.H,g2,hpan z ts σ ρ v t1 t4 t6,t3,t2.good,c,rfl,t5⟩
 have back:∀{ts:TS D.T},TR D (z7e lv L E ρ0 p) ts σ->zgn D des (l.enter D (λx=>some (kret x)) 9) kpan ts.d none ts=some z0->Leaves P fn a.tmps PostE a.defers .returning W':=λ{ts} hT hl=>by
  obtain⟨τ,ρ,w1,w2⟩:=hT;obtain⟨g2,w3,w4⟩:=w1 W g ⟨lv,L,E⟩ W' a g1 ⟨hG⟩ q2 q3;exact done none .ret .returning ts τ ρ g2 w2 w4 w3.2 rfl rfl hl
 subst hK
 cases q1 with
 |normal=>obtain⟨ts,hT,hl⟩:=q4;exact back hT hl
 |ret=>obtain⟨ts,hT,hl⟩:=q4;exact back hT hl
 |exit id=>exact q4.elim
 |panic v c hr=>
  obtain⟨ts,ρ,z,hR,hv,hl⟩:=q4;exact done (some z) (.pan v false) _ ts σ ρ g1 hR q3 q2.2 ⟨c,rfl,hr⟩ ⟨v,rfl,hv⟩ hl
theorem z02k(hD:D.Ok P){e:Ent D}{fn code nt l pack}{un:R->HL D.T (Sh.z04 e.outs++z03 e.ros)}{des go}
  (hf:P.funcs[e.f]? = some fn) (hb:fn.body=some code) (hnt:fn.ntmps=nt) (hent:∀args w,(callFunc e.f args).run P w = .ok (.enter e.f args) w) (hargs:e.args.length<=nt)
  (hgo:∀(R':Type) (x:HL D.T (Sh.z04 e.args++z03 e.aos)) (k:HL D.T (Sh.z04 e.outs++z03 e.ros)->Option R') (kp:HL D.T (e.pan.tys++z03 e.pos)->Option R'),e.go x k kp=(go x).bind λo=>zpx o (λr=>k (un r)) (λy=>kp y))
  (hpure:e.pure=false) (hkc:e.kc=[]) (hpt:(match e.pan with| .tup _=>false|_=>true)=true) (hren:e.ren=[]) (hp1:e.p<=l.pin) (hp2:l.pin<=l.os.length) (hlen:l.os.length=e.ros.length) (hp3:e.p<=e.pos.length)
  (hout:∀x,zxd P D (l.bld D x) fn.results.toList=some (z1u D (λk=>k) e.outs (HL.fst _ (un (pack x))))∧(l.bld D x).o=z55 D (λk=>k) e.ros 0 (HL.snd _ (un (pack x))))
  (hdes:∀de∈des,de.Ok P) (hrun:ym2 P D code e.p e.args e.aos nt [] (yvj D des l pack e.pan e.pos e.p (λy=>y)) go):e.Ok P:=λR' x k kp r h=>by
 rw[hpure];rw[hgo]at h;obtain⟨o0,h1,h2⟩:=zqg h
 cases o0 with
 |ok r0=>
  refine .inl ⟨un r0,h2,λlv L E ρ0 vargs k1 k2 k3 k4 _=>y6f (p:=e.p) hD hf hb hnt hent hargs hp1 hp2 rfl hdes hrun h1 ⟨k1,k2,k3,k4⟩ (λy υ ρ' hy w2 =>?_) λz ts σ ρ v _ _ hk =>?_⟩;cases hy;obtain⟨o1,o2⟩:=hout y;obtain⟨vs,r1,r2⟩:=zgo hD w2 o1;obtain⟨l1,l2⟩:=y54 w2 o2 hlen;exact⟨vs,r1,υ.H.L,ρ',l1,l2,⟨(by grind),by rw[hkc];exact .nil⟩,vs,rfl,r2⟩
  grind[panK]
 |pan y0=>
  refine .inr ⟨y0,h2,λlv L E ρ0 vargs k1 k2 k3 k4 _=>y6f (p:=e.p) hD hf hb hnt hent hargs hp1 hp2 rfl hdes hrun h1 ⟨k1,k2,k3,k4⟩ (λy υ ρ' hy w2=>(by cases hy)) λz ts σ ρ v t1 t4 hk =>?_⟩;unfold panK at hk;split at hk;rename_i y hy;injection hk with hk;cases hk;have hpl:(z7e lv L E ρ0 e.p).pin.length<=e.p:=by grind[z7e]
  obtain⟨ρ',w1,w2⟩:=ynf hD t1 hpl hp3 t4 hy;obtain⟨l1,l2⟩:=y54 w1 rfl rfl;exact⟨σ.H.L,ρ',l1,l2,v,(z02j hpt).symm,w2⟩;cases hk
theorem z019(hD:D.Ok P){e:Ent D}{fn code nt l pack}{un:R->HL D.T (Sh.z04 e.outs++z03 e.ros)}{des go}
  (hf:P.funcs[e.f]? = some fn) (hb:fn.body=some code) (hnt:fn.ntmps=nt) (hent:∀args w,(callFunc e.f args).run P w = .ok (.enter e.f args) w) (hargs:e.args.length<=nt)
  (hgo:∀(R':Type) (x:HL D.T (Sh.z04 e.args++z03 e.aos)) (k:HL D.T (Sh.z04 e.outs++z03 e.ros)->Option R') (kp:HL D.T (e.pan.tys++z03 e.pos)->Option R'),e.go x k kp=(go x).bind λr=>k (un r))
  (hpure:e.pure=false) (hkc:e.kc=[]) (hren:e.ren=[]) (hp1:e.p<=l.pin) (hp2:l.pin<=l.os.length) (hlen:l.os.length=e.ros.length)
  (hout:∀x,zxd P D (l.bld D x) fn.results.toList=some (z1u D (λk=>k) e.outs (HL.fst _ (un (pack x))))∧(l.bld D x).o=z55 D (λk=>k) e.ros 0 (HL.snd _ (un (pack x))))
  (hdes:∀de∈des,de.Ok P) (hrun:ym2 P D code e.p e.args e.aos nt [] (yv4 D des l pack) go):e.Ok P:=λR' x k kp r h=>by
 rw[hpure];rw[hgo]at h;obtain⟨r0,h1,h2⟩:=zqg h;refine .inl ⟨un r0,h2,λlv L E ρ0 vargs k1 k2 k3 k4 _=>y6f (p:=e.p) hD hf hb hnt hent hargs hp1 hp2 rfl hdes hrun h1 ⟨k1,k2,k3,k4⟩ (λy υ ρ' hy w2 =>?_) λz ts σ ρ v _ _ hk=>(by cases hk)⟩;subst hy;obtain⟨o1,o2⟩:=hout y;obtain⟨vs,r1,r2⟩:=zgo hD w2 o1;obtain⟨l1,l2⟩:=y54 w2 o2 hlen;exact⟨vs,r1,υ.H.L,ρ',l1,l2,⟨(by grind),by rw[hkc];exact .nil⟩,vs,rfl,r2⟩
theorem z06j(hD:D.Ok P){f:Nat}{fn code nt args aos ros l pack}{un:R->HL D.T (z03 ros)}{go}
  (hf:P.funcs[f]? = some fn) (hb:fn.body=some code) (hnt:fn.ntmps=nt) (hent:∀args w,(callFunc f args).run P w = .ok (.enter f args) w) (hargs:args.length<=nt)
  (hp1:aos.length<=l.pin) (hp2:l.pin<=l.os.length) (hlen:l.os.length=ros.length) (hres:fn.results.toList=[]) (hout:∀x,(l.bld D x).o=z55 D (λk=>k) ros 0 (un (pack x)))
  (hrun:ym2 P D code aos.length args aos nt [] (zwx D l pack) go):zvx.Ok P {f:=f,args:=args,aos:=aos,m:=none,ros:=ros,go:=λx _=>(go x).bind λr=>some (un r)}:=λx mx y hgo lv L E ρ0 vargs hg am hm W g cargs u hG hA hM=>by
 obtain⟨r,h1,h2⟩:=zqg hgo;injection h2 with h2;subst hm;have hu:=hM;subst hu;subst hnt;refine⟨λw=>hent cargs w,(callsD_of_wp (R:=λe W'=>∃v L' g' ρ',e = .returned v∧Step W g ⟨lv,L,E⟩ W' g' ⟨lv,L',E⟩∧Good W' g' ⟨lv,L',E⟩∧Left D lv L ρ0 aos.length L' ρ' ros y) hf hb ?_).mono λe u' W' ⟨q1,v,L',g',ρ',q2,q3,q4,q5⟩=>⟨v,L',g',ρ',q2,q3,q4,by rw[q1];rfl,q5⟩⟩
 have hpl:(z7e lv L E ρ0 aos.length).pin.length<=aos.length:=by grind[z7e]
 refine wp_mono (hrun (z7e lv L E ρ0 aos.length) _ r rfl hpl (yac hD (by omega) hp2) x _ (hg.entry (E:=E) aos.length hargs).tr h1 W g ⟨lv,L,E⟩ W _ g ⟨hG⟩ ⟨rfl,.refl _ _ _⟩ (y27 hG hA)).wp λex a W' ⟨g1,σ,e',q1,q2,q3,q4⟩ =>?_
 have key:(∃x,pack x=r∧TR D (z7e lv L E ρ0 aos.length) (l.bld D x) σ)->a.defers=[]∧∃v,(results fn a.tmps).run P W' = .ok v W'∧∃v' L' g' ρ',Ending.returned v = .returned v'∧Step W g ⟨lv,L,E⟩ W' g' ⟨lv,L',E⟩∧Good W' g' ⟨lv,L',E⟩∧Left D lv L ρ0 aos.length L' ρ' ros y:=λ⟨z,hz,υ,ρ',w1,w2⟩=>by
  subst hz;obtain⟨g3,w3,w4⟩:=w1 W g ⟨lv,L,E⟩ W' a g1 ⟨hG⟩ q2 q3;obtain⟨c,z1,z2⟩:=zds (P:=P) (fn:=fn) (v:=z9y []) w4 (by grind[z0w,y3h]);obtain⟨l1,l2⟩:=y54 w2 (hout z) hlen;have hd:=w2.d;rw[h2]at l2;have w5:=w3.2;have w6:=w4.good;rw[l1]at w5 w6;exact⟨Qao (by rw[w4.dlen,hd];rfl),c,z1,c,υ.H.L,g3,ρ',rfl,w5,w6,l2⟩
 cases q1 with
 |normal=>exact key q4
 |ret=>exact key q4
 |exit id=>exact q4.elim
 |panic v c hr=>exact q4.elim
def mvOf(D:Dat):(m:Option Sh)->HL D.T (y3r m)->TV D.T
 |none,_=>.nili
 |some s,x=>zq2 D (λk=>k) s x
theorem yws{tbl J mv c K}{r:R}(h:runS D P tbl J mv c ts K=some r) :
  ∃id ops b o rest ts1,c = .seq (.region id ops false) b∧ops.toList=o::rest∧isRec o=true∧ts.put D o.dst mv=some ts1∧zvu P D tbl ops.toList (λts=>run P D tbl J b ts K) K.kp rest ts1=some r:=by
 unfold runS at h;split at h;split at h;rename_i hl;split at h;rename_i hrec;split at h;rename_i ts1 hput
 grind
 cases h;cases h;cases h;cases h
theorem yr8(hm:P.follows .mixedOrders=true)(hD:D.Ok P){f:Nat}{fn}{c:AC}{nt args aos ros m}{l:LSh}{pack}{un:R->HL D.T (z03 ros)}{go:HL D.T (Sh.z04 args++z03 aos)->HL D.T (y3r m)->Option R}
  (hf:P.funcs[f]? = some fn) (hb:fn.body=some c.erase) (hnt:fn.ntmps=nt) (hent:∀args w,(callFunc f args).run P w = .ok (.enter f args) w) (hargs:args.length<=nt)
  (hp1:aos.length<=l.pin) (hp2:l.pin<=l.os.length) (hlen:l.os.length=ros.length) (hres:fn.results.toList=[]) (hlab:c.labels=[]) (hmode:(match m with|some (.iface _ _)=>true|some _=>false|none=>true)=true) (hout:∀x,(l.bld D x).o=z55 D (λk=>k) ros 0 (un (pack x)))
  (hgo:∀x mx,go x mx=runS D P [] (λ_ _=>none) (mvOf D m mx) c (entry D args aos nt [] x) (zwx D l pack)):zvx.Ok P {f:=f,args:=args,aos:=aos,m:=m,ros:=ros,go:=λx mx=>(go x mx).bind λr=>some (un r)}:=λx mx y hgo' lv L E ρ0 vargs hg am ham W g cargs u hG hA hM=>by
 obtain⟨r,h1,h2⟩:=zqg hgo';injection h2 with h2;subst hnt;rw[hgo]at h1;refine⟨λw=>hent cargs w,callsD_of_wpS hf hb λc₀ cs hu =>?_⟩
 let F:=z7e lv L E ρ0 aos.length
 have hpl:F.pin.length<=aos.length:=by grind[z7e]
 have hK:KOk D F (zwx D l pack) (yky D F l pack r) r:=yac hD (by omega) hp2;have hR0:=hg.entry (E:=E) aos.length hargs
 have hmv:VR D ρ0 F.lv (mvOf D m mx) am.value:=by
  cases m with
  |none=>have ham:am = .ret:=ham;grind[mvOf,zl7.value,VR]
  |some s=>obtain⟨v,h3,h4⟩:=ham;subst h3;exact(h4.more ρ0:VR D ([]++ρ0) lv _ v)
 obtain⟨id,ops,b,o,rest,ts1,rfl,hl,hrec,hput,h1⟩:=yws h1
 have ho:=by
  have:=congrArg (λx=>x[0]?) hl;simpa using this
 have hsz:=by
  have:=congrArg List.length hl;simpa using this
 have hlab':b.labels=[]:=by
  grind[AC.labels]
 have z0s:y57 P (LOk P D F (λ_ _=>none) r) b (yky D F l pack r):=zhm (by grind) λl' a Q' hs=>by
  have:=zcg hs;grind
 have behind:∀(σ':St) (ts':TS D.T) (ρ':List Slot),TRr D F ρ' ts' σ'->run P D [] (λ_ _=>none) b ts' (zwx D l pack)=some r->∀(W':World) (a':Act) (g':Gh) (u':FrameMode),Step W g ⟨lv,L,E⟩ W' g' σ'.H->zzb W' a' g' σ'->y4w W' g' σ'.H am.ztb u' ->
   b.erase.wpS P (y50 W g ⟨lv,L,E⟩ c₀ cs (yky D F l pack r) am.ztb) a' ({c₀ with mode:=u'}::cs) W':=λσ' ts' ρ' hR' hrun W' a' g' u' hS' hG' hM'=>by
  have hs:=z8b (J:=λ_ _=>none) (tbl:=[]) (c:=b) hD (λe he=>by cases he) hK z0s hR'.tr hrun;refine wpS_of_wp (wp_mono (hs W' g' σ'.H W' a' g' ⟨hG'.good⟩ ⟨by rw[hR'.e0,hR'.E];rfl,.refl _ _ _⟩ hG').wp λe a'' W'' ⟨g'',σ'',e'',q1,q2,q3,q4⟩ =>?_);exact⟨g'',σ'',e'',u',q1,⟨by rw[q2.1,hR'.E];rfl,hS'.trans q2.2⟩,q3,rfl,hM'.mono q2.2,q4⟩
 have fin:∀a0:Act,zzb W a0 g ⟨vargs++List.replicate (fn.ntmps-vargs.length) .any,⟨lv,L,E⟩,[],E⟩->(AC.seq (.region id ops false) b).erase.wpS P (y50 W g ⟨lv,L,E⟩ c₀ cs (yky D F l pack r) am.ztb) a0 (c₀::cs) W:=λa0 hG0=>by
  refine wpS_seq (wpS_region ?_);rw[List.range_eq_range',hsz,List.range'_succ];simp[wpOpsS,ho];unfold isRec at hrec;split at hrec
  ·rename_i cl hop;split at hrec
   ·rename_i hcal;simp[Array.isEmpty_iff]at hrec;have hwant:Region.wanted o (yielded ops a0.tmps)=true:=by unfold Region.wanted;rw[hrec.1]
    have hex:(execOp a0.eval o).run P W = .ok .recover W:=by
     unfold execOp;rw[hop];obtain⟨callee,as,argTypes⟩:=cl;simp at hcal hrec;obtain⟨_,rfl⟩:=hrec;subst hcal;simp[resolve,invoke,builtin]
    rw[Qbq hwant,hex];simp
    have rest':∀(cv:Value) (u':FrameMode),Rel W g ⟨lv,L,E⟩ am.value cv->y4w W g ⟨lv,L,E⟩ am.ztb u'->wpOpsS P ops (Exit.thenS (b.erase.wpS P (y50 W g ⟨lv,L,E⟩ c₀ cs (yky D F l pack r) am.ztb)) (y50 W g ⟨lv,L,E⟩ c₀ cs (yky D F l pack r) am.ztb)) (List.range' (0+1) rest.length) (a0.put o.dst cv) ({c₀ with mode:=u'}::cs) W:=λcv u' hv hM'=>by
     have hR1:=hR0.put hput hmv;have hG1:=hG0.next (.refl _ _ _) hG0.good hv o.dst
     have hs:=zhg (Q:=λe σ'=>e = .normal∧∃ts' ρ',TRr D F ρ' ts' σ'∧run P D [] (λ_ _=>none) b ts' (zwx D l pack)=some r) hD (tbl:=[]) (r:=r) (λe he=>by cases he) (λts' σ' ρ' hR' hk=>⟨rfl,ts',ρ',hR',hk⟩) (λz ts' σ' ρ' v _ _ hk=>by cases hk) rest 1 (λj=>by
      have:=congrArg (λx=>x[1+j]?) hl
      grind) hR1 h1
     have hH:(St.put ⟨vargs++List.replicate (fn.ntmps-vargs.length) .any,⟨lv,L,E⟩,[],E⟩ o.dst am.value).H=⟨lv,L,E⟩:=by cases o.dst <;> rfl
     have he:(St.put ⟨vargs++List.replicate (fn.ntmps-vargs.length) .any,⟨lv,L,E⟩,[],E⟩ o.dst am.value).e0=E:=by cases o.dst <;> rfl
     have hs2:=hs W g ⟨lv,L,E⟩ W (a0.put o.dst cv) g ⟨hG⟩ ⟨by rw[he],by rw[hH];exact .refl _ _ _⟩ hG1;rw[show ops.size-1=rest.length by omega]at hs2;refine zxw (Q:=Exit.thenS (b.erase.wpS P (y50 W g ⟨lv,L,E⟩ c₀ cs (yky D F l pack r) am.ztb)) (y50 W g ⟨lv,L,E⟩ c₀ cs (yky D F l pack r) am.ztb)) (λa w h=>y50.out h) _ _ _ (ztf (λe a' W' ⟨g',σ',e',q1,q2,q3,q4⟩ =>?_) _ _ _ hs2);obtain⟨rfl,ts',ρ',q5,q6⟩:=q4
     cases q1;exact behind σ' ts' ρ' q5 q6 W' a' g' u' q2.2 q3 (hM'.mono q2.2)
    cases am with
    |ret=>
     have hmd:c₀.mode = .returning:=by rw[hu];exact hM
     have hrd:recoverD (c₀::cs)=none:=by simp[recoverD,hmd]
     rw[hrd]
     exact rest' .nilIface c₀.mode .nili hmd
    |pan v rc=>
     have hrc:rc=false:=by
      cases m with
      |none=>cases (show zl7.pan v rc = .ret from ham)
      |some s=>obtain⟨v',h3,_⟩:=ham;injection h3
     subst hrc;obtain⟨cv,h3,h4⟩:=hM;have h3:=hu.trans h3;have hrd:recoverD (c₀::cs)=some (cv,{c₀ with mode:=.panicking [{v:=cv,recovered:=true}]}::cs):=by simp[recoverD,h3]
     rw[hrd];exact rest' cv _ h4 ⟨cv,rfl,h4⟩
   cases hrec
  cases hrec
 refine z018 (fin _ (y27 hG hA)) λex a' cs' W' ⟨g',σ',e',u',q1,q2,q3,q4,q5,q6⟩ =>?_
 subst q4
 have hmode:am = .ret∨∃v,am = .pan v false:=by
  cases m with
  |none=>exact .inl ham
  |some s=>obtain⟨v,h3,_⟩:=ham;grind
 have hset:=q5.settle;rw[yhk hmode]at hset
 have key:(∃x,pack x=r∧TR D F (l.bld D x) σ')->a'.defers=[]∧∃u'',({c₀ with mode:=u'}::cs:List Frame)={c₀ with mode:=u''}::cs∧∃v,(results fn a'.tmps).run P W' = .ok v W'∧∃v' L' g' ρ',Ending.returned v = .returned v'∧Step W g ⟨lv,L,E⟩ W' g' ⟨lv,L',E⟩∧Good W' g' ⟨lv,L',E⟩∧settle u'' = .returning∧Left D lv L ρ0 aos.length L' ρ' ros y:=λ⟨z,hz,υ,ρ',w1,w2⟩=>by
  subst hz;obtain⟨g3,w3,w4⟩:=w1 W g ⟨lv,L,E⟩ W' a' g' ⟨hG⟩ q2 q3;obtain⟨c,z1,z2⟩:=zds (P:=P) (fn:=fn) (v:=z9y []) w4 (by grind[z0w,y3h]);obtain⟨l1,l2⟩:=y54 w2 (hout z) hlen;have hd:=w2.d;rw[h2]at l2;have w5:=w3.2;have w6:=w4.good;rw[l1]at w5 w6;exact⟨Qao (by rw[w4.dlen,hd];rfl),u',rfl,c,z1,c,υ.H.L,g3,ρ',rfl,w5,w6,hset,l2⟩
 cases q1 with
 |normal=>exact key q6
 |ret=>exact key q6
 |exit id=>exact q6.elim
 |panic v c hr=>exact q6.elim
def FI.ofP(D)(f nt p:Nat)(args)(aos)(outs)(ros)(pan:Sh)(pos)(des:List (zvx D))(l:LSh){R}(pack:HL D.T l.tys->R)(un:R->HL D.T (Sh.z04 outs++z03 ros))
  (go:Nat->HL D.T (Sh.z04 args++z03 aos)->Option (Res (HL D.T (pan.tys++z03 pos)) R)) (z0s:Nat->List (Nat×Lb D (Res (HL D.T (pan.tys++z03 pos)) R))) (c:AC):FI D :=
 {R:=Res (HL D.T (pan.tys++z03 pos)) R,ent:=λn=>{f:=f,p:=p,args:=args,aos:=aos,outs:=outs,ros:=ros,pan:=pan,pos:=pos,pure:=false,go:=λx k kp=>(go n x).bind λo=>zpx o (λr=>k (un r)) (λy=>kp y)},
   c:=c,K:=yvj D des l pack pan pos p (λy=>y),p:=p,args:=args,aos:=aos,nt:=nt,z0s:=z0s,go:=go}
def yj0(P:Program):List (zvx D)->Prop
 |[]=>True
 |d::l=>d.Ok P∧yj0 P l
theorem yj0.get:∀{l:List (zvx D)},yj0 P l->∀d∈l,d.Ok P
 |d::l,h,e,he=>by
  rcases Qbg.1 he with rfl|he
  exact h.1;exact yj0.get h.2 e he
def chkP(p nt:Nat)(args:List Sh)(ros pos:List OSh)(l:LSh):Bool :=
 Nat.ble args.length nt&&Nat.ble p l.pin&&Nat.ble l.pin l.os.length&&Nat.beq l.os.length ros.length&&Nat.ble p pos.length
theorem FI.zxe{hD:D.Ok P}{f nt p:Nat}{args aos outs ros pan pos des l pack}{un:R->HL D.T (Sh.z04 outs++z03 ros)}
  {go:Nat->HL D.T (Sh.z04 args++z03 aos)->Option (Res (HL D.T (pan.tys++z03 pos)) R)} {z0s:Nat->List (Nat×Lb D (Res (HL D.T (pan.tys++z03 pos)) R))}{c tbl fn}
  (hf:P.funcs[f]? = some fn) (hnt:fn.ntmps=nt) (hent:∀args w,(callFunc f args).run P w = .ok (.enter f args) w)
  (hb:fn.body=some c.erase) (hnd:c.labels.Nodup) (hchk:chkP p nt args ros pos l=true) (hp:∀n,y3l p (z0s n)=true) (hdes:yj0 P des)
  (hout:∀x,zxd P D (l.bld D x) fn.results.toList=some (z1u D (λk=>k) outs (HL.fst _ (un (pack x)))))
  (hz:∀x,go 0 x=none) (hlz:zvn (λ_ lb=>∀x,lb.go x=none) (z0s 0))
  (hs:∀n x,go (n+1) x=run P D (tbl n) (jump D (z0s n)) c (entry D args aos nt [] x) (yvj D des l pack pan pos p (λy=>y)))
  (hls:∀n,zvn (λj lb=>∀x,lb.go x=zxp P D (tbl n) (jump D (z0s n)) j c (yvj D des l pack pan pos p (λy=>y)) (lb.sh.bld D x)) (z0s (n+1)))
  (hros:∀x,(l.bld D x).o=z55 D (λk=>k) ros 0 (HL.snd _ (un (pack x)))) (hpt:(match pan with| .tup _=>false|_=>true)=true:=by rfl) (hrng:c.zke=[]:=by kernel_rfl) :
  (FI.ofP D f nt p args aos outs ros pan pos des l pack un go z0s c).Good P D tbl where
 nodup:=hnd
 zke:=λq hq=>by replace hq:q∈c.zke:=hq;grind
 zero:=hz
 lzero:=λj lb x h=>hlz.get (z2o h) x
 pins:=λn j lb h=>(zsu (hp n)).get (z2o h)
 step:=hs
 lstep:=λn j lb x h=>(hls n).get (z2o h) x
 ok:=λn h=>by
  simp only[chkP,Qag,Nat.ble_eq]at hchk;obtain⟨⟨⟨⟨h1,h2⟩,h3⟩,h4⟩,h5⟩:=hchk;exact z02k (l:=l) (pack:=pack) (un:=un) (go:=go n) (code:=c.erase) (des:=des) hD hf hb hnt hent h1 (λ_ _ _ _=>rfl) rfl rfl hpt rfl h2 h3 (Qaj h4) h5 (λx=>⟨hout x,hros x⟩) hdes.get h
def FI.ofD(D)(f nt p:Nat)(args)(aos)(outs)(ros)(des:List (zvx D))(l:LSh){R}(pack:HL D.T l.tys->R)(un:R->HL D.T (Sh.z04 outs++z03 ros))
  (go:Nat->HL D.T (Sh.z04 args++z03 aos)->Option R) (z0s:Nat->List (Nat×Lb D R)) (c:AC):FI D :=
 {R:=R,ent:=λn=>{f:=f,p:=p,args:=args,aos:=aos,outs:=outs,ros:=ros,pan:=.nilp,pos:=ros,pure:=false,go:=λx k _=>(go n x).bind λr=>k (un r)},
   c:=c,K:=yv4 D des l pack,p:=p,args:=args,aos:=aos,nt:=nt,z0s:=z0s,go:=go}
theorem FI.z034{hD:D.Ok P}{f nt p:Nat}{args aos outs ros des l pack un go}{z0s:Nat->List (Nat×Lb D R)}{c tbl fn}
  (hf:P.funcs[f]? = some fn) (hnt:fn.ntmps=nt) (hent:∀args w,(callFunc f args).run P w = .ok (.enter f args) w)
  (hb:fn.body=some c.erase) (hnd:c.labels.Nodup) (hchk:yrf p nt args outs aos ros false l c []=true) (hp:∀n,y3l p (z0s n)=true) (hdes:yj0 P des)
  (hout:∀x,zxd P D (l.bld D x) fn.results.toList=some (z1u D (λk=>k) outs (HL.fst _ (un (pack x)))))
  (hz:∀x,go 0 x=none) (hlz:zvn (λ_ lb=>∀x,lb.go x=none) (z0s 0))
  (hs:∀n x,go (n+1) x=run P D (tbl n) (jump D (z0s n)) c (entry D args aos nt [] x) (yv4 D des l pack))
  (hls:∀n,zvn (λj lb=>∀x,lb.go x=zxp P D (tbl n) (jump D (z0s n)) j c (yv4 D des l pack) (lb.sh.bld D x)) (z0s (n+1)))
  (hros:∀x,(l.bld D x).o=z55 D (λk=>k) ros 0 (HL.snd _ (un (pack x)))) (hrng:c.zke=[]:=by kernel_rfl) :
  (FI.ofD D f nt p args aos outs ros des l pack un go z0s c).Good P D tbl where
 nodup:=hnd
 zke:=λq hq=>by replace hq:q∈c.zke:=hq;grind
 zero:=hz
 lzero:=λj lb x h=>hlz.get (z2o h) x
 pins:=λn j lb h=>(zsu (hp n)).get (z2o h)
 step:=hs
 lstep:=λn j lb x h=>(hls n).get (z2o h) x
 ok:=λn h=>by
  simp only[yrf,Qag,Nat.ble_eq]at hchk;obtain⟨⟨⟨h1,h2⟩,h3⟩,h4⟩:=hchk;exact z019 (l:=l) (pack:=pack) (un:=un) (go:=go n) (code:=c.erase) (des:=des) hD hf hb hnt hent h1 (λ_ _ _ _=>rfl) rfl rfl rfl h2 h3 (Qaj h4.1.1) (λx=>⟨hout x,hros x⟩) hdes.get h
end
theorem zq0{P D}(hD:D.Ok P){f bs}(hb:OkL P bs)(h:f.Good P D (tb bs)):OkL P [f] :=
 ⟨λn=>h.ok n (h.runs hD n λm _ e he=>by
  obtain⟨b,hm,rfl⟩:=Qbc.1 he
  exact hb.get hm m),trivial⟩
theorem z06h{P f vargs cargs W}(h:znq P f vargs H0 λout _=>out = .ret (.bool true))(ha:zk0 W g0 H0 vargs cargs)(hl:zkx W g0 H0) :
  Calls P f cargs W λe W'=>e = .returned (.bool true)∧RowKit.Below W.heap.size W W' :=
 (h W g0 cargs (z055 W hl) ha).2.mono λe W' ⟨o,H',g',ho,hs,_,hr⟩=>by
  subst ho;obtain⟨c,he,hc⟩:=hr;cases hc;exact⟨he,y1h hs⟩
section
variable {P : Program} {D : Dat} {F : Fr} {R : Type}
theorem ywa{σ τ}(h:zlf {σ with d:=[]} τ)(hd:σ.d=[(zl8,[])])(ht:τ.d=[]):zlf σ {τ with d:=[(zl8,[])]}:=λW0 g0 H0 W a g hB hS hG=>by
 have h0:zzb W {a with defers:=[]} g {σ with d:=[]}:=⟨hG.good,hG.size,hG.tmps,rfl,λj f vs hj=>by simp at hj⟩;obtain⟨g',h1,h2⟩:=h W0 g0 H0 W {a with defers:=[]} g hB hS h0;have hl:=hG.dlen;rw[hd]at hl;refine⟨g',h1,h2.good,h2.size,h2.tmps,hl,λj f vs hj =>?_⟩
 cases j with
 |succ j=>simp at hj
 |zero=>
  obtain⟨rfl,rfl⟩:=hj
  rcases hG.defs 0 zl8 [] (by rw[hd];rfl)with ⟨q,_⟩|⟨_,Dd,h5,h6,h7⟩
  omega;exact .inr ⟨rfl,Dd,h5,h6,by rw[h1.2.base,<-hS.2.base];exact h7⟩
theorem ynk{ρ ts σ}(hR:TRr D F ρ ts σ):∃σ',(σ'=σ∧ts.y7c=ts∨σ'={σ with d:=[]}∧σ.d=[(zl8,[])])∧TRr D F ρ ts.y7c σ':=by
 unfold TS.y7c;split;rename_i f hd;split;rename_i hf;have hf:=Qaj hf;have hdl:=hR.d;rw[hd]at hdl;obtain⟨vs,s,h1,h2,h3⟩:=hdl;simp[VRL]at h2;have h3:=h3;subst h2;subst h3;subst hf;exact⟨_,.inr ⟨rfl,h1⟩,hR.nx,hR.nt,hR.tm,hR.ob,hR.inj,hR.mine,hR.lv,hR.E,hR.e0,rfl,hR.out,hR.pin,hR.fpl,hR.g⟩
 grind
 grind
theorem z01s(hD:D.Ok P){e:Ent D}{fn:Func}{code:Code}{nt:Nat}{l:LSh}{pack:HL D.T l.tys->R}{un:R->HL D.T (Sh.z04 e.outs++z03 e.ros)}{go:HL D.T (Sh.z04 e.args++z03 e.aos)->Option R}
  (hf:P.funcs[e.f]? = some fn) (hb:fn.body=some code) (hnt:fn.ntmps=nt) (hent:∀args w,(callFunc e.f args).run P w = .ok (.enter e.f args) w) (hargs:e.args.length<=nt)
  (hgo:∀(R':Type) (x:HL D.T (Sh.z04 e.args++z03 e.aos)) (k:HL D.T (Sh.z04 e.outs++z03 e.ros)->Option R') (kp:HL D.T (e.pan.tys++z03 e.pos)->Option R'),e.go x k kp=(go x).bind λr=>k (un r))
  (hpure:e.pure=true) (hren:e.ren=[]) (haos:e.aos=[]) (hros:e.ros=[]) (houts:y9v e.outs=true) (hp2:l.pin<=l.os.length)
  (hout:∀x,zxd P D (l.bld D x) fn.results.toList=some (z1u D (λk=>k) e.outs (HL.fst _ (un (pack x)))))
  (hrun:ym2 P D code e.p e.args e.aos nt [] (yp9 D l pack) go):e.Ok P:=λR' x k kp r h=>by
 rw[hpure];rw[hgo]at h;obtain⟨r0,h1,h2⟩:=zqg h;refine⟨un r0,h2,haos,hros,hren,λlv0 vargs k2=>⟨canon D e.outs (HL.fst _ (un r0)),λρ lv=>y6k hD houts,?_⟩⟩;have hvl:vargs.length=e.args.length:=by rw[<-k2.length];exact zvl _ _
 refine ywb hf hb hnt hent λlv E =>?_
 let F:Fr:=⟨lv+1,E,E,[],λi=>False,[],[]⟩
 have hnob:∀s (o:TO D.T),fnd (z55 D (λk=>k) e.aos 0 (HL.snd _ x)) s=some o->False:=λs o ho=>by
  obtain⟨j,_,hlt,_⟩:=zsp e.aos (z2o ho);rw[haos]at hlt;simp at hlt
 have k2':VRL D [] (lv+1) (z1u D (λk=>k) e.args (HL.fst _ x)) vargs:=VRL.lvl k2
 have hR0:TRr D F [] (entry D e.args e.aos nt [] x) ⟨vargs++List.replicate (nt-vargs.length) .any,⟨lv+1,[],E⟩,[],E⟩:=by
  refine⟨by simp only[entry,haos];rfl,by simp only[entry,Qap,List.length_replicate];omega,zo0 _ k2',λs o ho=>(hnob s o ho).elim,λs s' o o' sl sl' i a1=>(hnob s o a1).elim,λs o sl i a1=>(hnob s o a1).elim,rfl,rfl,rfl,rfl,λi hi=>hi.elim,λj sl hj=>by simp[F]at hj,λs o sl i a1=>(hnob s o a1).elim,λi s v h=>by simp[entry]at h⟩
 refine ydk ((hrun F _ r0 rfl (by simp[F]) (yoh (K:=yp9 D l pack) rfl) x _ hR0.tr h1).mono λex σ hq =>?_)
 have key:∀ex,(ex = .normal∨ex = .ret)->(∃ts,TR D F ts σ∧l.enter D (λx=>some (pack x)) 9 ts.y7c=some r0)->∃τ,zlf σ τ∧(∀v,ex ≠ .panic v)∧z03a P fn lv E (z9y (canon D e.outs (HL.fst _ (un r0)))) ex τ:=λex hex ⟨ts,⟨τ0,ρ0,w0,hR⟩,hk⟩=>by
  obtain⟨σ',hσ',hR'⟩:=ynk hR;obtain⟨y,hy,τ,ρ',w1,w2⟩:=LSh.zcn hD (by simp[F]) hp2 hR'.tr hk;injection hy with hy;subst hy;obtain⟨vs,q1,q2⟩:=zgo hD w2 (hout y);have hv:=yr5 (ydn hD (H:=τ.H) (Dm:=outer lv) houts q2);have hd:τ.d=[]:=w2.d
  have fin:∀τ':St,zlf σ τ'->z0w P fn τ'=some (z9y vs)->(τ'.d=[]∨τ'.d=[(zl8,[])])->τ'.H=τ.H->∃τ,zlf σ τ∧(∀v,ex ≠ .panic v)∧z03a P fn lv E (z9y (canon D e.outs (HL.fst _ (un (pack y))))) ex τ:=λτ' f1 f2 f3 f4=>by
   refine⟨τ',f1,λv e=>by rcases hex with h|h <;> (rw[h]at e;cases e),?_⟩
   rcases hex with rfl|rfl
   exact⟨z9y vs,f2,f3,by rw[f4];exact w2.E,by rw[f4];exact hv⟩;exact⟨z9y vs,f2,f3,by rw[f4];exact w2.E,by rw[f4];exact hv⟩
  have hres:z0w P fn τ=some (z9y vs):=by simp only[z0w,q1,Qbk]
  rcases hσ' with ⟨rfl,_⟩|⟨rfl,hm⟩
  exact fin τ (w0.trans w1) hres (.inl hd) rfl;refine fin {τ with d:=[(zl8,[])]} (w0.trans (ywa w1 hm hd)) ?_ (.inr rfl) rfl;rw[<-hres];have:=ycl (P:=P) (fn:=fn) (σ:={τ with d:=[(zl8,[])]});rw[<-this]
  congr 1
  cases τ;simp only at hd;subst hd;rfl
 cases ex with
 |normal=>exact key _ (.inl rfl) hq
 |ret=>exact key _ (.inr rfl) hq
 |exit id=>exact hq.elim
 |panic v=>obtain⟨ts,ρ,z,_,_,hk⟩:=hq;cases hk
theorem z04w{c:AC}{lf}(h:c.zke=[lf])(hl:zhd P lf):∀q∈c.zke,zhd P q:=λq hq=>by
 rw[h]at hq
 rcases Qbg.1 hq with rfl|hq
 exact hl;cases hq
def FI.ofM(D)(f nt p:Nat)(args)(aos)(outs)(ros)(l:LSh){R}(pack:HL D.T l.tys->R)(un:R->HL D.T (Sh.z04 outs++z03 ros))
  (go:Nat->HL D.T (Sh.z04 args++z03 aos)->Option R) (z0s:Nat->List (Nat×Lb D R)) (c:AC):FI D :=
 {FI.of D f nt p args aos outs ros true l pack un go z0s c with K:=yp9 D l pack}
theorem FI.z03d{hD:D.Ok P}{f nt p:Nat}{args aos outs ros l pack un go}{z0s:Nat->List (Nat×Lb D R)}{c tbl fn}
  (hf:P.funcs[f]? = some fn) (hnt:fn.ntmps=nt) (hent:∀args w,(callFunc f args).run P w = .ok (.enter f args) w)
  (hb:fn.body=some c.erase) (hnd:c.labels.Nodup) (hchk:yrf p nt args outs aos ros true l c []=true) (hp:∀n,y3l p (z0s n)=true)
  (hout:∀x,zxd P D (l.bld D x) fn.results.toList=some (z1u D (λk=>k) outs (HL.fst _ (un (pack x)))))
  (hz:∀x,go 0 x=none) (hlz:zvn (λ_ lb=>∀x,lb.go x=none) (z0s 0))
  (hs:∀n x,go (n+1) x=run P D (tbl n) (jump D (z0s n)) c (entry D args aos nt [] x) (yp9 D l pack))
  (hls:∀n,zvn (λj lb=>∀x,lb.go x=zxp P D (tbl n) (jump D (z0s n)) j c (yp9 D l pack) (lb.sh.bld D x)) (z0s (n+1)))
  (hrng:∀q∈c.zke,zhd P q) :
  (FI.ofM D f nt p args aos outs ros l pack un go z0s c).Good P D tbl where
 nodup:=hnd
 zke:=hrng
 zero:=hz
 lzero:=λj lb x h=>hlz.get (z2o h) x
 pins:=λn j lb h=>(zsu (hp n)).get (z2o h)
 step:=hs
 lstep:=λn j lb x h=>(hls n).get (z2o h) x
 ok:=λn h=>by
  simp only[yrf,Qag,Nat.ble_eq,List.isEmpty_iff]at hchk;obtain⟨⟨⟨h1,h2⟩,h3⟩,⟨⟨rfl,rfl⟩,h6⟩,_⟩:=hchk;exact z01s (l:=l) (pack:=pack) (un:=un) (go:=go n) (code:=c.erase) hD hf hb hnt hent h1 (λ_ _ _ _=>rfl) rfl rfl rfl rfl h6 h3 hout h
end
section
variable {P : Program} {D : Dat}
def ydo:List OSh:=[.cells [.own 1,.own 2,.d .bool],.rig,.rig]
def aosK:List OSh:=[.cells [.any,.any,.d .bool]]
abbrev GoR(D:Dat)(args outs:List Sh)(ex:List OSh):={R:Type}->HL D.T (Sh.z04 args++z03 ydo)->(HL D.T (Sh.z04 outs++z03 (ydo++ex))->Option R)->Option R
def yvm(D)(f:Nat)(args outs)(ex)(go:GoR D args outs ex):Ent D :=
 {f:=f,p:=1,args:=args,aos:=ydo,outs:=outs,ros:=ydo++ex,pan:=.nilp,pos:=ydo++ex,pure:=false,go:=λx k _=>go x k,ren:=[(1,1),(2,2)]}
def ydy(D:Dat)(outs)(ex)(y:HL D.T (Sh.z04 outs++z03 (ydo++ex))):HL D.T (Sh.z04 outs++z03 aosK):=HL.app (HL.fst (Sh.z04 outs) y) ((HL.snd (Sh.z04 outs) y).1,())
def yo9(D)(f:Nat)(args outs)(ex)(go:GoR D args outs ex):Ent D :=
 {f:=f,p:=1,args:=args,aos:=aosK,outs:=outs,ros:=aosK,pan:=.nilp,pos:=aosK,pure:=false,go:=λx k _=>go x λy=>k (ydy D outs ex y),kc:=[(0,0),(0,1)]}
theorem yq4(hD:D.Ok P){ρ ρ' lv}:∀{l x vs},y9v l=true->VRL D ρ lv (z1u D (λk=>k) l x) vs->VRL D ρ' lv (z1u D (λk=>k) l x) vs
 |[],x,vs,h,hv=>by
  exact hv
 |.d t::l,x,vs,h,hv=>by
  simp[y9v,Qag]at h;obtain⟨v,r,rfl,h1,h2⟩:=hv;exact⟨v,r,rfl,VR.data hD h1,yq4 hD h.2 h2⟩
theorem yx6(hD:D.Ok P){f:Nat}{args outs:List Sh}{ex:List OSh}{go:GoR D args outs ex}(ho:y9v outs=true)
  {x:HL D.T (Sh.z04 args++z03 ydo)} {y:HL D.T (Sh.z04 outs++z03 (ydo++ex))}(h:(yvm D f args outs ex go).Flat P x (.inl y)):(yo9 D f args outs ex go).Flat P x (.inl (ydy D outs ex y)):=λlv L E ρ0 vargs k1 k2 k3 k4 k5=>by
 obtain⟨sl,rfl⟩:=List.length_eq_one_iff.1 k1;obtain⟨sl',i,u0,a1,a2,a3,a4⟩:=k5 (0,0) (by simp[yo9]);obtain rfl:sl=sl':=by simpa using a1
 obtain⟨sl',i',u1,b1,b2,b3,b4⟩:=k5 (0,1) (by simp[yo9]);obtain rfl:sl=sl':=by simpa using b1
 rw[a2]at b2;injection b2 with b2;subst b2
 obtain⟨sl',c1,c2⟩:=k3 0 (.cells [.any,.any,.bool (HL.snd (Sh.z04 args) x).1]) (Qak);obtain rfl:sl=sl':=by simpa using c1
 simp only[OR]at c2;obtain⟨i',vs,c2,c3,c4⟩:=c2
 rw[a2]at c2;injection c2 with c2;subst c2
 simp only[VRL,VR]at c4;obtain⟨v0,_,rfl,_,v1,_,rfl,_,v2,_,rfl,rfl,rfl⟩:=c4;simp only[cellAt,c3]at a3 b3;simp only[Qbw,Qbn,List.getElem?_cons_succ]at a3 b3;subst a3;subst b3
 have hh:=h lv L E [sl,⟨v0,none,[],[]⟩,⟨v1,none,[],[]⟩] vargs rfl (VRL.more [⟨v0,none,[],[]⟩,⟨v1,none,[],[]⟩] k2) (λj o hm=>by
  have hm:(j,o)∈[(0,(TO.cells [.own 1,.own 2,.bool (HL.snd (Sh.z04 args) x).1]:TO D.T)),(1,.rig),(2,.rig)]:=hm;simp only[Qbg,Qbs,List.not_mem_nil,or_false]at hm
  rcases hm with ⟨rfl,rfl⟩|⟨rfl,rfl⟩|⟨rfl,rfl⟩
  refine⟨sl,rfl,?_⟩;simp only[OR];refine⟨i,_,a2,c3,?_⟩;simp only[VRL,VR];exact⟨v0,_,rfl,⟨_,rfl,rfl,a4⟩,v1,_,rfl,⟨_,rfl,rfl,b4⟩,_,_,rfl,rfl,rfl⟩;exact⟨_,rfl,(⟨rfl,rfl,a4⟩:none=none∧[]=[]∧v0.leaf=true)⟩
  ·exact⟨_,rfl,(⟨rfl,rfl,b4⟩:none=none∧[]=[]∧v1.leaf=true)⟩) ⟨λs s' t t' j r1 r2 q1 q2=>by
   match s,s',r1,r2 with
   |0,0,_,_=>rfl
   |1,_,r1,_=>simp at r1;subst r1;rcases q1 with h|h <;> cases h
   |2,_,r1,_=>simp at r1;subst r1;rcases q1 with h|h <;> cases h
   |0,1,_,r2=>simp at r2;subst r2;rcases q2 with h|h <;> cases h
   |0,2,_,r2=>simp at r2;subst r2;rcases q2 with h|h <;> cases h
   |0,n+3,_,r2=>simp at r2
   |n+3,_,r1,_=>simp at r1,λs t j r1 q1=>by
   match s,r1 with
   |0,r1=>exact k4.2 0 t j r1 q1
   |1,r1=>simp at r1;subst r1;cases q1
   |2,r1=>simp at r1;subst r1;cases q1
   |n+3,r1=>simp at r1⟩ .nil
 refine hh.mono λout H' ⟨L',ρ',e1,e2,⟨e3,_⟩,vs',e4,e5⟩ =>?_
 have e2:Left D lv L [sl,⟨v0,none,[],[]⟩,⟨v1,none,[],[]⟩] 1 L' ρ' (ydo++ex) (HL.snd (Sh.z04 outs) y):=e2;have hlen:ρ'.length=ex.length+3:=e2.len
 match ρ',hlen with
 |s0::s1::s2::rest,_=>
  have hpin:=e2.pin 0 sl (by omega) rfl;obtain rfl:s0=sl:=by simpa using hpin
  obtain⟨t1,g1,g2⟩:=e3 (1,1) (by simp[yvm]) _ rfl;obtain rfl:s1=t1:=by simpa using g1
  obtain⟨t2,g3,g4⟩:=e3 (2,2) (by simp[yvm]) _ rfl;obtain rfl:s2=t2:=by simpa using g3
  obtain⟨t0,m1,m2⟩:=e2.ob 0 (.cells [.own 1,.own 2,.bool (HL.snd (Sh.z04 outs) y).1]) Qak;obtain rfl:s0=t0:=by simpa using m1
  simp only[OR]at m2;obtain⟨i',vs,m2,m3,m4⟩:=m2
  rw[a2]at m2;injection m2 with m2;subst m2
  simp only[VRL,VR]at m4;obtain⟨w0,_,rfl,⟨_,n1,n2,_⟩,w1,_,rfl,⟨_,n3,n4,_⟩,w2,_,rfl,rfl,rfl⟩:=m4;simp only[Qbw,Qbn,List.getElem?_cons_succ]at n1 n3;subst n1;subst n3;subst n2;subst n4
  refine⟨L',[s0],e1,⟨rfl,λj o hm =>?_,λs s' t t' j r1 r2 q1 q2 =>?_,λs t j r1 q1 =>?_,λj hj hno=>e2.out j hj λk t r1 q1 =>?_,λj t hj r1 =>?_,λs t j r1 q1 =>?_⟩,⟨(λq hq=>by cases hq),λq hq t j r1 r2 =>?_⟩,vs',e4,(by show VRL D [s0] lv (z1u D (λk=>k) outs (HL.fst (Sh.z04 outs) (ydy D outs ex y))) vs';rw[show HL.fst (Sh.z04 outs) (ydy D outs ex y)=HL.fst (Sh.z04 outs) y from HL.zlq _ _];exact yq4 hD ho e5)⟩
  have hm:(j,o)∈z55 D (λk=>k) aosK 0 (HL.snd (Sh.z04 outs) (ydy D outs ex y)):=hm;rw[show HL.snd (Sh.z04 outs) (ydy D outs ex y)=((HL.snd (Sh.z04 outs) y).1,())from HL.zls _ _]at hm;have hm:(j,o)∈[(0,(TO.cells [.any,.any,.bool (HL.snd (Sh.z04 outs) y).1]:TO D.T))]:=hm;simp only[Qaz,Qbs]at hm;obtain⟨rfl,rfl⟩:=hm;refine⟨s0,rfl,?_⟩;simp only[OR];refine⟨i,_,a2,m3,?_⟩;simp only[VRL,VR]
  exact⟨_,_,rfl,trivial,_,_,rfl,trivial,_,_,rfl,rfl,rfl⟩;have l1:=(Qaa.1 r1).1;have l2:=(Qaa.1 r2).1;simp at l1 l2;omega;have l1:=(Qaa.1 r1).1;have hs:s=0:=by simp at l1;omega
  subst hs
  rcases e2.mine 0 t j (by simpa using r1) q1 with h|⟨k,t',h1,h2⟩
  exact .inl h
  match k,h1 with
  |0,h1=>exact .inr ⟨0,t',by simpa using h1,h2⟩
  |1,h1=>simp at h1;subst h1;rcases h2 with h|h <;> cases h
  |2,h1=>simp at h1;subst h1;rcases h2 with h|h <;> cases h
  |n+3,h1=>simp at h1
  match k,r1 with
  |0,r1=>exact hno 0 t (by simpa using r1) q1
  |1,r1=>simp at r1;subst r1;rcases q1 with h|h <;> cases h
  |2,r1=>simp at r1;subst r1;rcases q1 with h|h <;> cases h
  |n+3,r1=>simp at r1
  exact r1;have l1:=(Qaa.1 r1).1;have hs:s=0:=by simp at l1;omega
  subst hs;exact e2.fpl 0 t j (by simpa using r1) q1;have hq:q∈[((0:Nat),(0:Nat)),(0,1)]:=hq;simp only[Qbg,List.not_mem_nil,or_false]at hq
  rcases hq with rfl|rfl
  obtain rfl:s0=t:=by simpa using r1
  rw[a2]at r2;injection r2 with r2;subst r2
  simp only[cellAt,c3,m3,Qbw];rw[g2];obtain rfl:s0=t:=by simpa using r1
  rw[a2]at r2;injection r2 with r2;subst r2
  simp only[cellAt,c3,m3,Qbw,List.getElem?_cons_succ];rw[g4]
theorem yno(hD:D.Ok P){f args outs ex}{go:GoR D args outs ex}(ho:y9v outs=true)
  (h:(yvm D f args outs ex go).Ok P):(yo9 D f args outs ex go).Ok P:=λR x k kp r hr=>by
 rcases h R x (λy=>k (ydy D outs ex y)) (λ_=>none) r hr with ⟨y,e1,e2⟩|⟨y,e1,e2⟩
 exact .inl ⟨_,e1,yx6 hD ho e2⟩;cases e1
def z00t(D)(f:Nat)(args outs)(ex){R:Type}(un:R->HL D.T (Sh.z04 outs++z03 (ydo++ex)))(go:Nat->HL D.T (Sh.z04 args++z03 ydo)->Option R)(I:FI D):FI D :=
 {I with ent:=λn=>yo9 D f args outs ex λx k=>(go n x).bind λr=>k (un r)}
end
theorem yti{α}(l:List α)(k:Nat):ix l (k:Int)=l[k]? := by simp[ix]
theorem wrk{k:Nat}(h:k<=4611686018427387904):IntKind.i64.wrap ((k:Int)+1)=((k+1:Nat):Int):=by rw[wr1 h];rfl
theorem zz5{α}{l:List α}{k}(h:k<l.length):ix l (k:Int)=some l[k]:=by rw[yti,Qab h]
theorem y5w{x y}(h:x.length+y.length<=16777216):cat x y=some (x++y):=by unfold cat;rw[Qbq];simp[maxLen];omega
noncomputable def eqB{α:Type}(a b:α):Bool:=@decide (a=b) (Classical.propDecidable _)
theorem yd4{α}{a b:α}:eqB a b=true↔a=b:=@decide_eq_true_iff _ (Classical.propDecidable _)
theorem zjb{α}{a b:α}:eqB a b=false↔a≠b:=@decide_eq_false_iff_not _ (Classical.propDecidable _)
@[simp] theorem yad {α} (a:α):eqB a a=true:=yd4.2 rfl
theorem down{len}{Q:Nat->Prop}(h0:Q len)(hs:∀k,k<len->Q (k+1)->Q k):∀k,k<=len->Q k:=by
 intro k hk;obtain⟨m,rfl⟩:∃m,k=len-m:=⟨len-k,by omega⟩
 induction m with
 |zero=>exact h0
 |succ m ih=>
  grind
def Ev{α:Type}(f:Nat->Option α)(r:α):Prop:=∃n,∀m,n<=m->f m=some r
section
variable {α β : Type} {r : α}
theorem Ev.get{f}(h:Ev f r):∃n,f n=some r:=by obtain⟨n,hn⟩:=h;exact⟨n,hn n (Qbp _)⟩
theorem Ev.succ{f g}(h:∀n,f (n+1)=g n)(hg:Ev g r):Ev f r:=by
 obtain⟨n,hn⟩:=hg;refine⟨n+1,λm hm =>?_⟩;obtain⟨q,rfl⟩:∃q,m=q+1:=⟨m-1,by omega⟩
 grind
theorem Ev.same{f g}(h:∀n,f n=g n)(hg:Ev g r):Ev f r:=by
 obtain⟨n,hn⟩:=hg;exact⟨n,λm hm=>by rw[h];exact hn m hm⟩
theorem Ev.pure{o}(h:o=some r):Ev (λ_=>o) r:=⟨0,λ_ _=>h⟩
theorem Ev.bind{a}{k:Nat->β->Option α}{y}(ha:Ev a y)(hk:Ev (λn=>k n y) r):Ev (λn=>(a n).bind (k n)) r:=by
 obtain⟨n,hn⟩:=ha;obtain⟨q,hq⟩:=hk;exact⟨max n q,λm hm=>by grind⟩
theorem Ev.t{c}{a b:Nat->Option α}(hc:c=true)(ha:Ev a r):Ev (λn=>if c=true then a n else b n) r:=by subst hc;exact ha
theorem Ev.f{c}{a b:Nat->Option α}(hc:c=false)(ha:Ev b r):Ev (λn=>if c=true then a n else b n) r:=by subst hc;exact ha
theorem Ev.cond{c a b}(ht:c=true->Ev a r)(hf:c=false->Ev b r):Ev (λn=>if c=true then a n else b n) r:=by
 cases c;exact hf rfl;exact ht rfl
theorem Ev.to{f r'}(h:Ev f r')(e:r'=r):Ev f r:=e▸h
end
section
variable {α β γ : Type} {xs : List α}
end
section
variable {α β : Type} {r : α}
theorem Ev.zt2{f g}(h:∀n,f (n+1)=g n):Ev f r↔Ev g r :=
 ⟨λ⟨n,hn⟩=>⟨n,λm hm=>by grind⟩,Ev.succ h⟩
theorem evS(f)(r){g:Nat->Option α}(h:∀n,f (n+1)=g n):Ev f r↔Ev g r:=Ev.zt2 h
theorem Ev.zz0{a}{k:Nat->β->Option α}{y}(ha:Ev a y):Ev (λn=>(a n).bind (k n)) r↔Ev (λn=>k n y) r :=
 ⟨λh=>by
  obtain⟨n,hn⟩:=h;obtain⟨q,hq⟩:=ha;refine⟨max n q,λm hm =>?_⟩
  grind,Ev.bind ha⟩
theorem Ev.yz2{o}{k:Nat->β->Option α}{y}(ho:o=some y):Ev (λn=>o.bind (k n)) r↔Ev (λn=>k n y) r:=by grind
theorem Ev.kz1{a b:Nat->Option α}{c}(hc:c=true):Ev (λn=>pIf c (a n) (b n)) r↔Ev a r:=by subst hc;exact Iff.rfl
theorem Ev.zz2{a b:Nat->Option α}{c}(hc:c=false):Ev (λn=>pIf c (a n) (b n)) r↔Ev b r:=by subst hc;exact Iff.rfl
theorem Ev.pif{a b c}:Ev (λn=>pIf c (a n) (b n)) r↔if c=true then Ev a r else Ev b r:=by cases c <;> exact Iff.rfl
theorem Ev.yz0{x}:Ev (λ_=>some x) r↔x=r:=⟨λ⟨n,h⟩=>by have:=h n (Qbp _);injection this,λh=>⟨0,λ_ _=>by rw[h]⟩⟩
end
theorem wI{x}(h : -9223372036854775808<=x∧x<=9223372036854775807):IntKind.i64.wrap x=x:=IntWalk.i64_in _ h
theorem wU{x}(h:0<=x∧x<=18446744073709551615):IntKind.u64.wrap x=x:=IntWalk.u64_in _ h
theorem wUn{x}(h : -18446744073709551616<=x∧x<0):IntKind.u64.wrap x=x+18446744073709551616:=by
 unfold IntKind.wrap;simp[IntKind.bits,IntKind.signed,if_false];omega
theorem yaj{a b:Nat}:mxI (a:Int) (b:Int)=((max a b:Nat):Int):=by unfold mxI;split <;> omega
section
variable {α σ γ : Type}
theorem zbv{L:Nat->Int->Option γ}{xs:List α}{p fail r}
  (he:Ev (λn=>L n (xs.length:Int)) r)
  (hs:∀k (h:k<xs.length) v,Ev (λn=>L n ((k+1:Nat):Int)) v->Ev (λn=>L n (k:Int)) (if p xs[k]=true then v else fail)) :
  Ev (λn=>L n 0) (if xs.all p=true then r else fail):=by
 have:∀k,k<=xs.length->Ev (λn=>L n (k:Int)) (if (xs.drop k).all p=true then r else fail) :=
  down (by simpa using he) λk hk ih=>by
   have h:=hs k hk _ ih;rw[<-Qah (h:=hk),List.all_cons];by_cases hp:p xs[k]=true
   grind
   simp_all
 simpa using this 0 (Qbo _)
theorem zod{L:Nat->Int->Option γ}{xs:List α}{p got r}
  (he:Ev (λn=>L n (xs.length:Int)) r)
  (hs:∀k (h:k<xs.length) v,Ev (λn=>L n ((k+1:Nat):Int)) v->Ev (λn=>L n (k:Int)) (if p xs[k]=true then got else v)) :
  Ev (λn=>L n 0) (if xs.any p=true then got else r):=by
 have:∀k,k<=xs.length->Ev (λn=>L n (k:Int)) (if (xs.drop k).any p=true then got else r) :=
  down (by simpa using he) λk hk ih=>by
   have h:=hs k hk _ ih;rw[<-Qah (h:=hk),List.any_cons];by_cases hp:p xs[k]=true
   grind
   simp_all
 simpa using this 0 (Qbo _)
theorem zrm{L:Nat->Int->Option γ}{len:Nat}
  (he:∃v,Ev (λn=>L n (len:Int)) v)
  (hs:∀k,k<len->∀v,Ev (λn=>L n ((k+1:Nat):Int)) v->∃w,Ev (λn=>L n (k:Int)) w) :
  ∃v,Ev (λn=>L n 0) v:=by
 have:∀k,k<=len->∃v,Ev (λn=>L n (k:Int)) v:=down he λk hk ⟨v,ih⟩=>hs k hk v ih
 simpa using this 0 (Qbo _)
theorem z063{L:Nat->Int->Option γ}{xs ys:List α}{fail r}(hlen:xs.length=ys.length)
  (he:Ev (λn=>L n (xs.length:Int)) r)
  (hs:∀k (h:k<xs.length) (h':k<ys.length) v,Ev (λn=>L n ((k+1:Nat):Int)) v->Ev (λn=>L n (k:Int)) (if eqB xs[k] ys[k]=true then v else fail)) :
  Ev (λn=>L n 0) (if eqB xs ys=true then r else fail):=by
 have:∀k,k<=xs.length->Ev (λn=>L n (k:Int)) (if eqB (xs.drop k) (ys.drop k)=true then r else fail) :=
  down (by rw[List.drop_length,hlen,List.drop_length];simpa[hlen]using he) λk hk ih=>by
   have hk':k<ys.length:=by omega
   have h:=hs k hk hk' _ ih;rw[<-Qah (h:=hk),<-Qah (h:=hk')];by_cases hp:xs[k]=ys[k];rw[hp,yad,Qbq rfl]at h
   grind[zjb]
   grind[zjb]
 simpa using this 0 (Qbo _)
theorem yox{L:Nat->Int->σ->Option γ}{xs:List α}{f}{I:Nat->σ->Prop}{v s0}(h0:I 0 s0)
  (he:I xs.length (xs.foldl f s0)->Ev (λn=>L n (xs.length:Int) (xs.foldl f s0)) v)
  (hs:∀k (h:k<xs.length) s,I k s->I (k+1) (f s xs[k])∧(Ev (λn=>L n ((k+1:Nat):Int) (f s xs[k])) v->Ev (λn=>L n (k:Int) s) v)) :
  Ev (λn=>L n 0 s0) v:=by
 have:∀m k,k+m=xs.length->∀s,I k s->(xs.drop k).foldl f s=xs.foldl f s0->Ev (λn=>L n (k:Int) s) v:=λm=>by
  induction m with
  |zero=>
   grind
  |succ m ih=>
   intro k hk s hi hf;have hlt:k<xs.length:=by omega
   obtain⟨h1,h2⟩:=hs k hlt s hi
   grind[Qah]
 simpa using this xs.length 0 (by omega) s0 h0 (by simp)
end
def isLet(c:UInt8):Bool:=decide (97<=c.toNat)&&decide (c.toNat<=122)
def yjy(c:UInt8):Bool:=decide (48<=c.toNat)&&decide (c.toNat<=57)
def zgd(c:UInt8):Bool:=isLet c||c==45||yjy c
def zm2(s:B8):Bool:=match s with
 |[]=>false
 |c::t=>isLet c&&t.all zgd&&decide (s.length<=40)
def cutAt(b:UInt8)(s:B8):B8×B8×Bool:=(s.takeWhile (· != b),(s.dropWhile (· != b)).tail,s.any (· == b))
def parts(b:UInt8):B8->List B8
 |[]=>[[]]
 |c::t=>if c==b then []::parts b t else match parts b t with
  |h::r=>(c::h)::r
  |[]=>[[c]]
def steps(s:B8):List B8:=if s==[]then []else parts 47 s
theorem parts_eq(b):∀s:B8,parts b s=(cutAt b s).1::(if (cutAt b s).2.2 then parts b (cutAt b s).2.1 else [])
 |[]=>by simp[parts,cutAt]
 |c::t=>by
  rw[parts];by_cases h:c=b;subst h;simp[cutAt];have h':(c==b)=false:=by simpa using h
  rw[h',parts_eq b t]
  grind[cutAt,List.takeWhile_cons,List.dropWhile_cons]
theorem zo2(b):∀s:B8,(parts b s).length=s.countP (· == b)+1
 |[]=>by simp[parts]
 |c::t=>by
  rw[parts];have ih:=zo2 b t
  grind
theorem yq2{s k}(h)(ha:s[k].toNat<128):zde s k=(s[k].toNat,1):=by
 have h':=by simpa[ByteArray.size]using h
 have e:(ByteArray.mk s.toArray)[k]=s[k]:=rfl;have:=decode_ascii ⟨s.toArray⟩ k h' (by rw[e];exact ha);exact this
theorem yxn{s k}(h)(ha:128<=s[k].toNat):128<=(zde s k).1∧1<=(zde s k).2:=by
 have h':=by simpa[ByteArray.size]using h
 exact decode_high ⟨s.toArray⟩ k h' (by exact ha)
theorem y56(b):∀s:B8,Lib.indexByte s b=if s.any (· == b)then ((s.takeWhile (· != b)).length:Int)else -1
 |[]=>rfl
 |c::t=>by
  rw[Lib.indexByte,y56 b t];cases h:c==b
  simp_all
  simp[h,bne]
theorem ylc{b}:∀{s:B8},s.any (· == b)=true->(s.takeWhile (· != b)).length<s.length∧s.take (s.takeWhile (· != b)).length=s.takeWhile (· != b)∧s.drop ((s.takeWhile (· != b)).length+1)=(s.dropWhile (· != b)).tail
 |[],h=>by simp at h
 |c::t,h=>by
  cases hc:c==b;have ih:=ylc (b:=b) (s:=t) (by simpa[hc]using h)
  grind[List.takeWhile_cons,List.dropWhile_cons]
  simp_all
theorem z038{b}:∀{s},s.any (· == b)=false->cutAt b s=(s,[],false)
 |[],h=>rfl
 |c::t,h=>by
  simp only[List.any_cons,Bool.or_eq_false_iff]at h;have ih:=z038 (b:=b) (s:=t) h.2
  grind[cutAt,List.takeWhile_cons,List.dropWhile_cons]
end Go.Ab
