/-
  THE TYPED MACHINE: functions that panic, and deferred calls.
-/
import Derived.Test.YthphaiccgnkobaaGreatDoorLib7
import Derived.Test.YthphaiccgnkobaaGreatDoorLib3
import Derived.Test.YthphaiccgnkobaaGreatDoorLib2
import Derived.Test.YthphaiccgnkobaaGreatDoorLib1
import Derived.Lib.Bytealg
import Derived.Laws.RangeAny
set_option linter.defProp false
set_option linter.unusedSectionVars false
set_option linter.unusedSimpArgs false
set_option linter.unusedVariables false
namespace Go.Ab
open Go
section
variable {P:Program}{D:Dat}{F:Fr}{ρ:List Slot}{ts:TS D.T}{σ:St}{lv:Nat}{R X:Type}
def yrn(hD:D.Ok P)(b:TRr D F ρ ts σ){u g p z v x}(hp:F.pin.length<=p)(h3:p<=g.length)(hz:VR D ρ F.lv z v)(h:z01t D u g p z ts=some x) :
  ∃ρ',TRr D F ρ' ⟨[],z6j D (λk=>k) g 0 (HL.snd _ x),g.length,ts.nt,[],[]⟩ σ∧VR D ρ' F.lv (zt5 D (λk=>k) u (HL.fst _ x)) v:=by
 unfold z01t at h;split at h
 ·rename_i J;split at h
  ·rename_i M y hy;split at h
   ·rename_i M' w hw;cases h;have⟨a1,a2,a3⟩:=zpd hD u hy hz;have⟨b1,b2,Y,b4⟩:=zr0 hD b g hw;have O:=b2 (a2 ⟨λk src h=>by have:=(zms h).1;omega,λk k' s h h'=>by have e:=(zms h).2;have e':=(zms h').2;grind,λk src hm=>ygy hm⟩);have⟨ρ',c1,U,c3⟩:=yyi b O λj A=>by simpa using Y j A
    rw[HL.zo2,HL.zoc]
    have place:∀s sl i,ρ'[s]? = some sl->sl.has i->∃a l,fnd M' s=some (.slot a)∧fnd ts.o a=some l∧l.live∧ρ[a]? = some sl:=λs sl i hs hk=>by
     have⟨src,B,m⟩:=c3 s sl hs
     cases src with
     |nil=>simp[Src.is]at m;subst m;rcases hk with h|h <;> cases h
     |slot a=>
      have⟨Z,G,I⟩:=Y s (by grind);rw[Nat.zero_add,B]at G;cases G;have⟨l,f1,f2⟩:=I a rfl;exact⟨a,l,B,f1,f2,m⟩
    refine⟨ρ',⟨c1,b.nt,λj c A=>by simp[fnd]at A,λs o ho =>?_,λs K o o' sl sl' i Q h2 L l2 C W q N =>?_,λs o sl i Q L C q =>?_,b.lv,b.E,b.e0,(by have:=b.d;rw[J]at this;exact this),b.out,λj sl A =>?_,λs o sl i Q L C q=>by
     have⟨a,l,d1,d2,d3,d4⟩:=place s sl i C (.inr q)
     exact b.fpl a l sl i d2 d3 d4 q,λi s v h=>by simp at h⟩,a3 ρ' (b1.agr U)⟩
    rotate_right
    have h4:=(Qaa.1 A).1;have⟨sl',B,m⟩:=U j _ (b1 _ _ (a1 _ _ (ybs (n:=p) (k:=j) (by omega))));simp[Src.is]at m;rw[b.pin j sl A]at m;cases m;exact B
    simp_all[z4o]
    have⟨a,l,d1,d2,d3,d4⟩:=place s sl i C q;have⟨H,o1,B,m,G,I⟩:=place K sl' i W N;have:=b.inj a H l o1 sl sl' i d2 m d3 G d4 I q N;subst this;exact O.inj s K a d1 B;have⟨a,l,d1,d2,d3,d4⟩:=place s sl i C q;exact b.mine a l sl i d2 d3 d4 q
   cases h
  cases h
 cases h
def z95(lv:Nat)(L:List (Option yzm))(E:Nat->Nat->Option yzm)(ρ0:List Slot)(p:Nat):Fr :=
 ⟨lv,E,E,L,λi=>i<L.length∧∀(k:Nat) (a),ρ0[k]? = some a->¬a.has i,ρ0.take p,[]⟩
def y8u{L E ρ0 ρ' p g y τ}(b:TRr D (z95 lv L E ρ0 p) ρ' ts τ)(A:ts.o=z6j D (λk=>k) g 0 y)(q:ts.nx=g.length) :
  τ.H=⟨lv,τ.H.L,E⟩∧Left D lv L ρ0 p τ.H.L ρ' g y:=by
 have a:ρ'.length=g.length:=by rw[b.nx,q]
 have live:∀s sl,ρ'[s]? = some sl->∃o,fnd ts.o s=some o∧o.live:=λs sl B=>by
  rw[A];exact yaq g (Qbo _) (by rw[Nat.zero_add,<-a];grind)
 refine⟨ztz (F:=z95 lv L E ρ0 p) τ.H b.lv b.E,a,λj o C =>?_,λs x sl sl' i e z h J =>?_,λs sl i e h =>?_,λi hi u=>b.out i ⟨hi,u⟩,λj sl K B =>?_,λs sl i e h=>by
  have⟨o,m,l⟩:=live s sl e
  exact b.fpl s o sl i m l e h⟩
 exact b.ob j o (by rw[A];exact yc3 g C);have⟨o,m,l⟩:=live s sl e;have⟨o',b1,b2⟩:=live x sl' z;exact b.inj s x o o' sl sl' i m b1 l b2 e z h J;have⟨o,m,l⟩:=live s sl e;have:=b.mine s o sl i m l e h;by_cases w:i<L.length;right;by_cases n:∃(k:Nat) (d:Slot),ρ0[k]? = some d∧d.has i;exact n;exact(this ⟨w,λk d I G=>n ⟨k,d,I,G⟩⟩).elim;left;omega
 exact b.pin j sl (by simp_all[z95])
def zyo:∀(l) (y),(z3n D (λk=>k) l y).length=l.length
 |[],_=>rfl
 |s::l,y=>by
  show(zt5 D (λk=>k) s (HL.fst _ y)::z3n D (λk=>k) l (HL.snd _ y)).length=_;rw[List.length_cons,zyo l,List.length_cons]
structure yu2(D:Dat)(lv:Nat)(L:List (Option yzm))(ρ0:List Slot)(args:List Sh)(aos:List OSh)(x:HL D.T (Sh.z1i args++z1j aos))(vargs:List V):Prop where
 len:ρ0.length=aos.length
 args:VRL D ρ0 lv (z3n D (λk=>k) args (HL.fst _ x)) vargs
 ob:∀j o,(j,o)∈z6j D (λk=>k) aos 0 (HL.snd _ x)->∃sl,ρ0[j]? = some sl∧OR D ρ0 lv L sl o
 inj:SlOk L ρ0
theorem yu2.entry{L E ρ0 args aos x a}(h:yu2 D lv L ρ0 args aos x a)(p){d}(k:args.length<=d) :
  TRr D (z95 lv L E ρ0 p) ρ0 (entry D args aos d [] x) ⟨a++List.replicate (d-a.length) .any,⟨lv,L,E⟩,[],E⟩:=by
 have u:a.length=args.length:=by rw[<-h.args.length];exact zyo _ _
 refine⟨h.len,by grind[Ab.entry],zrl _ h.args,λs o e=>h.ob s o (z4o e),λs n o o' sl sl' i m z l w b q=>h.inj.1 s n sl sl' i b q,λs o sl i m l b g e=>e.2 s sl b g,rfl,rfl,rfl,rfl,λi hi=>⟨hi.1,rfl⟩,λj sl y =>?_,λs o sl i m l b g=>h.inj.2 s sl i b g,λi s v hi=>by simp[Ab.entry]at hi⟩
 grind[z95]
def z0av(D:Dat)(lv:Nat):(m:Option Sh)->HL D.T (y9o m)->znm->Prop
 |none,_,a=>a = .ret
 |some s,x,a=>∃v,a = .pan v false∧VR D [] lv (zt5 D (λk=>k) s x) v
def y1i.Ok(P:Program)(d:y1i D):Prop:=∀x h y,d.go x h=some y->∀(lv) (L) (E) (ρ0) (b),yu2 D lv L ρ0 d.args d.aos x b ->
 ∀(i),z0av D lv d.m h i->∀(W) (g) (a) (u),Good W g ⟨lv,L,E⟩->zmy W g ⟨lv,L,E⟩ b a->y7r W g ⟨lv,L,E⟩ i u ->
  (∀w,(callFunc d.f a).run P w = .ok (.enter d.f a) w)∧CallsD P d.f a u W (λe j W'=>∃v L' g' ρ',e = .returned v∧Step W g ⟨lv,L,E⟩ W' g' ⟨lv,L',E⟩∧Good W' g' ⟨lv,L',E⟩∧settle j = .returning∧Left D lv L ρ0 d.aos.length L' ρ' d.ros y)
def z0b6(D:Dat)(ρ:List Slot)(lv:Nat)(z:Option (TV D.T))(a:znm):Prop:=match z with
 |none=>a = .ret
 |some z=>∃v,a = .pan v false∧VR D ρ lv z v
def yni(hD:D.Ok P){m z a}(h:ypz D m z=some a){d}(b:z0b6 D ρ lv z d):z0av D lv m a d:=by
 cases m with
 |none=>
  cases z with
  |none=>exact b
  |some z=>cases h
 |some s=>
  cases z with
  |none=>cases h
  |some z=>
   simp[ypz]at h;split at h;rename_i M x e;cases h;have⟨v,l,j⟩:=b;have⟨q,o,n⟩:=zpd hD s e j;refine⟨v,l,n [] λk src g =>?_⟩;have i:=o ⟨λk src h=>by simp[fnd]at h,λk p s h=>by simp[fnd]at h,λk src h=>by cases h⟩;exact absurd (i.lt k src g) (by omega);cases h
def yo8{a:znm}(h:a = .ret∨∃v,a = .pan v false):a.zw7.settle = .ret:=by
 rcases h with rfl|⟨v,rfl⟩ <;> rfl
def yck(hD:D.Ok P){des}(J:∀n∈des,n.Ok P){fn Y k kp}{r:R}{R' W0 g0 H0}
  (hk:∀ts σ ρ a W g,TRr D F ρ ts σ->yze W a g σ->Step W0 g0 H0 W g σ.H->a.tmps=Y->k ts=some r->∃c,(results fn Y).run P W = .ok c W∧R' (.returned c) W)
  (h4:∀z ts σ ρ a W g v c,TRr D F ρ ts σ->yze W a g σ->Step W0 g0 H0 W g σ.H->VR D ρ F.lv z v->Rel W g σ.H v c->kp z ts=some r->R' (.panicked [{v:=c,recovered:=false}]) W) :
  ∀(l) (z) (N) (ts) (σ) (ρ) (a) (W) (g) (u),ts.d=l->TRr D F ρ ts σ->yze W a g σ->Step W0 g0 H0 W g σ.H->a.tmps=Y->y7r W g σ.H N u ->
   z0b6 D ρ F.lv z N->zix D des k kp l z ts=some r->Leaves P fn Y R' a.defers u W
 |[],z,N,ts,σ,ρ,a,W,g,u,hd,A,o,hS,O,U,Q,h=>by
  have ho:=by have:=A.d;rw[hd]at this;exact this
  have hn:=Qao (by rw[o.dlen,ho];rfl);rw[hn]
  cases z with
  |none=>
   subst Q;have hu:=U;subst hu
   exact hk ts σ ρ a W g A o hS O h
  |some z=>
   obtain⟨v,rfl,hv⟩:=Q;have⟨c,h1,h2⟩:=U;subst h1
   exact h4 z ts σ ρ a W g v c A o hS hv h2 h
 |(f,vs)::l,z,N,ts,σ,ρ,a,W,g,u,hd,A,o,hS,O,U,Q,h=>by
  simp[zix]at h;have h5:=A.d;rw[hd]at h5;have⟨b,s,h3,hb,ha⟩:=h5;split at h
  case h_2=>cases h
  rename_i B;have B:=by rw[Nat.blt_eq]at B;exact B
  have⟨K,as,k1,k2⟩:=(o.defs 0 f b (by rw[h3];rfl)).fn B
  obtain⟨d0,p,C⟩:∃d0 p,a.defers=d0::p:=by
   cases hq:a.defers with
   |nil=>grind
   |cons d0 p=>grind
  rw[C]at k1;simp[Qbn]at k1;subst k1
  have look:∀i:List (y1i D),(∀n∈i,n∈des)->ycc D f vs z ts (λh9=>zix D des k kp l none {h9 with d:=l}) i=some r->Leaves P fn Y R' a.defers u W:=λi=>by
   induction i with
   |nil=>intro _ h;cases h
   |cons n rest Z=>
    intro I h;have Z:=Z λe he=>I e (Qai _ he)
    simp only[ycc]at h;split at h;exact Z h;rename_i hf;have hf:=Qaj hf;split at h;exact Z h;rename_i mx hg;split at h;rename_i M x h7;split at h;rename_i hc;have⟨c1,c2⟩:=hc;have⟨y,hy,h⟩:=z3f h;have⟨q,ρ0,d1,d2,d3,d4,d5⟩:=Ent.zoj hD A (e:=n.ent) hb h7
    have hp:∀k,k<n.aos.length->∃s,fnd M k=some (.slot s):=λk hk=>by
     have:=Qat.1 c2 k (List.mem_range.2 hk);split at this
     grind
     cases this
    have w:=ztz σ.H A.lv A.E;have G:yu2 D F.lv σ.H.L ρ0 n.args n.aos x b:=⟨d1,d4,d5,yb0 A q d3⟩;have hh:=J n (I n Qak)
    have ht:N = .ret∨∃v,N = .pan v false:=by
     cases z with
     |none=>exact .inl Q
     |some z=>have⟨v,h1,_⟩:=Q;grind
    have h6:=o.good;rw[w]at h6 k2 U;have⟨e1,e2⟩:=hh x mx y hy F.lv σ.H.L F.E ρ0 b G N (yni hD hg Q) W g (as++K) u h6 k2 U;rw[hf]at e1 e2;rw[C];have hu:=U.run;refine leaves_cons hu (by show(callFunc f (as++K)).run P W=_;exact e1 W) (e2.mono λe u' W' ⟨v,L',g',ρ',q1,q2,q3,q4,q5⟩ =>?_);subst q1;rw[<-w]at q2
    have⟨m,g2⟩:=TRr.after A hD q d2 d3 (λk s hm=>q.one k _ hm) hp c1 q5
    have hr:TRr D F (ρ++ρ'.drop n.aos.length) {zfh D M n.aos.length ts n.ros y with d:=l} {σ with H:=⟨F.lv,L',F.E⟩,d:=s}:=by
     have hi:=ha;exact⟨m.nx,m.nt,m.tm,m.ob,m.inj,m.mine,m.lv,m.E,m.e0,hi.more _,m.out,m.pin,m.fpl,m.g⟩
    have hs:yze W' {a with defers:=p} g' {σ with H:=⟨F.lv,L',F.E⟩,d:=s}:=by
     have hl:=o.dlen;rw[C,h3]at hl;refine⟨q3,o.size,λj v hj=>(o.tmps j v hj).mono q2,by simpa using hl,λj f' h8 hj =>?_⟩;have z1:=o.defs (j+1) f' h8 (by grind);rw[C,List.getElem?_cons_succ]at z1;exact z1.mono o.good q2
    exact yck hD J hk h4 l none .ret _ {σ with H:=⟨F.lv,L',F.E⟩,d:=s} _ {a with defers:=p} W' g' (settle u') rfl hr hs (hS.trans q2) O q4 rfl h;cases h;exact Z h
  grind
def EndQP(D:Dat)(F:Fr){Z}(K:Ks D.T Z)(r:Z)(e:z27)(σ:St):Prop :=
 match e with
 |.normal=>∃ts,TR D F ts σ∧K.kn ts=some r
 |.ret=>∃ts,TR D F ts σ∧K.kr ts=some r
 |.panic v=>∃ts ρ z,TRr D F ρ ts σ∧VR D ρ F.lv z v∧K.kp z ts=some r
 |.exit _=>False
def yu8{Z K}(b:K.kx=[]){r:Z}:KOk D F K (EndQP D F K r) r :=
 ⟨λts σ a h=>⟨ts,a,h⟩,λid k ts σ h=>by rw[b]at h;simp[fnd]at h,λts σ a h=>⟨ts,a,h⟩,λz ts σ ρ v e d h=>⟨ts,ρ,z,e,d,h⟩⟩
def yc4(hD:D.Ok P){Z}{f p Y:Nat}{args aos fn code}{l:LSh}{b:HL D.T l.tys->Z}{e des go K}
  (hf:P.funcs[f]? = some fn) (hb:fn.body=some code) (h3:fn.ntmps=Y) (J:∀args w,(callFunc f args).run P w = .ok (.enter f args) w) (n:args.length<=Y) (h7:p<=l.pin) (h2:l.pin<=l.os.length)
  (hK:K=⟨λts=>zix D des (l.enter D (λx=>some (b x)) 9) e ts.d none ts,[],λts=>zix D des (l.enter D (λx=>some (b x)) 9) e ts.d none ts,λz ts=>zix D des (l.enter D (λx=>some (b x)) 9) e ts.d (some z) ts⟩)
  (M:∀de∈des,de.Ok P) (C:ysw P D code p args aos Y [] K go) {x s} (hz:go x=some s) {lv L E ρ0 k} (hg:yu2 D lv L ρ0 args aos x k) {i}
  (G:∀y υ ρ',b y=s->TRr D (z95 lv L E ρ0 p) ρ' (l.bld D y) υ->∃vs,y7m P υ fn.results.toList=some vs∧i (.ret (zbp vs)) υ.H)
  (I:∀z ts σ ρ v,TRr D (z95 lv L E ρ0 p) ρ ts σ->VR D ρ lv z v->e z ts=some s->i (.pan v) σ.H):zqp P f k ⟨lv,L,E⟩ i:=λW g q O hA=>by
 subst h3;refine⟨J q W,calls_of_wp_defers hf hb ?_⟩;have h1:(z95 lv L E ρ0 p).pin.length<=p:=by grind[z95]
 have h4:K.kx=[]:=by rw[hK]
 have B:=C (z95 lv L E ρ0 p) _ s rfl h1 (yu8 (K:=K) h4) x _ (hg.entry (E:=E) p n).tr hz;refine wp_mono (B W g ⟨lv,L,E⟩ W _ g ⟨O⟩ ⟨rfl,.refl _ _ _⟩ (y79 O hA)).wp λex a W' ⟨g1,σ,e',q1,q2,q3,N⟩ =>?_
 let h:=λen W'=>∃o H' g',i o H'∧Step W g ⟨lv,L,E⟩ W' g' H'∧Good W' g' H'∧z039 W' g' H' o en
 have done:∀(z:Option (TV D.T)) (Q:znm) (u:FrameMode) (ts:TS D.T) (τ:St) (ρ:List Slot) (j:Gh),TRr D (z95 lv L E ρ0 p) ρ ts τ->yze W' a j τ->Step W g ⟨lv,L,E⟩ W' j τ.H->y7r W' j τ.H Q u->z0b6 D ρ lv z Q ->
   zix D des (l.enter D (λx=>some (b x)) 9) e ts.d z ts=some s->Leaves P fn a.tmps h a.defers u W':=λz Q u ts τ ρ j hR h6 h5 hM hz m=>by
  refine yck (F:=z95 lv L E ρ0 p) (R':=h) (W0:=W) (g0:=g) (H0:=⟨lv,L,E⟩) hD M (λts σ ρ a W2 j t1 t2 t3 t4 t5 =>?_) (λz ts σ ρ a W2 j v c t1 t2 t3 t4 t5 t6 =>?_) ts.d z Q ts τ ρ a W' j u rfl hR h6 h5 rfl hM hz m;have⟨y,hy,υ,ρ',U,w2⟩:=LSh.zeh hD (by omega) h2 t1.tr t5;injection hy with hy;have⟨g3,w3,w4⟩:=U W g ⟨lv,L,E⟩ W2 a j ⟨O⟩ ⟨t1.e0,t3⟩ t2;have⟨vs,r1,r2⟩:=G y υ ρ' hy w2
  have⟨c,z1,z2⟩:=zff (P:=P) (fn:=fn) (v:=zbp vs) w4 (by grind[z2g]);rw[t4]at z1;exact⟨c,z1,.ret (zbp vs),υ.H,g3,r2,w3.2,w4.good,c,rfl,z2⟩;exact⟨.pan v,σ.H,j,I z ts σ ρ v t1 t4 t6,t3,t2.good,c,rfl,t5⟩
 have back:∀{ts:TS D.T},TR D (z95 lv L E ρ0 p) ts σ->zix D des (l.enter D (λx=>some (b x)) 9) e ts.d none ts=some s->Leaves P fn a.tmps h a.defers .returning W':=λ{ts} A m=>by
  have⟨τ,ρ,U,w2⟩:=A;have⟨j,w3,w4⟩:=U W g ⟨lv,L,E⟩ W' a g1 ⟨O⟩ q2 q3;exact done none .ret .returning ts τ ρ j w2 w4 w3.2 rfl rfl m
 subst hK
 cases q1 with
 |normal=>have⟨ts,A,m⟩:=N;exact back A m
 |ret=>have⟨ts,A,m⟩:=N;exact back A m
 |exit id=>exact N.elim
 |panic v c hr=>
  have⟨ts,ρ,z,hR,hv,m⟩:=N;exact done (some z) (.pan v false) _ ts σ ρ g1 hR q3 q2.2 ⟨c,rfl,hr⟩ ⟨v,rfl,hv⟩ m
def z0b1(hD:D.Ok P){e:Ent D}{fn code B l pack}{un:R->HL D.T (Sh.z1i e.outs++z1j e.ros)}{des go}
  (W:P.funcs[e.f]? = some fn) (hb:fn.body=some code) (u:fn.ntmps=B) (d:∀args w,(callFunc e.f args).run P w = .ok (.enter e.f args) w) (a:e.args.length<=B)
  (Z:∀(R':Type) (x:HL D.T (Sh.z1i e.args++z1j e.aos)) (k:HL D.T (Sh.z1i e.outs++z1j e.ros)->Option R') (I:HL D.T (e.pan.tys++z1j e.pos)->Option R'),e.go x k I=(go x).bind λo=>zp2 o (λr=>k (un r)) (λy=>I y))
  (m:e.pure=false) (Y:e.kc=[]) (O:(match e.pan with| .tup _=>false|_=>true)=true) (h3:e.ren=[]) (s:e.p<=l.pin) (q:l.pin<=l.os.length) (hlen:l.os.length=e.ros.length) (U:e.p<=e.pos.length)
  (A:∀x,y1h P D (l.bld D x) fn.results.toList=some (z3n D (λk=>k) e.outs (HL.fst _ (un (pack x))))∧(l.bld D x).o=z6j D (λk=>k) e.ros 0 (HL.snd _ (un (pack x))))
  (g:∀de∈des,de.Ok P) (b:ysw P D code e.p e.args e.aos B [] (z03n D des l pack e.pan e.pos e.p (λy=>y)) go):e.Ok P:=λR' x k I r h=>by
 rw[m];rw[Z]at h;have⟨o0,h1,h2⟩:=ztc h
 cases o0 with
 |ok r0=>
  refine .inl ⟨un r0,h2,λlv L E ρ0 j N M K J _=>yc4 (p:=e.p) hD W hb u d a s q rfl g b h1 ⟨N,M,K,J⟩ (λy υ ρ' n w2 =>?_) λz ts σ ρ v _ _ i =>?_⟩;cases n;have⟨o1,o2⟩:=A y;have⟨vs,r1,r2⟩:=zio hD w2 o1;have⟨G,C⟩:=y8u w2 o2 hlen;exact⟨vs,r1,υ.H.L,ρ',G,C,⟨(by grind),by rw[Y];exact .nil⟩,vs,rfl,r2⟩
  grind[panK]
 |pan y0=>
  refine .inr ⟨y0,h2,λlv L E ρ0 j N M K J _=>yc4 (p:=e.p) hD W hb u d a s q rfl g b h1 ⟨N,M,K,J⟩ (λy υ ρ' n w2=>(by cases n)) λz ts σ ρ v t1 t4 i =>?_⟩;unfold panK at i;split at i;rename_i y n;injection i with i;cases i;have Q:(z95 lv L E ρ0 e.p).pin.length<=e.p:=by grind[z95]
  have⟨ρ',w1,w2⟩:=yrn hD t1 Q U t4 n;have⟨G,C⟩:=y8u w1 rfl rfl;exact⟨σ.H.L,ρ',G,C,v,(z07e O).symm,w2⟩;cases i
def z0ak(hD:D.Ok P){e:Ent D}{fn code m l pack}{un:R->HL D.T (Sh.z1i e.outs++z1j e.ros)}{des go}
  (hf:P.funcs[e.f]? = some fn) (hb:fn.body=some code) (s:fn.ntmps=m) (i:∀args w,(callFunc e.f args).run P w = .ok (.enter e.f args) w) (b:e.args.length<=m)
  (A:∀(R':Type) (x:HL D.T (Sh.z1i e.args++z1j e.aos)) (k:HL D.T (Sh.z1i e.outs++z1j e.ros)->Option R') (C:HL D.T (e.pan.tys++z1j e.pos)->Option R'),e.go x k C=(go x).bind λr=>k (un r))
  (a:e.pure=false) (u:e.kc=[]) (G:e.ren=[]) (q:e.p<=l.pin) (n:l.pin<=l.os.length) (hlen:l.os.length=e.ros.length)
  (g:∀x,y1h P D (l.bld D x) fn.results.toList=some (z3n D (λk=>k) e.outs (HL.fst _ (un (pack x))))∧(l.bld D x).o=z6j D (λk=>k) e.ros 0 (HL.snd _ (un (pack x))))
  (j:∀de∈des,de.Ok P) (d:ysw P D code e.p e.args e.aos m [] (z03g D des l pack) go):e.Ok P:=λR' x k C r h=>by
 rw[a];rw[A]at h;have⟨r0,h1,h2⟩:=ztc h;refine .inl ⟨un r0,h2,λlv L E ρ0 B Z Y U Q _=>yc4 (p:=e.p) hD hf hb s i b q n rfl j d h1 ⟨Z,Y,U,Q⟩ (λy υ ρ' W w2 =>?_) λz ts σ ρ v _ _ hk=>(by cases hk)⟩;subst W;have⟨M,K⟩:=g y;have⟨vs,J,I⟩:=zio hD w2 M;have⟨O,N⟩:=y8u w2 K hlen;exact⟨vs,J,υ.H.L,ρ',O,N,⟨(by grind),by rw[u];exact .nil⟩,vs,rfl,I⟩
def z0fx(hD:D.Ok P){f:Nat}{fn code C args aos ros l pack}{un:R->HL D.T (z1j ros)}{go}
  (hf:P.funcs[f]? = some fn) (hb:fn.body=some code) (M:fn.ntmps=C) (q:∀args w,(callFunc f args).run P w = .ok (.enter f args) w) (b:args.length<=C)
  (h3:aos.length<=l.pin) (K:l.pin<=l.os.length) (hlen:l.os.length=ros.length) (Z:fn.results.toList=[]) (p:∀x,(l.bld D x).o=z6j D (λk=>k) ros 0 (un (pack x)))
  (n:ysw P D code aos.length args aos C [] (y06 D l pack) go):y1i.Ok P {f:=f,args:=args,aos:=aos,m:=none,ros:=ros,go:=λx _=>(go x).bind λr=>some (un r)}:=λx mx y N lv L E ρ0 O hg am hm W g h u G hA hM=>by
 have⟨r,h1,I⟩:=ztc N;injection I with I;subst hm;have hu:=hM;subst hu;subst M;refine⟨λw=>q h w,(callsD_of_wp (R:=λe W'=>∃v L' g' ρ',e = .returned v∧Step W g ⟨lv,L,E⟩ W' g' ⟨lv,L',E⟩∧Good W' g' ⟨lv,L',E⟩∧Left D lv L ρ0 aos.length L' ρ' ros y) hf hb ?_).mono λe u' W' ⟨B,v,L',g',ρ',A,s,i,q5⟩=>⟨v,L',g',ρ',A,s,i,by rw[B];rfl,q5⟩⟩
 have J:(z95 lv L E ρ0 aos.length).pin.length<=aos.length:=by grind[z95]
 refine wp_mono (n (z95 lv L E ρ0 aos.length) _ r rfl J (yfv hD (by omega) K) x _ (hg.entry (E:=E) aos.length b).tr h1 W g ⟨lv,L,E⟩ W _ g ⟨G⟩ ⟨rfl,.refl _ _ _⟩ (y79 G hA)).wp λex a W' ⟨g1,σ,e',B,A,s,i⟩ =>?_
 have j:(∃x,pack x=r∧TR D (z95 lv L E ρ0 aos.length) (l.bld D x) σ)->a.defers=[]∧∃v,(results fn a.tmps).run P W' = .ok v W'∧∃v' L' g' ρ',Ending.returned v = .returned v'∧Step W g ⟨lv,L,E⟩ W' g' ⟨lv,L',E⟩∧Good W' g' ⟨lv,L',E⟩∧Left D lv L ρ0 aos.length L' ρ' ros y:=λ⟨z,hz,υ,ρ',w1,w2⟩=>by
  subst hz;have⟨g3,w3,w4⟩:=w1 W g ⟨lv,L,E⟩ W' a g1 ⟨G⟩ A s;have⟨c,z1,z2⟩:=zff (P:=P) (fn:=fn) (v:=zbp []) w4 (by grind[z2g,y7m]);have⟨l1,Y⟩:=y8u w2 (p z) hlen;have hd:=w2.d;rw[I]at Y;have U:=w3.2;have Q:=w4.good;rw[l1]at U Q;exact⟨Qao (by rw[w4.dlen,hd];rfl),c,z1,c,υ.H.L,g3,ρ',rfl,U,Q,Y⟩
 cases B with
 |normal=>exact j i
 |ret=>exact j i
 |exit id=>exact i.elim
 |panic v c hr=>exact i.elim
def mvOf(D:Dat):(m:Option Sh)->HL D.T (y9o m)->TV D.T
 |none,_=>.nili
 |some s,x=>zt5 D (λk=>k) s x
def z06k{tbl J d c K}{r:R}(h:runS D P tbl J d c ts K=some r) :
  ∃id ops b o rest a,c = .seq (.region id ops false) b∧ops.toList=o::rest∧isRec o=true∧ts.put D o.dst d=some a∧y00 P D tbl ops.toList (λts=>run P D tbl J b ts K) K.kp rest a=some r:=by
 unfold runS at h;split at h;split at h;rename_i i;split at h;rename_i e;split at h;rename_i a g
 grind
 cases h;cases h;cases h;cases h
def yxs(hm:P.follows .mixedOrders=true)(hD:D.Ok P){f:Nat}{fn}{c:AC}{nt args aos ros m}{l:LSh}{pack}{un:R->HL D.T (z1j ros)}{go:HL D.T (Sh.z1i args++z1j aos)->HL D.T (y9o m)->Option R}
  (hf:P.funcs[f]? = some fn) (hb:fn.body=some c.erase) (k5:fn.ntmps=nt) (hx:∀args w,(callFunc f args).run P w = .ok (.enter f args) w) (h8:args.length<=nt)
  (kl:aos.length<=l.pin) (k3:l.pin<=l.os.length) (hlen:l.os.length=ros.length) (kh:fn.results.toList=[]) (ki:c.labels=[]) (K:(match m with|some (.iface _ _)=>true|some _=>false|none=>true)=true) (ht:∀x,(l.bld D x).o=z6j D (λk=>k) ros 0 (un (pack x)))
  (k7:∀x mx,go x mx=runS D P [] (λ_ _=>none) (mvOf D m mx) c (entry D args aos nt [] x) (y06 D l pack)):y1i.Ok P {f:=f,args:=args,aos:=aos,m:=m,ros:=ros,go:=λx mx=>(go x mx).bind λr=>some (un r)}:=λx mx y hw lv L E ρ0 n hg A B W g h9 u hG hA hM=>by
 have⟨r,h1,h2⟩:=ztc hw;injection h2 with h2;subst k5;rw[k7]at h1;refine⟨λw=>hx h9 w,callsD_of_wpS hf hb λq cs hu =>?_⟩
 let F:=z95 lv L E ρ0 aos.length
 have kk:F.pin.length<=aos.length:=by grind[z95]
 have hK:KOk D F (y06 D l pack) (yr9 D F l pack r) r:=yfv hD (by omega) k3;have kb:=hg.entry (E:=E) aos.length h8
 have k6:VR D ρ0 F.lv (mvOf D m mx) A.value:=by
  cases m with
  |none=>have B:A = .ret:=B;grind[mvOf,znm.value,VR]
  |some s=>have⟨v,U,h4⟩:=B;subst U;exact(h4.more ρ0:VR D ([]++ρ0) lv _ v)
 obtain⟨id,ops,b,o,rest,kj,rfl,hl,i,hq,h1⟩:=z06k h1
 have ho:=by
  have:=congrArg (λx=>x[0]?) hl;simpa using this
 have k1:=by
  have:=congrArg List.length hl;simpa using this
 have kg:b.labels=[]:=by
  grind[AC.labels]
 have z2k:y8r P (LOk P D F (λ_ _=>none) r) b (yr9 D F l pack r):=zk1 (by grind) λl' a Q' hs=>by
  have:=zdv hs;grind
 have behind:∀(σ':St) (p:TS D.T) (ρ':List Slot),TRr D F ρ' p σ'->run P D [] (λ_ _=>none) b p (y06 D l pack)=some r->∀(W':World) (M:Act) (g':Gh) (G:FrameMode),Step W g ⟨lv,L,E⟩ W' g' σ'.H->yze W' M g' σ'->y7r W' g' σ'.H A.zw7 G ->
   b.erase.wpS P (y8f W g ⟨lv,L,E⟩ q cs (yr9 D F l pack r) A.zw7) M ({q with mode:=G}::cs) W':=λσ' p ρ' C hp W' M g' G k9 hn h6=>by
  have hs:=za1 (J:=λ_ _=>none) (tbl:=[]) (c:=b) hD (λe he=>by cases he) hK z2k C.tr hp;refine wpS_of_wp (wp_mono (hs W' g' σ'.H W' M g' ⟨hn.good⟩ ⟨by rw[C.e0,C.E];rfl,.refl _ _ _⟩ hn).wp λe kn ko ⟨kd,hy,kf,q1,O,q3,q4⟩ =>?_);exact⟨kd,hy,kf,G,q1,⟨by rw[O.1,C.E];rfl,k9.trans O.2⟩,q3,rfl,h6.mono O.2,q4⟩
 have ke:∀a0:Act,yze W a0 g ⟨n++List.replicate (fn.ntmps-n.length) .any,⟨lv,L,E⟩,[],E⟩->(AC.seq (.region id ops false) b).erase.wpS P (y8f W g ⟨lv,L,E⟩ q cs (yr9 D F l pack r) A.zw7) a0 (q::cs) W:=λa0 hj=>by
  refine wpS_seq (wpS_region ?_);rw[List.range_eq_range',k1,List.range'_succ];simp[wpOpsS,ho];unfold isRec at i;split at i
  ·rename_i cl k4;split at i
   ·rename_i Z;simp[Array.isEmpty_iff]at i;have h7:Region.wanted o (yielded ops a0.tmps)=true:=by unfold Region.wanted;rw[i.1]
    have k8:(execOp a0.eval o).run P W = .ok .recover W:=by
     unfold execOp;rw[k4];have⟨callee,as,argTypes⟩:=cl;simp at Z i;obtain⟨_,rfl⟩:=i;subst Z;simp[resolve,invoke,builtin]
    rw[Qbq h7,k8];simp
    have I:∀(N:Value) (G:FrameMode),Rel W g ⟨lv,L,E⟩ A.value N->y7r W g ⟨lv,L,E⟩ A.zw7 G->wpOpsS P ops (Exit.thenS (b.erase.wpS P (y8f W g ⟨lv,L,E⟩ q cs (yr9 D F l pack r) A.zw7)) (y8f W g ⟨lv,L,E⟩ q cs (yr9 D F l pack r) A.zw7)) (List.range' (0+1) rest.length) (a0.put o.dst N) ({q with mode:=G}::cs) W:=λN G hv h6=>by
     have ka:=kb.put hq k6;have kc:=hj.next (.refl _ _ _) hj.good hv o.dst
     have hs:=zky (Q:=λe σ'=>e = .normal∧∃p ρ',TRr D F ρ' p σ'∧run P D [] (λ_ _=>none) b p (y06 D l pack)=some r) hD (tbl:=[]) (r:=r) (λe he=>by cases he) (λp σ' ρ' C hk=>⟨rfl,p,ρ',C,hk⟩) (λz p σ' ρ' v _ _ hk=>by cases hk) rest 1 (λj=>by
      have:=congrArg (λx=>x[1+j]?) hl
      grind) ka h1
     have hH:(St.put ⟨n++List.replicate (fn.ntmps-n.length) .any,⟨lv,L,E⟩,[],E⟩ o.dst A.value).H=⟨lv,L,E⟩:=by cases o.dst <;> rfl
     have he:(St.put ⟨n++List.replicate (fn.ntmps-n.length) .any,⟨lv,L,E⟩,[],E⟩ o.dst A.value).e0=E:=by cases o.dst <;> rfl
     have hh:=hs W g ⟨lv,L,E⟩ W (a0.put o.dst N) g ⟨hG⟩ ⟨by rw[he],by rw[hH];exact .refl _ _ _⟩ kc;rw[show ops.size-1=rest.length by omega]at hh;refine y3j (Q:=Exit.thenS (b.erase.wpS P (y8f W g ⟨lv,L,E⟩ q cs (yr9 D F l pack r) A.zw7)) (y8f W g ⟨lv,L,E⟩ q cs (yr9 D F l pack r) A.zw7)) (λa w h=>y8f.out h) _ _ _ (zwd (λe M W' ⟨g',σ',e',q1,O,q3,q4⟩ =>?_) _ _ _ hh);obtain⟨rfl,p,ρ',q5,q6⟩:=q4
     cases q1;exact behind σ' p ρ' q5 q6 W' M g' G O.2 q3 (h6.mono O.2)
    cases A with
    |ret=>
     have hi:q.mode = .returning:=by rw[hu];exact hM
     have h5:recoverD (q::cs)=none:=by simp[recoverD,hi]
     rw[h5]
     exact I .nilIface q.mode .nili hi
    |pan v rc=>
     have k2:rc=false:=by
      cases m with
      |none=>cases (show znm.pan v rc = .ret from B)
      |some s=>have⟨v',U,_⟩:=B;injection U
     subst k2;have⟨N,U,h4⟩:=hM;have U:=hu.trans U;have h5:recoverD (q::cs)=some (N,{q with mode:=.panicking [{v:=N,recovered:=true}]}::cs):=by simp[recoverD,U]
     rw[h5];exact I N _ h4 ⟨N,rfl,h4⟩
   cases i
  cases i
 refine z0an (ke _ (y79 hG hA)) λex M km W' ⟨g',σ',e',G,q1,O,q3,q4,q5,q6⟩ =>?_
 subst q4
 have K:A = .ret∨∃v,A = .pan v false:=by
  cases m with
  |none=>exact .inl B
  |some s=>have⟨v,U,_⟩:=B;grind
 have Y:=q5.settle;rw[yo8 K]at Y
 have hc:(∃x,pack x=r∧TR D F (l.bld D x) σ')->M.defers=[]∧∃ha,({q with mode:=G}::cs:List Frame)={q with mode:=ha}::cs∧∃v,(results fn M.tmps).run P W' = .ok v W'∧∃v' L' g' ρ',Ending.returned v = .returned v'∧Step W g ⟨lv,L,E⟩ W' g' ⟨lv,L',E⟩∧Good W' g' ⟨lv,L',E⟩∧settle ha = .returning∧Left D lv L ρ0 aos.length L' ρ' ros y:=λ⟨z,hz,υ,ρ',w1,w2⟩=>by
  subst hz;have⟨g3,w3,w4⟩:=w1 W g ⟨lv,L,E⟩ W' M g' ⟨hG⟩ O q3;have⟨c,z1,z2⟩:=zff (P:=P) (fn:=fn) (v:=zbp []) w4 (by grind[z2g,y7m]);have⟨l1,l2⟩:=y8u w2 (ht z) hlen;have hd:=w2.d;rw[h2]at l2;have w5:=w3.2;have w6:=w4.good;rw[l1]at w5 w6;exact⟨Qao (by rw[w4.dlen,hd];rfl),G,rfl,c,z1,c,υ.H.L,g3,ρ',rfl,w5,w6,Y,l2⟩
 cases q1 with
 |normal=>exact hc q6
 |ret=>exact hc q6
 |exit id=>exact q6.elim
 |panic v c hr=>exact q6.elim
def FI.ofP(D)(f nt p:Nat)(args)(aos)(outs)(ros)(pan:Sh)(pos)(des:List (y1i D))(l:LSh){R}(pack:HL D.T l.tys->R)(un:R->HL D.T (Sh.z1i outs++z1j ros))
  (go:Nat->HL D.T (Sh.z1i args++z1j aos)->Option (Res (HL D.T (pan.tys++z1j pos)) R)) (z2k:Nat->List (Nat×Lb D (Res (HL D.T (pan.tys++z1j pos)) R))) (c:AC):FI D :=
 {R:=Res (HL D.T (pan.tys++z1j pos)) R,ent:=λn=>{f:=f,p:=p,args:=args,aos:=aos,outs:=outs,ros:=ros,pan:=pan,pos:=pos,pure:=false,go:=λx k a=>(go n x).bind λo=>zp2 o (λr=>k (un r)) (λy=>a y)},
   c:=c,K:=z03n D des l pack pan pos p (λy=>y),p:=p,args:=args,aos:=aos,nt:=nt,z2k:=z2k,go:=go}
def yoe(P:Program):List (y1i D)->Prop
 |[]=>True
 |d::l=>d.Ok P∧yoe P l
theorem yoe.get:∀{l:List (y1i D)},yoe P l->∀d∈l,d.Ok P
 |d::l,h,e,he=>by
  rcases Qbf.1 he with rfl|he
  exact h.1;exact yoe.get h.2 e he
def chkP(p b:Nat)(args:List Sh)(ros a:List OSh)(l:LSh):Bool :=
 Nat.ble args.length b&&Nat.ble p l.pin&&Nat.ble l.pin l.os.length&&Nat.beq l.os.length ros.length&&Nat.ble p a.length
def FI.y1u{hD:D.Ok P}{f u p:Nat}{args aos outs ros b a des l pack}{un:R->HL D.T (Sh.z1i outs++z1j ros)}
  {go:Nat->HL D.T (Sh.z1i args++z1j aos)->Option (Res (HL D.T (b.tys++z1j a)) R)} {z2k:Nat->List (Nat×Lb D (Res (HL D.T (b.tys++z1j a)) R))}{c tbl fn}
  (M:P.funcs[f]? = some fn) (A:fn.ntmps=u) (m:∀args w,(callFunc f args).run P w = .ok (.enter f args) w)
  (N:fn.body=some c.erase) (B:c.labels.Nodup) (d:chkP p u args ros a l=true) (L:∀n,y92 p (z2k n)=true) (s:yoe P des)
  (i:∀x,y1h P D (l.bld D x) fn.results.toList=some (z3n D (λk=>k) outs (HL.fst _ (un (pack x)))))
  (J:∀x,go 0 x=none) (C:y2a (λ_ e=>∀x,e.go x=none) (z2k 0))
  (K:∀n x,go (n+1) x=run P D (tbl n) (jump D (z2k n)) c (entry D args aos u [] x) (z03n D des l pack b a p (λy=>y)))
  (E:∀n,y2a (λj e=>∀x,e.go x=zyl P D (tbl n) (jump D (z2k n)) j c (z03n D des l pack b a p (λy=>y)) (e.sh.bld D x)) (z2k (n+1)))
  (g:∀x,(l.bld D x).o=z6j D (λk=>k) ros 0 (HL.snd _ (un (pack x)))) (z:(match b with| .tup _=>false|_=>true)=true:=by rfl) (I:c.zn2=[]:=by kernel_rfl) :
  (FI.ofP D f u p args aos outs ros b a des l pack un go z2k c).Good P D tbl where
 nodup:=B
 zn2:=λq G=>by replace G:q∈c.zn2:=G;grind
 zero:=J
 lzero:=λj e x h=>C.get (z4o h) x
 pins:=λn j e h=>(zuy (L n)).get (z4o h)
 step:=K
 lstep:=λn j e x h=>(E n).get (z4o h) x
 ok:=λn h=>by
  simp only[chkP,Qag,Nat.ble_eq]at d;have⟨⟨⟨⟨Z,Y⟩,U⟩,Q⟩,O⟩:=d;exact z0b1 (l:=l) (pack:=pack) (un:=un) (go:=go n) (code:=c.erase) (des:=des) hD M N A m Z (λ_ _ _ _=>rfl) rfl rfl z rfl Y U (Qaj Q) O (λx=>⟨i x,g x⟩) s.get h
def FI.ofD(D)(f nt p:Nat)(args)(aos)(outs)(ros)(des:List (y1i D))(l:LSh){R}(pack:HL D.T l.tys->R)(un:R->HL D.T (Sh.z1i outs++z1j ros))
  (go:Nat->HL D.T (Sh.z1i args++z1j aos)->Option R) (z2k:Nat->List (Nat×Lb D R)) (c:AC):FI D :=
 {R:=R,ent:=λn=>{f:=f,p:=p,args:=args,aos:=aos,outs:=outs,ros:=ros,pan:=.nilp,pos:=ros,pure:=false,go:=λx k _=>(go n x).bind λr=>k (un r)},
   c:=c,K:=z03g D des l pack,p:=p,args:=args,aos:=aos,nt:=nt,z2k:=z2k,go:=go}
def FI.z093{hD:D.Ok P}{f m p:Nat}{args aos outs ros des l pack un go}{z2k:Nat->List (Nat×Lb D R)}{c tbl fn}
  (I:P.funcs[f]? = some fn) (s:fn.ntmps=m) (g:∀args w,(callFunc f args).run P w = .ok (.enter f args) w)
  (J:fn.body=some c.erase) (u:c.labels.Nodup) (a:ywq p m args outs aos ros false l c []=true) (G:∀n,y92 p (z2k n)=true) (i:yoe P des)
  (e:∀x,y1h P D (l.bld D x) fn.results.toList=some (z3n D (λk=>k) outs (HL.fst _ (un (pack x)))))
  (C:∀x,go 0 x=none) (y:y2a (λ_ b=>∀x,b.go x=none) (z2k 0))
  (E:∀n x,go (n+1) x=run P D (tbl n) (jump D (z2k n)) c (entry D args aos m [] x) (z03g D des l pack))
  (z:∀n,y2a (λj b=>∀x,b.go x=zyl P D (tbl n) (jump D (z2k n)) j c (z03g D des l pack) (b.sh.bld D x)) (z2k (n+1)))
  (d:∀x,(l.bld D x).o=z6j D (λk=>k) ros 0 (HL.snd _ (un (pack x)))) (B:c.zn2=[]:=by kernel_rfl) :
  (FI.ofD D f m p args aos outs ros des l pack un go z2k c).Good P D tbl where
 nodup:=u
 zn2:=λq A=>by replace A:q∈c.zn2:=A;grind
 zero:=C
 lzero:=λj b x h=>y.get (z4o h) x
 pins:=λn j b h=>(zuy (G n)).get (z4o h)
 step:=E
 lstep:=λn j b x h=>(z n).get (z4o h) x
 ok:=λn h=>by
  simp only[ywq,Qag,Nat.ble_eq]at a;have⟨⟨⟨N,M⟩,L⟩,K⟩:=a;exact z0ak (l:=l) (pack:=pack) (un:=un) (go:=go n) (code:=c.erase) (des:=des) hD I J s g N (λ_ _ _ _=>rfl) rfl rfl rfl M L (Qaj K.1.1) (λx=>⟨e x,d x⟩) i.get h
end
def zth{P D}(hD:D.Ok P){f bs}(g:OkL P bs)(h:f.Good P D (tb bs)):OkL P [f] :=
 ⟨λn=>h.ok n (h.runs hD n λm _ e d=>by
  obtain⟨b,a,rfl⟩:=Qbb.1 d
  exact g.get a m),trivial⟩
def z0fr{P f b a W}(h:zqp P f b H0 λout _=>out = .ret (.bool true))(m:zmy W g0 H0 b a)(j:zn8 W g0 H0) :
  Calls P f a W λe W'=>e = .returned (.bool true)∧RowKit.Below W.heap.size W W' :=
 (h W g0 a (z0eg W j) m).2.mono λe W' ⟨o,H',g',i,d,_,g⟩=>by
  subst i;have⟨c,k,l⟩:=g;cases l;exact⟨k,y5u d⟩
section
variable {P:Program}{D:Dat}{F:Fr}{R:Type}
def z05r{σ τ}(h:znz {σ with d:=[]} τ)(l:σ.d=[(znq,[])])(y:τ.d=[]):znz σ {τ with d:=[(znq,[])]}:=λW0 g0 H0 W a g o m b=>by
 have w:yze W {a with defers:=[]} g {σ with d:=[]}:=⟨b.good,b.size,b.tmps,rfl,λj f vs e=>by simp at e⟩;have⟨g',n,i⟩:=h W0 g0 H0 W {a with defers:=[]} g o m w;have k:=b.dlen;rw[l]at k;refine⟨g',n,i.good,i.size,i.tmps,k,λj f vs e =>?_⟩
 cases j with
 |succ j=>simp at e
 |zero=>
  obtain⟨rfl,rfl⟩:=e
  rcases b.defs 0 znq [] (by rw[l];rfl)with ⟨q,_⟩|⟨_,x,u,s,p⟩
  omega;exact .inr ⟨rfl,x,u,s,by rw[n.2.base,<-m.2.base];exact p⟩
def yrm{ρ ts σ}(a:TRr D F ρ ts σ):∃σ',(σ'=σ∧ts.yc5=ts∨σ'={σ with d:=[]}∧σ.d=[(znq,[])])∧TRr D F ρ ts.yc5 σ':=by
 unfold TS.yc5;split;rename_i f j;split;rename_i e;have e:=Qaj e;have b:=a.d;rw[j]at b;have⟨vs,s,k,i,h⟩:=b;simp[VRL]at i;have h:=h;subst i;subst h;subst e;exact⟨_,.inr ⟨rfl,k⟩,a.nx,a.nt,a.tm,a.ob,a.inj,a.mine,a.lv,a.E,a.e0,rfl,a.out,a.pin,a.fpl,a.g⟩
 grind
 grind
def z0ai(hD:D.Ok P){e:Ent D}{fn:Func}{code:Code}{B:Nat}{l:LSh}{pack:HL D.T l.tys->R}{un:R->HL D.T (Sh.z1i e.outs++z1j e.ros)}{go:HL D.T (Sh.z1i e.args++z1j e.aos)->Option R}
  (hf:P.funcs[e.f]? = some fn) (hb:fn.body=some code) (h6:fn.ntmps=B) (U:∀args w,(callFunc e.f args).run P w = .ok (.enter e.f args) w) (ha:e.args.length<=B)
  (h7:∀(R':Type) (x:HL D.T (Sh.z1i e.args++z1j e.aos)) (k:HL D.T (Sh.z1i e.outs++z1j e.ros)->Option R') (kp:HL D.T (e.pan.tys++z1j e.pos)->Option R'),e.go x k kp=(go x).bind λr=>k (un r))
  (A:e.pure=true) (O:e.ren=[]) (g:e.aos=[]) (N:e.ros=[]) (m:yff e.outs=true) (h5:l.pin<=l.os.length)
  (Q:∀x,y1h P D (l.bld D x) fn.results.toList=some (z3n D (λk=>k) e.outs (HL.fst _ (un (pack x)))))
  (M:ysw P D code e.p e.args e.aos B [] (yue D l pack) go):e.Ok P:=λR' x k kp r h=>by
 rw[A];rw[h7]at h;have⟨r0,h1,h2⟩:=ztc h;refine⟨un r0,h2,g,N,O,λhc a k2=>⟨canon D e.outs (HL.fst _ (un r0)),λρ lv=>ybb hD m,?_⟩⟩;have he:a.length=e.args.length:=by rw[<-k2.length];exact zyo _ _
 refine z06n hf hb h6 U λlv E =>?_
 let F:Fr:=⟨lv+1,E,E,[],λi=>False,[],[]⟩
 have b:∀s (o:TO D.T),fnd (z6j D (λk=>k) e.aos 0 (HL.snd _ x)) s=some o->False:=λs o W=>by
  have⟨j,_,I,_⟩:=zv6 e.aos (z4o W);rw[g]at I;simp at I
 have h3:VRL D [] (lv+1) (z3n D (λk=>k) e.args (HL.fst _ x)) a:=VRL.lvl k2
 have h8:TRr D F [] (entry D e.args e.aos B [] x) ⟨a++List.replicate (B-a.length) .any,⟨lv+1,[],E⟩,[],E⟩:=by
  refine⟨by simp only[entry,g];rfl,by simp only[entry,Qap,List.length_replicate];omega,zrl _ h3,λs o W=>(b s o W).elim,λs s' o o' sl sl' i C=>(b s o C).elim,λs o sl i C=>(b s o C).elim,rfl,rfl,rfl,rfl,λi hi=>hi.elim,λj sl hj=>by simp[F]at hj,λs o sl i C=>(b s o C).elim,λi s v h=>by simp[entry]at h⟩
 refine ykf ((M F _ r0 rfl (by simp[F]) (yu8 (K:=yue D l pack) rfl) x _ h8.tr h1).mono λn σ Y =>?_)
 have G:∀n,(n = .normal∨n = .ret)->(∃ts,TR D F ts σ∧l.enter D (λx=>some (pack x)) 9 ts.yc5=some r0)->∃τ,znz σ τ∧(∀v,n ≠ .panic v)∧z090 P fn lv E (zbp (canon D e.outs (HL.fst _ (un r0)))) n τ:=λn J ⟨ts,⟨τ0,ρ0,w0,hR⟩,hk⟩=>by
  have⟨σ',h4,h9⟩:=yrm hR;have⟨y,hy,τ,ρ',w1,w2⟩:=LSh.zeh hD (by simp[F]) h5 h9.tr hk;cases hy;have⟨vs,q1,q2⟩:=zio hD w2 (Q y);have hv:=ywp (ygn hD (H:=τ.H) (Dm:=outer lv) m q2);have Z:τ.d=[]:=w2.d
  have L:∀u:St,znz σ u->z2g P fn u=some (zbp vs)->(u.d=[]∨u.d=[(znq,[])])->u.H=τ.H->∃τ,znz σ τ∧(∀v,n ≠ .panic v)∧z090 P fn lv E (zbp (canon D e.outs (HL.fst _ (un (pack y))))) n τ:=λu f1 f2 f3 f4=>by
   refine⟨u,f1,λv e=>by rcases J with h|h <;> (rw[h]at e;cases e),?_⟩
   rcases J with rfl|rfl
   exact⟨zbp vs,f2,f3,by rw[f4];exact w2.E,by rw[f4];exact hv⟩;exact⟨zbp vs,f2,f3,by rw[f4];exact w2.E,by rw[f4];exact hv⟩
  have q:z2g P fn τ=some (zbp vs):=by simp only[z2g,q1,Qbk]
  rcases h4 with ⟨rfl,_⟩|⟨rfl,hm⟩
  exact L τ (w0.trans w1) q (.inl Z) rfl;refine L {τ with d:=[(znq,[])]} (w0.trans (z05r w1 hm Z)) ?_ (.inr rfl) rfl;rw[<-q];have:=yi7 (P:=P) (fn:=fn) (σ:={τ with d:=[(znq,[])]});rw[<-this]
  congr 1
  cases τ;simp only at Z;subst Z;rfl
 cases n with
 |normal=>exact G _ (.inl rfl) Y
 |ret=>exact G _ (.inr rfl) Y
 |exit id=>exact Y.elim
 |panic v=>have⟨ts,ρ,z,_,_,hk⟩:=Y;cases hk
def z0c0{c:AC}{a}(h:c.zn2=[a])(b:zjm P a):∀q∈c.zn2,zjm P q:=λq hq=>by
 rw[h]at hq
 rcases Qbf.1 hq with rfl|hq
 exact b;cases hq
def FI.ofM(D)(f a p:Nat)(args)(aos)(outs)(ros)(l:LSh){R}(pack:HL D.T l.tys->R)(un:R->HL D.T (Sh.z1i outs++z1j ros))
  (go:Nat->HL D.T (Sh.z1i args++z1j aos)->Option R) (z2k:Nat->List (Nat×Lb D R)) (c:AC):FI D :=
 {FI.of D f a p args aos outs ros true l pack un go z2k c with K:=yue D l pack}
def FI.z0at{hD:D.Ok P}{f i p:Nat}{args aos outs ros l pack un go}{z2k:Nat->List (Nat×Lb D R)}{c tbl fn}
  (B:P.funcs[f]? = some fn) (m:fn.ntmps=i) (g:∀args w,(callFunc f args).run P w = .ok (.enter f args) w)
  (C:fn.body=some c.erase) (o:c.labels.Nodup) (a:ywq p i args outs aos ros true l c []=true) (A:∀n,y92 p (z2k n)=true)
  (e:∀x,y1h P D (l.bld D x) fn.results.toList=some (z3n D (λk=>k) outs (HL.fst _ (un (pack x)))))
  (y:∀x,go 0 x=none) (s:y2a (λ_ b=>∀x,b.go x=none) (z2k 0))
  (z:∀n x,go (n+1) x=run P D (tbl n) (jump D (z2k n)) c (entry D args aos i [] x) (yue D l pack))
  (u:∀n,y2a (λj b=>∀x,b.go x=zyl P D (tbl n) (jump D (z2k n)) j c (yue D l pack) (b.sh.bld D x)) (z2k (n+1)))
  (d:∀q∈c.zn2,zjm P q) :
  (FI.ofM D f i p args aos outs ros l pack un go z2k c).Good P D tbl where
 nodup:=o
 zn2:=d
 zero:=y
 lzero:=λj b x h=>s.get (z4o h) x
 pins:=λn j b h=>(zuy (A n)).get (z4o h)
 step:=z
 lstep:=λn j b x h=>(u n).get (z4o h) x
 ok:=λn h=>by
  simp only[ywq,Qag,Nat.ble_eq,List.isEmpty_iff]at a;obtain⟨⟨⟨I,J⟩,G⟩,⟨⟨rfl,rfl⟩,E⟩,_⟩:=a;exact z0ai (l:=l) (pack:=pack) (un:=un) (go:=go n) (code:=c.erase) hD B C m g I (λ_ _ _ _=>rfl) rfl rfl rfl rfl E G e h
end
section
variable {P:Program}{D:Dat}
def yht:List OSh:=[.cells [.own 1,.own 2,.d .bool],.rig,.rig]
def aosK:List OSh:=[.cells [.any,.any,.d .bool]]
abbrev GoR(D:Dat)(args outs:List Sh)(a:List OSh):={R:Type}->HL D.T (Sh.z1i args++z1j yht)->(HL D.T (Sh.z1i outs++z1j (yht++a))->Option R)->Option R
def z03i(D)(f:Nat)(args outs)(a)(go:GoR D args outs a):Ent D :=
 {f:=f,p:=1,args:=args,aos:=yht,outs:=outs,ros:=yht++a,pan:=.nilp,pos:=yht++a,pure:=false,go:=λx k _=>go x k,ren:=[(1,1),(2,2)]}
def yky(D:Dat)(outs)(a)(y:HL D.T (Sh.z1i outs++z1j (yht++a))):HL D.T (Sh.z1i outs++z1j aosK):=HL.app (HL.fst (Sh.z1i outs) y) ((HL.snd (Sh.z1i outs) y).1,())
def yy3(D)(f:Nat)(args outs)(a)(go:GoR D args outs a):Ent D :=
 {f:=f,p:=1,args:=args,aos:=aosK,outs:=outs,ros:=aosK,pan:=.nilp,pos:=aosK,pure:=false,go:=λx k _=>go x λy=>k (yky D outs a y),kc:=[(0,0),(0,1)]}
def yxq(hD:D.Ok P){ρ ρ' lv}:∀{l x vs},yff l=true->VRL D ρ lv (z3n D (λk=>k) l x) vs->VRL D ρ' lv (z3n D (λk=>k) l x) vs
 |[],x,vs,h,a=>by
  exact a
 |.d t::l,x,vs,h,a=>by
  simp[yff,Qag]at h;obtain⟨v,r,rfl,e,b⟩:=a;exact⟨v,r,rfl,VR.data hD e,yxq hD h.2 b⟩
def z06i(hD:D.Ok P){f:Nat}{args outs:List Sh}{l:List OSh}{go:GoR D args outs l}(ho:yff outs=true)
  {x:HL D.T (Sh.z1i args++z1j yht)} {y:HL D.T (Sh.z1i outs++z1j (yht++l))}(h:(z03i D f args outs l go).Flat P x (.inl y)):(yy3 D f args outs l go).Flat P x (.inl (yky D outs l y)):=λlv L E ρ0 u k1 k2 k3 k4 k5=>by
 obtain⟨sl,rfl⟩:=List.length_eq_one_iff.1 k1;have⟨sl',i,u0,a1,p,Y,a4⟩:=k5 (0,0) (by simp[yy3]);obtain rfl:sl=sl':=by simpa using a1
 have⟨sl',i',u1,b1,b2,U,b4⟩:=k5 (0,1) (by simp[yy3]);obtain rfl:sl=sl':=by simpa using b1
 rw[p]at b2;cases b2
 have⟨sl',c1,C⟩:=k3 0 (.cells [.any,.any,.bool (HL.snd (Sh.z1i args) x).1]) (Qak);obtain rfl:sl=sl':=by simpa using c1
 simp only[OR]at C;have⟨i',vs,C,J,c4⟩:=C
 rw[p]at C;cases C
 simp only[VRL,VR]at c4;obtain⟨v0,_,rfl,_,z,_,rfl,_,v2,_,rfl,rfl,rfl⟩:=c4;simp only[cellAt,J]at Y U;simp only[Qbv,Qbn,List.getElem?_cons_succ]at Y U;subst Y;subst U
 have hh:=h lv L E [sl,⟨v0,none,[],[]⟩,⟨z,none,[],[]⟩] u rfl (VRL.more [⟨v0,none,[],[]⟩,⟨z,none,[],[]⟩] k2) (λj o e=>by
  have e:(j,o)∈[(0,(TO.cells [.own 1,.own 2,.bool (HL.snd (Sh.z1i args) x).1]:TO D.T)),(1,.rig),(2,.rig)]:=e;simp only[Qbf,Qbs,List.not_mem_nil,or_false]at e
  rcases e with ⟨rfl,rfl⟩|⟨rfl,rfl⟩|⟨rfl,rfl⟩
  refine⟨sl,rfl,?_⟩;simp only[OR];refine⟨i,_,p,J,?_⟩;simp only[VRL,VR];exact⟨v0,_,rfl,⟨_,rfl,rfl,a4⟩,z,_,rfl,⟨_,rfl,rfl,b4⟩,_,_,rfl,rfl,rfl⟩;exact⟨_,rfl,(⟨rfl,rfl,a4⟩:none=none∧[]=[]∧v0.leaf=true)⟩
  ·exact⟨_,rfl,(⟨rfl,rfl,b4⟩:none=none∧[]=[]∧z.leaf=true)⟩) ⟨λs H t K j a b d M=>by
   match s,H,a,b with
   |0,0,_,_=>rfl
   |1,_,a,_=>simp at a;subst a;rcases d with h|h <;> cases h
   |2,_,a,_=>simp at a;subst a;rcases d with h|h <;> cases h
   |0,1,_,b=>simp at b;subst b;rcases M with h|h <;> cases h
   |0,2,_,b=>simp at b;subst b;rcases M with h|h <;> cases h
   |0,n+3,_,b=>simp at b
   |n+3,_,a,_=>simp at a,λs t j a d=>by
   match s,a with
   |0,a=>exact k4.2 0 t j a d
   |1,a=>simp at a;subst a;cases d
   |2,a=>simp at a;subst a;cases d
   |n+3,a=>simp at a⟩ .nil
 refine hh.mono λout H' ⟨L',ρ',e1,m,⟨e3,_⟩,G,e4,e5⟩ =>?_
 have m:Left D lv L [sl,⟨v0,none,[],[]⟩,⟨z,none,[],[]⟩] 1 L' ρ' (yht++l) (HL.snd (Sh.z1i outs) y):=m;have hlen:ρ'.length=l.length+3:=m.len
 match ρ',hlen with
 |s0::s1::s2::rest,_=>
  have I:=m.pin 0 sl (by omega) rfl;obtain rfl:s0=sl:=by simpa using I
  have⟨t1,g1,g2⟩:=e3 (1,1) (by simp[z03i]) _ rfl;obtain rfl:s1=t1:=by simpa using g1
  have⟨t2,g3,g4⟩:=e3 (2,2) (by simp[z03i]) _ rfl;obtain rfl:s2=t2:=by simpa using g3
  have⟨t0,m1,A⟩:=m.ob 0 (.cells [.own 1,.own 2,.bool (HL.snd (Sh.z1i outs) y).1]) Qak;obtain rfl:s0=t0:=by simpa using m1
  simp only[OR]at A;have⟨i',vs,A,N,m4⟩:=A
  rw[p]at A;cases A
  simp only[VRL,VR]at m4;obtain⟨w0,_,rfl,⟨_,n1,n2,_⟩,w1,_,rfl,⟨_,W,n4,_⟩,w2,_,rfl,rfl,rfl⟩:=m4;simp only[Qbv,Qbn,List.getElem?_cons_succ]at n1 W;subst n1;subst W;subst n2;subst n4
  refine⟨L',[s0],e1,⟨rfl,λj o e =>?_,λs H t K j a b d M =>?_,λs t j a d =>?_,λj hj Z=>m.out j hj λk t a d =>?_,λj t hj a =>?_,λs t j a d =>?_⟩,⟨(λq w=>by cases w),λq w t j a b =>?_⟩,G,e4,(by show VRL D [s0] lv (z3n D (λk=>k) outs (HL.fst (Sh.z1i outs) (yky D outs l y))) G;rw[show HL.fst (Sh.z1i outs) (yky D outs l y)=HL.fst (Sh.z1i outs) y from HL.zo2 _ _];exact yxq hD ho e5)⟩
  have e:(j,o)∈z6j D (λk=>k) aosK 0 (HL.snd (Sh.z1i outs) (yky D outs l y)):=e;rw[show HL.snd (Sh.z1i outs) (yky D outs l y)=((HL.snd (Sh.z1i outs) y).1,())from HL.zoc _ _]at e;have e:(j,o)∈[(0,(TO.cells [.any,.any,.bool (HL.snd (Sh.z1i outs) y).1]:TO D.T))]:=e;simp only[List.mem_singleton,Qbs]at e;obtain⟨rfl,rfl⟩:=e;refine⟨s0,rfl,?_⟩;simp only[OR];refine⟨i,_,p,N,?_⟩;simp only[VRL,VR]
  exact⟨_,_,rfl,trivial,_,_,rfl,trivial,_,_,rfl,rfl,rfl⟩;have B:=(Qaa.1 a).1;have l2:=(Qaa.1 b).1;simp at B l2;omega;have B:=(Qaa.1 a).1;have O:s=0:=by simp at B;omega
  subst O
  rcases m.mine 0 t j (by simpa using a) d with h|⟨k,K,g,Q⟩
  exact .inl h
  match k,g with
  |0,g=>exact .inr ⟨0,K,by simpa using g,Q⟩
  |1,g=>simp at g;subst g;rcases Q with h|h <;> cases h
  |2,g=>simp at g;subst g;rcases Q with h|h <;> cases h
  |n+3,g=>simp at g
  match k,a with
  |0,a=>exact Z 0 t (by simpa using a) d
  |1,a=>simp at a;subst a;rcases d with h|h <;> cases h
  |2,a=>simp at a;subst a;rcases d with h|h <;> cases h
  |n+3,a=>simp at a
  exact a;have B:=(Qaa.1 a).1;have O:s=0:=by simp at B;omega
  subst O;exact m.fpl 0 t j (by simpa using a) d;have w:q∈[((0:Nat),(0:Nat)),(0,1)]:=w;simp only[Qbf,List.not_mem_nil,or_false]at w
  rcases w with rfl|rfl
  obtain rfl:s0=t:=by simpa using a
  rw[p]at b;cases b
  simp only[cellAt,J,N,Qbv];rw[g2];obtain rfl:s0=t:=by simpa using a
  rw[p]at b;cases b
  simp only[cellAt,J,N,Qbv,List.getElem?_cons_succ];rw[g4]
def ytc(hD:D.Ok P){f args outs a}{go:GoR D args outs a}(g:yff outs=true)
  (h:(z03i D f args outs a go).Ok P):(yy3 D f args outs a go).Ok P:=λR x k i r e=>by
 rcases h R x (λy=>k (yky D outs a y)) (λ_=>none) r e with ⟨y,b,d⟩|⟨y,b,d⟩
 exact .inl ⟨_,b,z06i hD g d⟩;cases b
def z07g(D)(f:Nat)(args outs)(a){R:Type}(un:R->HL D.T (Sh.z1i outs++z1j (yht++a)))(go:Nat->HL D.T (Sh.z1i args++z1j yht)->Option R)(I:FI D):FI D :=
 {I with ent:=λn=>yy3 D f args outs a λx k=>(go n x).bind λr=>k (un r)}
end
def z011{α}(l:List α)(k:Nat):ix l (k:Int)=l[k]? := by simp[ix]
def wrk{k:Nat}(h:k<=4611686018427387904):IntKind.i64.wrap ((k:Int)+1)=((k+1:Nat):Int):=by rw[wr1 h];rfl
def zz5{α}{l:List α}{k}(h:k<l.length):ix l (k:Int)=some l[k]:=by rw[z011,Qab h]
def z083{α}{x y:List α}(h:x.length+y.length<=1048576):ext x y=some (x++y):=by unfold ext;rw[Qbq];simp[zi7];omega
def y2m{x y}(h:x.length+y.length<=16777216):cat x y=some (x++y):=by unfold cat;rw[Qbq];simp[maxLen];omega
noncomputable def eqB{α:Type}(a b:α):Bool:=@decide (a=b) (Classical.propDecidable _)
theorem zhu{α}{a b:α}:eqB a b=true↔a=b:=@decide_eq_true_iff _ (Classical.propDecidable _)
theorem z7e{α}{a b:α}:eqB a b=false↔a≠b:=@decide_eq_false_iff_not _ (Classical.propDecidable _)
@[simp] def y30 {α} (a:α):eqB a a=true:=zhu.2 rfl
def down{len}{Q:Nat->Prop}(a:Q len)(d:∀k,k<len->Q (k+1)->Q k):∀k,k<=len->Q k:=by
 intro k e;obtain⟨m,rfl⟩:∃m,k=len-m:=⟨len-k,by omega⟩
 induction m with
 |zero=>exact a
 |succ m b=>
  grind
def Ev{α:Type}(f:Nat->Option α)(r:α):Prop:=∃n,∀m,n<=m->f m=some r
section
variable {α β:Type}{r:α}
theorem Ev.get{f}(h:Ev f r):∃n,f n=some r:=by have⟨n,a⟩:=h;exact⟨n,a n (Qbp _)⟩
def Ev.succ{f g}(h:∀n,f (n+1)=g n)(a:Ev g r):Ev f r:=by
 have⟨n,b⟩:=a;refine⟨n+1,λm d =>?_⟩;obtain⟨q,rfl⟩:∃q,m=q+1:=⟨m-1,by omega⟩
 grind
def Ev.same{f g}(h:∀n,f n=g n)(d:Ev g r):Ev f r:=by
 have⟨n,a⟩:=d;exact⟨n,λm b=>by rw[h];exact a m b⟩
def Ev.pure{o}(h:o=some r):Ev (λ_=>o) r:=⟨0,λ_ _=>h⟩
def Ev.bind{a}{k:Nat->β->Option α}{y}(d:Ev a y)(b:Ev (λn=>k n y) r):Ev (λn=>(a n).bind (k n)) r:=by
 have⟨n,g⟩:=d;have⟨q,e⟩:=b;exact⟨max n q,λm h=>by grind⟩
def Ev.t{c}{a b:Nat->Option α}(d:c=true)(e:Ev a r):Ev (λn=>if c=true then a n else b n) r:=by subst d;exact e
def Ev.f{c}{a b:Nat->Option α}(d:c=false)(e:Ev b r):Ev (λn=>if c=true then a n else b n) r:=by subst d;exact e
def Ev.cond{c a b}(d:c=true->Ev a r)(e:c=false->Ev b r):Ev (λn=>if c=true then a n else b n) r:=by
 cases c;exact e rfl;exact d rfl
def Ev.to{f a}(h:Ev f a)(e:a=r):Ev f r:=e▸h
end
section
variable {α β γ:Type}{xs:List α}
end
section
variable {α β:Type}{r:α}
def Ev.zka{f g}(h:∀n,f (n+1)=g n):Ev f r↔Ev g r :=
 ⟨λ⟨n,a⟩=>⟨n,λm b=>by grind⟩,Ev.succ h⟩
def evS(f)(r){g:Nat->Option α}(h:∀n,f (n+1)=g n):Ev f r↔Ev g r:=Ev.zka h
def Ev.det{f}{x y:α}(h:Ev f x)(k:Ev f y):x=y:=by
 have⟨n,a⟩:=h;have⟨q,b⟩:=k;have:=a (max n q) (by omega);grind
def Ev.zz0{a}{k:Nat->β->Option α}{y}(b:Ev a y):Ev (λn=>(a n).bind (k n)) r↔Ev (λn=>k n y) r :=
 ⟨λh=>by
  have⟨n,e⟩:=h;have⟨q,d⟩:=b;refine⟨max n q,λm g =>?_⟩
  grind,Ev.bind b⟩
def Ev.yz1{o}{k:Nat->β->Option α}{y}(a:o=some y):Ev (λn=>o.bind (k n)) r↔Ev (λn=>k n y) r:=by grind
def Ev.zz1{a b:Nat->Option α}{c}(d:c=true):Ev (λn=>pIf c (a n) (b n)) r↔Ev a r:=by subst d;exact Iff.rfl
def Ev.kz0{a b:Nat->Option α}{c}(d:c=false):Ev (λn=>pIf c (a n) (b n)) r↔Ev b r:=by subst d;exact Iff.rfl
def Ev.pif{a b c}:Ev (λn=>pIf c (a n) (b n)) r↔if c=true then Ev a r else Ev b r:=by cases c <;> exact Iff.rfl
def Ev.yz0{x}:Ev (λ_=>some x) r↔x=r:=⟨λ⟨n,h⟩=>by have:=h n (Qbp _);injection this,λh=>⟨0,λ_ _=>by rw[h]⟩⟩
def Ev.zt2{X R y}{f:Nat->R->Option α}{g:Nat->X->Option α}:Ev (λn=>zp2 (.ok y) (f n) (g n)) r↔Ev (λn=>f n y) r:=Iff.rfl
def Ev.yg6{X R y}{f:Nat->R->Option α}{g:Nat->X->Option α}:Ev (λn=>zp2 (.pan y) (f n) (g n)) r↔Ev (λn=>g n y) r:=Iff.rfl
end
theorem wI{x}(h : -9223372036854775808<=x∧x<=9223372036854775807):IntKind.i64.wrap x=x:=IntWalk.i64_in _ h
theorem wU{x}(h:0<=x∧x<=18446744073709551615):IntKind.u64.wrap x=x:=IntWalk.u64_in _ h
theorem wUn{x}(h : -18446744073709551616<=x∧x<0):IntKind.u64.wrap x=x+18446744073709551616:=by
 unfold IntKind.wrap;simp[IntKind.bits,IntKind.signed,if_false];omega
def yg5{a b:Nat}:mxI (a:Int) (b:Int)=((max a b:Nat):Int):=by unfold mxI;split <;> omega
section
variable {α σ γ:Type}
def zdl{L:Nat->Int->Option γ}{xs:List α}{p fail r}
  (e:Ev (λn=>L n (xs.length:Int)) r)
  (d:∀k (h:k<xs.length) v,Ev (λn=>L n ((k+1:Nat):Int)) v->Ev (λn=>L n (k:Int)) (if p xs[k]=true then v else fail)) :
  Ev (λn=>L n 0) (if xs.all p=true then r else fail):=by
 have:∀k,k<=xs.length->Ev (λn=>L n (k:Int)) (if (xs.drop k).all p=true then r else fail) :=
  down (by simpa using e) λk a b=>by
   have h:=d k a _ b;rw[<-Qah (h:=a),List.all_cons];by_cases g:p xs[k]=true
   grind
   simp_all
 simpa using this 0 (Qbo _)
def zqz{L:Nat->Int->Option γ}{xs:List α}{p got r}
  (e:Ev (λn=>L n (xs.length:Int)) r)
  (d:∀k (h:k<xs.length) v,Ev (λn=>L n ((k+1:Nat):Int)) v->Ev (λn=>L n (k:Int)) (if p xs[k]=true then got else v)) :
  Ev (λn=>L n 0) (if xs.any p=true then got else r):=by
 have:∀k,k<=xs.length->Ev (λn=>L n (k:Int)) (if (xs.drop k).any p=true then got else r) :=
  down (by simpa using e) λk a b=>by
   have h:=d k a _ b;rw[<-Qah (h:=a),List.any_cons];by_cases g:p xs[k]=true
   grind
   simp_all
 simpa using this 0 (Qbo _)
def zv2{L:Nat->Int->Option γ}{len:Nat}
  (e:∃v,Ev (λn=>L n (len:Int)) v)
  (b:∀k,k<len->∀v,Ev (λn=>L n ((k+1:Nat):Int)) v->∃w,Ev (λn=>L n (k:Int)) w) :
  ∃v,Ev (λn=>L n 0) v:=by
 have:∀k,k<=len->∃v,Ev (λn=>L n (k:Int)) v:=down e λk d ⟨v,a⟩=>b k d v a
 simpa using this 0 (Qbo _)
def z0f1{L:Nat->Int->Option γ}{xs a:List α}{fail r}(hlen:xs.length=a.length)
  (j:Ev (λn=>L n (xs.length:Int)) r)
  (g:∀k (h:k<xs.length) (l:k<a.length) v,Ev (λn=>L n ((k+1:Nat):Int)) v->Ev (λn=>L n (k:Int)) (if eqB xs[k] a[k]=true then v else fail)) :
  Ev (λn=>L n 0) (if eqB xs a=true then r else fail):=by
 have:∀k,k<=xs.length->Ev (λn=>L n (k:Int)) (if eqB (xs.drop k) (a.drop k)=true then r else fail) :=
  down (by rw[List.drop_length,hlen,List.drop_length];simpa[hlen]using j) λk d e=>by
   have b:k<a.length:=by omega
   have h:=g k d b _ e;rw[<-Qah (h:=d),<-Qah (h:=b)];by_cases i:xs[k]=a[k];rw[i,y30,Qbq rfl]at h
   grind[z7e]
   grind[z7e]
 simpa using this 0 (Qbo _)
def yw9{L:Nat->Int->σ->Option γ}{xs:List α}{f}{I:Nat->σ->Prop}{v a}(e:I 0 a)
  (l:I xs.length (xs.foldl f a)->Ev (λn=>L n (xs.length:Int) (xs.foldl f a)) v)
  (d:∀k (h:k<xs.length) s,I k s->I (k+1) (f s xs[k])∧(Ev (λn=>L n ((k+1:Nat):Int) (f s xs[k])) v->Ev (λn=>L n (k:Int) s) v)) :
  Ev (λn=>L n 0 a) v:=by
 have:∀m k,k+m=xs.length->∀s,I k s->(xs.drop k).foldl f s=xs.foldl f a->Ev (λn=>L n (k:Int) s) v:=λm=>by
  induction m with
  |zero=>
   grind
  |succ m g=>
   intro k i s hi j;have b:k<xs.length:=by omega
   have⟨p,o⟩:=d k b s hi
   grind[Qah]
 simpa using this xs.length 0 (by omega) a e (by simp)
end
def isLet(c:UInt8):Bool:=decide (97<=c.toNat)&&decide (c.toNat<=122)
def zdi(c:UInt8):Bool:=decide (48<=c.toNat)&&decide (c.toNat<=57)
def zav(c:UInt8):Bool:=isLet c||c==45||zdi c
def zbq(s:B8):Bool:=match s with
 |[]=>false
 |c::t=>isLet c&&t.all zav&&decide (s.length<=40)
def cutAt(b:UInt8)(s:B8):B8×B8×Bool:=(s.takeWhile (· != b),(s.dropWhile (· != b)).tail,s.any (· == b))
def parts(b:UInt8):B8->List B8
 |[]=>[[]]
 |c::t=>if c==b then []::parts b t else match parts b t with
  |h::r=>(c::h)::r
  |[]=>[[c]]
def steps(s:B8):List B8:=if s==[]then []else parts 47 s
theorem parts_eq(b):∀s:B8,parts b s=(cutAt b s).1::(if (cutAt b s).2.2 then parts b (cutAt b s).2.1 else [])
 |[]=>by simp[parts,cutAt]
 |c::t=>by
  rw[parts];by_cases h:c=b;subst h;simp[cutAt];have a:(c==b)=false:=by simpa using h
  rw[a,parts_eq b t]
  grind[cutAt,List.takeWhile_cons,List.dropWhile_cons]
theorem zsg(b):∀s:B8,(parts b s).length=s.countP (· == b)+1
 |[]=>by simp[parts]
 |c::t=>by
  rw[parts];have a:=zsg b t
  grind
def ykv{s k}(h)(a:s[k].toNat<128):zel s k=(s[k].toNat,1):=by
 have b:=by simpa[ByteArray.size]using h
 have e:(ByteArray.mk s.toArray)[k]=s[k]:=rfl;have:=decode_ascii ⟨s.toArray⟩ k b (by rw[e];exact a);exact this
def yox{s k}(h)(a:128<=s[k].toNat):128<=(zel s k).1∧1<=(zel s k).2:=by
 have b:=by simpa[ByteArray.size]using h
 exact decode_high ⟨s.toArray⟩ k b (by exact a)
def zo8{α}{l:List α}{lo hi}(b:lo<=hi)(a:hi<=l.length):sub l (lo:Int) (hi:Int)=some ((l.take hi).drop lo):=by
 simp_all[sub]
def zld{α}{l:List α}{hi}(a:hi<=l.length):sub l 0 (hi:Int)=some (l.take hi):=by
 simp_all[sub]
theorem zox(b):∀s:B8,Lib.indexByte s b=if s.any (· == b)then ((s.takeWhile (· != b)).length:Int)else -1
 |[]=>rfl
 |c::t=>by
  rw[Lib.indexByte,zox b t];cases h:c==b
  simp_all
  simp[h,bne]
def y97{b}:∀{s:B8},s.any (· == b)=true->(s.takeWhile (· != b)).length<s.length∧s.take (s.takeWhile (· != b)).length=s.takeWhile (· != b)∧s.drop ((s.takeWhile (· != b)).length+1)=(s.dropWhile (· != b)).tail
 |[],h=>by simp at h
 |c::t,h=>by
  cases a:c==b;have d:=y97 (b:=b) (s:=t) (by simpa[a]using h)
  grind[List.takeWhile_cons,List.dropWhile_cons]
  simp_all
theorem yaj{b}:∀{s},s.any (· == b)=false->cutAt b s=(s,[],false)
 |[],h=>rfl
 |c::t,h=>by
  simp only[List.any_cons,Bool.or_eq_false_iff]at h;have a:=yaj (b:=b) (s:=t) h.2
  grind[cutAt,List.takeWhile_cons,List.dropWhile_cons]
end Go.Ab
