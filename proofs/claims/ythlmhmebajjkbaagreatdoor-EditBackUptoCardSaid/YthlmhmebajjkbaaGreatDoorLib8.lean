/-
  THE TYPED MACHINE: functions that panic, and deferred calls.
-/
import Derived.Test.YthlmhmebajjkbaaGreatDoorLib7
import Derived.Test.YthlmhmebajjkbaaGreatDoorLib2
import Derived.Test.YthlmhmebajjkbaaGreatDoorLib3
import Derived.Test.YthlmhmebajjkbaaGreatDoorLib1
import Derived.Lib.Bytealg
import Derived.Laws.RangeAny
set_option linter.defProp false
set_option linter.unusedSectionVars false
set_option linter.unusedSimpArgs false
set_option linter.unusedVariables false
namespace Go.Ab
open Go
section
variable {P:Program}{D:Dat}{F:Fr}{ρ:List Slot}{ts:TS D.T}{σ:St}{lv:Nat}{R X:Type}
def ymc(hD:D.Ok P)(g:TRr D F ρ ts σ){q:Sh}{a:List OSh}{p:Nat}{z:TV D.T}{v:V}{x:HL D.T (q.tys++z19 a)}(hp:F.pin.length<=p)(h4:p<=a.length)(hz:VR D ρ F.lv z v)(h:ytg D q a p z ts=some x) :
  ∃ρ',TRr D F ρ' ⟨[],z86 D (λk=>k) a 0 (HL.snd _ x),a.length,ts.nt,[],[]⟩ σ∧VR D ρ' F.lv (zmd D (λk=>k) q (HL.fst _ x)) v:=by
 unfold ytg at h;split at h
 ·rename_i K;split at h
  ·rename_i M y hy;split at h
   ·rename_i M' w hw;cases h;have⟨a1,a2,a3⟩:=zo1 hD q hy hz;have⟨b1,b2,W,b4⟩:=zq4 hD g a hw;have U:MOk a.length M':=b2 (a2 ⟨λk src h=>by have:=(zm0 h).1;omega,λk k' s h h'=>by have e:=(zm0 h).2;have Z:=(zm0 h').2;injection e with e;injection Z with Z;omega,λk src hm=>yg3 hm⟩);have⟨ρ',H,J,c3⟩:=ytl g U λj B=>by simpa using W j B
    rw[HL.zpr,HL.zr0]
    have place:∀s sl i,ρ'[s]? = some sl->sl.has i->∃b m,fnd M' s=some (.slot b)∧fnd ts.o b=some m∧m.live∧ρ[b]? = some sl:=λs sl i Q hk=>by
     have⟨src,A,l⟩:=c3 s sl Q
     cases src with
     |nil=>simp only[Src.is]at l;subst l;rcases hk with h|h <;> cases h
     |slot b=>
      have⟨h3,G,I⟩:=W s (by rw[<-H];exact(Qaa.1 Q).1)
      rw[Nat.zero_add,A]at G;cases G
      have⟨m,f1,f2⟩:=I b rfl;exact⟨b,m,A,f1,f2,l⟩
    refine⟨ρ',⟨H,g.nt,λj c B=>by simp[fnd]at B,λs o ho =>?_,λs L o o' sl sl' i Y h2 N l2 C r2 u O =>?_,λs o sl i Y N C u =>?_,g.lv,g.E,g.e0,(by have:=g.d;rw[K]at this;exact this),g.out,λj sl B =>?_,λs o sl i Y N C u=>by
     have⟨b,m,d1,d2,d3,d4⟩:=place s sl i C (.inr u)
     exact g.fpl b m sl i d2 d3 d4 u,λi s v h=>by simp at h⟩,a3 ρ' (b1.agr J)⟩
    rotate_right
    ·have h5:=(Qaa.1 B).1;have⟨sl',A,l⟩:=J j _ (b1 _ _ (a1 _ _ (y7i (n:=p) (k:=j) (by omega))));simp only[Src.is]at l
     rw[g.pin j sl B]at l;cases l;exact A
    ·have⟨_,_,_,sl,A,l⟩:=b4 ρ' J s o (zat ho);exact⟨sl,A,l⟩
    ·have⟨b,m,d1,d2,d3,d4⟩:=place s sl i C u;have⟨s1,o1,A,l,G,I⟩:=place L sl' i r2 O;have:=g.inj b s1 m o1 sl sl' i d2 l d3 G d4 I u O;subst this;exact U.inj s L b d1 A
    ·have⟨b,m,d1,d2,d3,d4⟩:=place s sl i C u;exact g.mine b m sl i d2 d3 d4 u
   ·cases h
  ·cases h
 ·cases h
def zdi(lv:Nat)(L:List (Option yz5))(E:Nat->Nat->Option yz5)(b:List Slot)(p:Nat):Fr :=
 ⟨lv,E,E,L,λi=>i<L.length∧∀(k:Nat) (a:Slot),b[k]? = some a->¬a.has i,b.take p,[]⟩
def yvv{L:List (Option yz5)}{E:Nat->Nat->Option yz5}{q ρ':List Slot}{p:Nat}{g:List OSh}{y:HL D.T (z19 g)}{τ:St}(b:TRr D (zdi lv L E q p) ρ' ts τ)(C:ts.o=z86 D (λk=>k) g 0 y)(w:ts.nx=g.length) :
  τ.H=⟨lv,τ.H.L,E⟩∧Left D lv L q p τ.H.L ρ' g y:=by
 have a:ρ'.length=g.length:=by rw[b.nx,w]
 have live:∀s sl,ρ'[s]? = some sl->∃o,fnd ts.o s=some o∧o.live:=λs sl u=>by
  rw[C];exact y68 g (Qbv _) (by rw[Nat.zero_add,<-a];exact(Qaa.1 u).1)
 refine⟨zto (F:=zdi lv L E q p) τ.H b.lv b.E,a,λj o G =>?_,λs A sl sl' i e B h N =>?_,λs sl i e h =>?_,λi J x=>b.out i ⟨J,x⟩,λj sl I u =>?_,λs sl i e h=>by
  have⟨o,m,l⟩:=live s sl e
  exact b.fpl s o sl i m l e h⟩
 ·exact b.ob j o (by rw[C];exact y76 g G)
 ·have⟨o,m,l⟩:=live s sl e;have⟨o',Q,O⟩:=live A sl' B;exact b.inj s A o o' sl sl' i m Q l O e B h N
 ·have⟨o,m,l⟩:=live s sl e;have:=b.mine s o sl i m l e h;by_cases z:i<L.length
  ·right;by_cases n:∃(k:Nat) (d:Slot),q[k]? = some d∧d.has i
   ·exact n
   ·exact(this ⟨z,λk d M K=>n ⟨k,d,M,K⟩⟩).elim
  ·left;omega
 ·exact b.pin j sl (by simp only[zdi,Qaw];rw[Qbx I];exact u)
def y84:∀(l:List Sh) (y:HL D.T (Sh.z45 l)),(z41 D (λk=>k) l y).length=l.length
 |[],_=>rfl
 |s::l,y=>by
  show(zmd D (λk=>k) s (HL.fst _ y)::z41 D (λk=>k) l (HL.snd _ y)).length=_;rw[List.length_cons,y84 l,List.length_cons]
structure ypx(D:Dat)(lv:Nat)(L:List (Option yz5))(ρ0:List Slot)(args:List Sh)(aos:List OSh)(x:HL D.T (Sh.z45 args++z19 aos))(vargs:List V):Prop where
 len:ρ0.length=aos.length
 args:VRL D ρ0 lv (z41 D (λk=>k) args (HL.fst _ x)) vargs
 ob:∀j o,(j,o)∈z86 D (λk=>k) aos 0 (HL.snd _ x)->∃sl,ρ0[j]? = some sl∧OR D ρ0 lv L sl o
 inj:SlOk L ρ0
def ypx.entry{L:List (Option yz5)}{E:Nat->Nat->Option yz5}{e:List Slot}{args:List Sh}{a:List OSh}{x:HL D.T (Sh.z45 args++z19 a)}{vargs:List V}(h:ypx D lv L e args a x vargs)(p:Nat){g:Nat}(n:args.length<=g) :
  TRr D (zdi lv L E e p) e (entry D args a g [] x) ⟨vargs++List.replicate (g-vargs.length) .any,⟨lv,L,E⟩,[],E⟩:=by
 have z:vargs.length=args.length:=by rw[<-h.args.length];exact y84 _ _
 refine⟨h.len,by simp only[Ab.entry,Qap,List.length_replicate];omega,zx0 _ h.args,λs o k=>h.ob s o (zat k),λs w o o' sl sl' i u B q A b y=>h.inj.1 s w sl sl' i b y,λs o sl i u q b l k=>k.2 s sl b l,rfl,rfl,rfl,rfl,λi m=>⟨m.1,rfl⟩,λj sl d =>?_,λs o sl i u q b l=>h.inj.2 s sl i b l,λi s v m=>by simp[Ab.entry]at m⟩;simp only[zdi,Qaw]at d
 split at d
 ·exact d
 ·cases d
def z01l(D:Dat)(lv:Nat):(m:Option Sh)->HL D.T (yav m)->zt8->Prop
 |none,_,a=>a = .ret
 |some s,x,a=>∃v,a = .pan v false∧VR D [] lv (zmd D (λk=>k) s x) v
def y2m.Ok(P:Program)(b:y2m D):Prop:=∀x h y,b.go x h=some y->∀(lv:Nat) (L:List (Option yz5)) (E:Nat->Nat->Option yz5) (d:List Slot) (vargs:List V),ypx D lv L d b.args b.aos x vargs ->
 ∀(i:zt8),z01l D lv b.m h i->∀(W:World) (g:Gh) (a:Array Value) (u:FrameMode),Good W g ⟨lv,L,E⟩->zlt W g ⟨lv,L,E⟩ vargs a->yo2 W g ⟨lv,L,E⟩ i u ->
  (∀w,(callFunc b.f a).run P w = .ok (.enter b.f a) w)∧CallsD P b.f a u W (λe j W'=>∃v L' g' ρ',e = .returned v∧Step W g ⟨lv,L,E⟩ W' g' ⟨lv,L',E⟩∧Good W' g' ⟨lv,L',E⟩∧settle j = .returning∧Left D lv L d b.aos.length L' ρ' b.ros y)
def yys(D:Dat)(ρ:List Slot)(lv:Nat)(z:Option (TV D.T))(a:zt8):Prop:=match z with
 |none=>a = .ret
 |some z=>∃v,a = .pan v false∧VR D ρ lv z v
def yi8(hD:D.Ok P){m:Option Sh}{z:Option (TV D.T)}{a:HL D.T (yav m)}(h:ylw D m z=some a){d:zt8}(b:yys D ρ lv z d):z01l D lv m a d:=by
 cases m with
 |none=>
  cases z with
  |none=>exact b
  |some z=>cases h
 |some s=>
  cases z with
  |none=>cases h
  |some z=>
   simp only[ylw]at h;split at h
   ·rename_i M x e;cases h;have⟨v,l,j⟩:=b;have⟨q,o,n⟩:=zo1 hD s e j;refine⟨v,l,n [] λk src g =>?_⟩;have i:=o ⟨λk src h=>by simp[fnd]at h,λk p s h=>by simp[fnd]at h,λk src h=>by cases h⟩;exact absurd (i.lt k src g) (by omega)
   ·cases h
def y8o(hD:D.Ok P){des:List (y2m D)}(J:∀b∈des,b.Ok P){fn:Func}{Y:Array Value}{k:TS D.T->Option R}{kp:TV D.T->TS D.T->Option R}{r:R}{R':Ending->World->Prop}{W0:World}{g0:Gh}{H0:Heap}
  (hk:∀ts σ ρ a W g,TRr D F ρ ts σ->kzu W a g σ->Step W0 g0 H0 W g σ.H->a.tmps=Y->k ts=some r->∃c,(results fn Y).run P W = .ok c W∧R' (.returned c) W)
  (h3:∀z ts σ ρ a W g v c,TRr D F ρ ts σ->kzu W a g σ->Step W0 g0 H0 W g σ.H->VR D ρ F.lv z v->Rel W g σ.H v c->kp z ts=some r->R' (.panicked [{v:=c,recovered:=false}]) W) :
  ∀(l:List (Nat×List (TV D.T))) (z:Option (TV D.T)) (G:zt8) (ts:TS D.T) (σ:St) (ρ:List Slot) (a:Act) (W:World) (g:Gh) (u:FrameMode),ts.d=l->TRr D F ρ ts σ->kzu W a g σ->Step W0 g0 H0 W g σ.H->a.tmps=Y->yo2 W g σ.H G u ->
   yys D ρ F.lv z G->zmc D des k kp l z ts=some r->Leaves P fn Y R' a.defers u W
 |[],z,G,ts,σ,ρ,a,W,g,u,hd,q,w,hS,N,U,C,h=>by
  have hn:σ.d=[]:=by have:=q.d;rw[hd]at this;exact this
  have hi:a.defers=[]:=Qao (by rw[w.dlen,hn];rfl);rw[hi]
  cases z with
  |none=>
   have C:G = .ret:=C;subst C;have hu:u = .returning:=U;subst hu
   exact hk ts σ ρ a W g q w hS N h
  |some z=>
   obtain⟨v,rfl,hv⟩:=C;have⟨c,h1,h2⟩:=U;subst h1
   exact h3 z ts σ ρ a W g v c q w hS hv h2 h
 |(f,vs)::l,z,G,ts,σ,ρ,a,W,g,u,hd,q,w,hS,N,U,C,h=>by
  simp only[zmc]at h;have h4:=q.d;rw[hd]at h4;have⟨vargs,s,O,ha,h9⟩:=h4;have⟨K,as,Z,k2⟩:=w.defs 0 f vargs (by rw[O];rfl)
  obtain⟨d0,n,A⟩:∃d0 n,a.defers=d0::n:=by
   cases hq:a.defers with
   |nil=>rw[hq]at Z;cases Z
   |cons d0 n=>exact⟨d0,n,rfl⟩
  rw[A]at Z;simp only[Qcd,Qbu]at Z;subst Z
  have look:∀i:List (y2m D),(∀b∈i,b∈des)->y5u D f vs z ts (λh8=>zmc D des k kp l none {h8 with d:=l}) i=some r->Leaves P fn Y R' a.defers u W:=λi=>by
   induction i with
   |nil=>intro _ h;cases h
   |cons b rest ih=>
    intro I h;have ih:=ih λe he=>I e (Qai _ he)
    simp only[y5u]at h;split at h
    ·exact ih h
    ·rename_i hf;have hf:=Qaj hf;split at h
     ·exact ih h
     ·rename_i mx hb;split at h
      ·rename_i M x h6;split at h
       ·rename_i hc;have⟨c1,c2⟩:=hc;have⟨y,hy,h⟩:=z3h h;have⟨o,ρ0,d1,d2,d3,d4,d5⟩:=Ent.zni hD q (e:=b.ent) ha h6
        have hp:∀k,k<b.aos.length->∃s,fnd M k=some (.slot s):=λk hk=>by
         have:=Qat.1 c2 k (List.mem_range.2 hk);split at this
         ·rename_i s hs;exact⟨s,hs⟩
         ·cases this
        have p:σ.H=⟨F.lv,σ.H.L,F.E⟩:=zto σ.H q.lv q.E;have B:ypx D F.lv σ.H.L ρ0 b.args b.aos x vargs:=⟨d1,d4,d5,y7n q o d3⟩;have hg:=J b (I b Qak)
        have hw:G = .ret∨∃v,G = .pan v false:=by
         cases z with
         |none=>exact .inl C
         |some z=>have⟨v,h1,_⟩:=C;exact .inr ⟨v,h1⟩
        have h5:=w.good;rw[p]at h5 k2 U;have⟨e1,e2⟩:=hg x mx y hy F.lv σ.H.L F.E ρ0 vargs B G (yi8 hD hb C) W g (as++K) u h5 k2 U;rw[hf]at e1 e2;rw[A];have hu:u ≠ .run:=U.run;refine leaves_cons hu (by show(callFunc f (as++K)).run P W=_;exact e1 W) (e2.mono λe u' W' ⟨v,L',g',ρ',q1,q2,q3,q4,q5⟩ =>?_);subst q1;rw[<-p]at q2
        have⟨m,g2⟩:=TRr.after q hD o d2 d3 (λk s hm=>o.one k _ hm) hp c1 q5
        have ho:TRr D F (ρ++ρ'.drop b.aos.length) {zej D M b.aos.length ts b.ros y with d:=l} {σ with H:=⟨F.lv,L',F.E⟩,d:=s}:=by
         have hh:DfL D ρ F.lv l s:=h9;exact⟨m.nx,m.nt,m.tm,m.ob,m.inj,m.mine,m.lv,m.E,m.e0,hh.more _,m.out,m.pin,m.fpl,m.g⟩
        have hr:kzu W' {a with defers:=n} g' {σ with H:=⟨F.lv,L',F.E⟩,d:=s}:=by
         have hl:=w.dlen;rw[A,O]at hl;refine⟨q3,w.size,λj v hj=>(w.tmps j v hj).mono q2,by simpa using hl,λj f' h7 hj =>?_⟩;have⟨Q,ht,z1,z2⟩:=w.defs (j+1) f' h7 (by rw[O];simpa using hj);exact⟨Q,ht,by rw[A]at z1;simpa using z1,z2.mono q2⟩
        exact y8o hD J hk h3 l none .ret _ {σ with H:=⟨F.lv,L',F.E⟩,d:=s} _ {a with defers:=n} W' g' (settle u') rfl ho hr (hS.trans q2) N q4 rfl h
       ·cases h
      ·exact ih h
  exact look des (λb h=>h) h
def EndQP(D:Dat)(F:Fr){Z:Type}(K:Ks D.T Z)(r:Z)(e:kze)(σ:St):Prop :=
 match e with
 |.normal=>∃ts,TR D F ts σ∧K.kn ts=some r
 |.ret=>∃ts,TR D F ts σ∧K.kr ts=some r
 |.panic v=>∃ts ρ z,TRr D F ρ ts σ∧VR D ρ F.lv z v∧K.kp z ts=some r
 |.exit _=>False
def z01e{Z:Type}{K:Ks D.T Z}(b:K.kx=[]){r:Z}:KOk D F K (EndQP D F K r) r :=
 ⟨λts σ a h=>⟨ts,a,h⟩,λid k ts σ h=>by rw[b]at h;simp[fnd]at h,λts σ a h=>⟨ts,a,h⟩,λz ts σ ρ v e d h=>⟨ts,ρ,z,e,d,h⟩⟩
def ykc(hD:D.Ok P){Z:Type}{f p nt:Nat}{args:List Sh}{m:List OSh}{fn:Func}{code:Code}{l:LSh}{b:HL D.T l.tys->Z}{e:TV D.T->TS D.T->Option Z}{des:List (y2m D)}{go:HL D.T (Sh.z45 args++z19 m)->Option Z}{K:Ks D.T Z}
  (hf:P.funcs[f]? = some fn) (hb:fn.body=some code) (h3:fn.ntmps=nt) (M:∀args w,(callFunc f args).run P w = .ok (.enter f args) w) (q:args.length<=nt) (h7:p<=l.pin) (h2:l.pin<=l.os.length)
  (hK:K=⟨λts=>zmc D des (l.enter D (λx=>some (b x)) 9) e ts.d none ts,[],λts=>zmc D des (l.enter D (λx=>some (b x)) 9) e ts.d none ts,λz ts=>zmc D des (l.enter D (λx=>some (b x)) 9) e ts.d (some z) ts⟩)
  (N:∀de∈des,de.Ok P) (G:yxa P D code p args m nt [] K go) {x:HL D.T (Sh.z45 args++z19 m)}{A:Z}(hz:go x=some A) {lv:Nat}{L:List (Option yz5)}{E:Nat->Nat->Option yz5}{n:List Slot}{vargs:List V}(hg:ypx D lv L n args m x vargs) {i:Out->Heap->Prop}
  (I:∀y υ ρ',b y=A->TRr D (zdi lv L E n p) ρ' (l.bld D y) υ->∃vs,yn3 P υ fn.results.toList=some vs∧i (.ret (ze6 vs)) υ.H)
  (J:∀z ts σ ρ v,TRr D (zdi lv L E n p) ρ ts σ->VR D ρ lv z v->e z ts=some A->i (.pan v) σ.H):y0n P f vargs ⟨lv,L,E⟩ i:=λW g s U hA=>by
 subst h3;refine⟨M s W,calls_of_wp_defers hf hb ?_⟩;have h1:(zdi lv L E n p).pin.length<=p:=by simp only[zdi,Qay];omega
 have h4:K.kx=[]:=by rw[hK]
 have C:=G (zdi lv L E n p) _ A h1 (z01e (K:=K) h4) x _ (hg.entry (E:=E) p q).tr hz;refine wp_mono (C W g ⟨lv,L,E⟩ W _ g ⟨U⟩ ⟨rfl,.refl _ _ _⟩ (yth U hA)).wp λex a W' ⟨g1,σ,e',q1,q2,q3,Q⟩ =>?_
 let h:Ending->World->Prop:=λen W'=>∃o H' g',i o H'∧Step W g ⟨lv,L,E⟩ W' g' H'∧Good W' g' H'∧z01k W' g' H' o en
 have done:∀(z:Option (TV D.T)) (Y:zt8) (u:FrameMode) (ts:TS D.T) (τ:St) (ρ:List Slot) (j:Gh),TRr D (zdi lv L E n p) ρ ts τ->kzu W' a j τ->Step W g ⟨lv,L,E⟩ W' j τ.H->yo2 W' j τ.H Y u->yys D ρ lv z Y ->
   zmc D des (l.enter D (λx=>some (b x)) 9) e ts.d z ts=some A->Leaves P fn a.tmps h a.defers u W':=λz Y u ts τ ρ j hR h6 h5 hM hz k=>by
  refine y8o (F:=zdi lv L E n p) (R':=h) (W0:=W) (g0:=g) (H0:=⟨lv,L,E⟩) hD N (λts σ ρ a W2 j t1 t2 t3 t4 t5 =>?_) (λz ts σ ρ a W2 j v c t1 t2 t3 t4 t5 t6 =>?_) ts.d z Y ts τ ρ a W' j u rfl hR h6 h5 rfl hM hz k
  ·have⟨y,hy,υ,ρ',w1,w2⟩:=LSh.zg5 hD (by omega) h2 t1.tr t5;injection hy with hy;have⟨g3,w3,O⟩:=w1 W g ⟨lv,L,E⟩ W2 a j ⟨U⟩ ⟨t1.e0,t3⟩ t2;have⟨vs,r1,r2⟩:=I y υ ρ' hy w2;have⟨c,z1,z2⟩:=zrt (P:=P) (fn:=fn) (v:=ze6 vs) O (by simp only[zck,r1,Qbr]);rw[t4]at z1;exact⟨c,z1,.ret (ze6 vs),υ.H,g3,r2,w3.2,O.good,c,rfl,z2⟩
  ·exact⟨.pan v,σ.H,j,J z ts σ ρ v t1 t4 t6,t3,t2.good,c,rfl,t5⟩
 have back:∀{ts:TS D.T},TR D (zdi lv L E n p) ts σ->zmc D des (l.enter D (λx=>some (b x)) 9) e ts.d none ts=some A->Leaves P fn a.tmps h a.defers .returning W':=λ{ts} B k=>by
  have⟨τ,ρ,w1,w2⟩:=B;have⟨j,w3,O⟩:=w1 W g ⟨lv,L,E⟩ W' a g1 ⟨U⟩ q2 q3;exact done none .ret .returning ts τ ρ j w2 O w3.2 rfl rfl k
 subst hK
 cases q1 with
 |normal=>have⟨ts,B,k⟩:=Q;exact back B k
 |ret=>have⟨ts,B,k⟩:=Q;exact back B k
 |exit id=>exact Q.elim
 |panic v c hr=>
  have⟨ts,ρ,z,hR,hv,k⟩:=Q;exact done (some z) (.pan v false) _ ts σ ρ g1 hR q3 q2.2 ⟨c,rfl,hr⟩ ⟨v,rfl,hv⟩ k
def z00i(hD:D.Ok P){e:Ent D}{fn:Func}{code:Code}{G:Nat}{l:LSh}{pack:HL D.T l.tys->R}{un:R->HL D.T (Sh.z45 e.outs++z19 e.ros)}{des:List (y2m D)}
  {go:HL D.T (Sh.z45 e.args++z19 e.aos)->Option (Res (HL D.T (e.pan.tys++z19 e.pos)) R)}
  (hf:P.funcs[e.f]? = some fn) (hb:fn.body=some code) (A:fn.ntmps=G) (g:∀args w,(callFunc e.f args).run P w = .ok (.enter e.f args) w) (a:e.args.length<=G)
  (Z:∀(R':Type) (x:HL D.T (Sh.z45 e.args++z19 e.aos)) (k:HL D.T (Sh.z45 e.outs++z19 e.ros)->Option R') (K:HL D.T (e.pan.tys++z19 e.pos)->Option R'),e.go x k K=(go x).bind λo=>y9z o (λr=>k (un r)) (λy=>K y))
  (j:e.pure=false) (B:e.ren=[]) (u:e.p<=l.pin) (s:l.pin<=l.os.length) (hlen:l.os.length=e.ros.length) (Y:e.p<=e.pos.length)
  (C:∀x,y7d P D (l.bld D x) fn.results.toList=some (z41 D (λk=>k) e.outs (HL.fst _ (un (pack x))))∧(l.bld D x).o=z86 D (λk=>k) e.ros 0 (HL.snd _ (un (pack x))))
  (i:∀de∈des,de.Ok P) (d:yxa P D code e.p e.args e.aos G [] (yvc D des l pack e.pan e.pos e.p (λy=>y)) go):e.Ok P:=λR' x k K r h=>by
 rw[j];rw[Z]at h;have⟨o0,h1,h2⟩:=zrf h
 cases o0 with
 |ok r0=>
  refine .inl ⟨un r0,h2,λlv L E W vargs Q O N M=>ykc (p:=e.p) hD hf hb A g a u s rfl i d h1 ⟨Q,O,N,M⟩ (λy υ ρ' n m =>?_) λz ts σ ρ v _ _ b =>?_⟩
  ·cases n;have⟨o1,o2⟩:=C y;have⟨vs,r1,r2⟩:=zp1 hD m o1;have⟨J,I⟩:=yvv m o2 hlen;exact⟨vs,r1,υ.H.L,ρ',J,I,(by rw[B];intro q hq;cases hq),vs,rfl,r2⟩
  ·unfold panK at b
   split at b <;> cases b
 |pan y0=>
  refine .inr ⟨y0,h2,λlv L E W vargs Q O N M=>ykc (p:=e.p) hD hf hb A g a u s rfl i d h1 ⟨Q,O,N,M⟩ (λy υ ρ' n m=>(by cases n)) λz ts σ ρ v t1 t4 b =>?_⟩;unfold panK at b;split at b
  ·rename_i y n;injection b with b;cases b;have U:(zdi lv L E W e.p).pin.length<=e.p:=by simp only[zdi,Qay];omega
   have⟨ρ',w1,m⟩:=ymc hD t1 U Y t4 n;have⟨J,I⟩:=yvv w1 rfl rfl;exact⟨σ.H.L,ρ',J,I,v,rfl,m⟩
  ·cases b
def FI.ofP(D:Dat)(f nt p:Nat)(args:List Sh)(aos:List OSh)(outs:List Sh)(ros:List OSh)(pan:Sh)(pos:List OSh)(des:List (y2m D))(l:LSh){R:Type}(pack:HL D.T l.tys->R)(un:R->HL D.T (Sh.z45 outs++z19 ros))
  (go:Nat->HL D.T (Sh.z45 args++z19 aos)->Option (Res (HL D.T (pan.tys++z19 pos)) R)) (z6m:Nat->List (Nat×Lb D (Res (HL D.T (pan.tys++z19 pos)) R))) (c:AC):FI D :=
 {R:=Res (HL D.T (pan.tys++z19 pos)) R,ent:=λn=>{f:=f,p:=p,args:=args,aos:=aos,outs:=outs,ros:=ros,pan:=pan,pos:=pos,pure:=false,go:=λx k a=>(go n x).bind λo=>y9z o (λr=>k (un r)) (λy=>a y)},
   c:=c,K:=yvc D des l pack pan pos p (λy=>y),p:=p,args:=args,aos:=aos,nt:=nt,z6m:=z6m,go:=go}
def ypc(P:Program):List (y2m D)->Prop
 |[]=>True
 |d::l=>d.Ok P∧ypc P l
def ypc.get:∀{l:List (y2m D)},ypc P l->∀d∈l,d.Ok P
 |d::l,h,e,he=>by
  rcases Qbl.1 he with rfl|he
  ·exact h.1
  ·exact ypc.get h.2 e he
def chkP(p d:Nat)(args:List Sh)(a b:List OSh)(l:LSh):Bool :=
 Nat.ble args.length d&&Nat.ble p l.pin&&Nat.ble l.pin l.os.length&&Nat.beq l.os.length a.length&&Nat.ble p b.length
def FI.zm1{hD:D.Ok P}{f A p:Nat}{args:List Sh}{m:List OSh}{outs:List Sh}{d:List OSh}{b:Sh}{a:List OSh}{des:List (y2m D)}{l:LSh}{pack:HL D.T l.tys->R}{un:R->HL D.T (Sh.z45 outs++z19 d)}
  {go:Nat->HL D.T (Sh.z45 args++z19 m)->Option (Res (HL D.T (b.tys++z19 a)) R)} {z6m:Nat->List (Nat×Lb D (Res (HL D.T (b.tys++z19 a)) R))}{c:AC}{i:Nat->List (Ent D)}{fn:Func}
  (L:P.funcs[f]? = some fn) (B:fn.ntmps=A) (u:∀args w,(callFunc f args).run P w = .ok (.enter f args) w)
  (M:fn.body=some c.erase) (C:c.labels.Nodup) (e:chkP p A args d a l=true) (K:∀n,yfi p (z6m n)=true) (z:ypc P des)
  (s:∀x,y7d P D (l.bld D x) fn.results.toList=some (z41 D (λk=>k) outs (HL.fst _ (un (pack x)))))
  (I:∀x,go 0 x=none) (E:y6f (λ_ g=>∀x,g.go x=none) (z6m 0))
  (J:∀n x,go (n+1) x=run P D (i n) (jump D (z6m n)) c (entry D args m A [] x) (yvc D des l pack b a p (λy=>y)))
  (G:∀n,y6f (λj g=>∀x,g.go x=y6d P D (i n) (jump D (z6m n)) j c (yvc D des l pack b a p (λy=>y)) (g.sh.bld D x)) (z6m (n+1)))
  (q:∀x,(l.bld D x).o=z86 D (λk=>k) d 0 (HL.snd _ (un (pack x)))) :
  (FI.ofP D f A p args m outs d b a des l pack un go z6m c).Good P D i where
 nodup:=C
 zero:=I
 lzero:=λj g x h=>E.get (zat h) x
 pins:=λn j g h=>(y7j (K n)).get (zat h)
 step:=J
 lstep:=λn j g x h=>(G n).get (zat h) x
 ok:=λn h=>by
  simp only[chkP,Qag,Nat.ble_eq]at e;have⟨⟨⟨⟨Y,U⟩,Q⟩,O⟩,N⟩:=e;exact z00i (l:=l) (pack:=pack) (un:=un) (go:=go n) (code:=c.erase) (des:=des) hD L M B u Y (λ_ _ _ _=>rfl) rfl rfl U Q (Qaj O) N (λx=>⟨s x,q x⟩) z.get h
end
def zuz{P:Program}{D:Dat}(hD:D.Ok P){f:FI D}{bs:List (FI D)}(g:OkL P bs)(h:f.Good P D (tb bs)):OkL P [f] :=
 ⟨λn=>h.ok n (h.runs hD n λm _ e d=>by
  obtain⟨b,a,rfl⟩:=Qbg.1 d
  exact g.get a m),trivial⟩
def yue{P:Program}{f:Nat}{vargs:List V}{a:Array Value}{W:World}(h:y0n P f vargs H0 λout _=>out = .ret (.bool true))(l:zlt W g0 H0 vargs a)(i:zno W g0 H0) :
  Calls P f a W λe W'=>e = .returned (.bool true)∧RowKit.Below W.heap.size W W' :=
 (h W g0 a (z05c W i) l).2.mono λe W' ⟨o,H',g',g,b,_,d⟩=>by
  subst g;have⟨c,j,k⟩:=d;cases k;exact⟨j,y1j b⟩
def yd3{α:Type}(l:List α)(k:Nat):ix l (k:Int)=l[k]? := by simp[ix]
def wrk{k:Nat}(h:k<=4611686018427387904):IntKind.i64.wrap ((k:Int)+1)=((k+1:Nat):Int):=by rw[wr1 h];rfl
def zz6{α:Type}{l:List α}{k:Nat}(h:k<l.length):ix l (k:Int)=some l[k]:=by rw[yd3,Qab h]
noncomputable def eqB{α:Type}(a b:α):Bool:=@decide (a=b) (Classical.propDecidable _)
def zak{α:Type}{a b:α}:eqB a b=true↔a=b:=@decide_eq_true_iff _ (Classical.propDecidable _)
def kzk{α:Type}{a b:α}:eqB a b=false↔a≠b:=@decide_eq_false_iff_not _ (Classical.propDecidable _)
@[simp] def zax {α:Type} (a:α):eqB a a=true:=zak.2 rfl
def down{len:Nat}{Q:Nat->Prop}(d:Q len)(b:∀k,k<len->Q (k+1)->Q k):∀k,k<=len->Q k:=by
 intro k e;obtain⟨m,rfl⟩:∃m,k=len-m:=⟨len-k,by omega⟩
 induction m with
 |zero=>exact d
 |succ m a=>
  by_cases h:m<len
  ·refine b _ (by omega) ?_;rw[show len-(m+1)+1=len-m by omega];exact a (by omega)
  ·rw[show len-(m+1)=len-m by omega];exact a (by omega)
def Ev{α:Type}(f:Nat->Option α)(r:α):Prop:=∃n,∀m,n<=m->f m=some r
section
variable {α β:Type}{r:α}
def Ev.get{f:Nat->Option α}(h:Ev f r):∃n,f n=some r:=by have⟨n,a⟩:=h;exact⟨n,a n (Qbw _)⟩
def Ev.succ{f g:Nat->Option α}(h:∀n,f (n+1)=g n)(b:Ev g r):Ev f r:=by
 have⟨n,a⟩:=b;refine⟨n+1,λm d =>?_⟩;obtain⟨q,rfl⟩:∃q,m=q+1:=⟨m-1,by omega⟩;rw[h];exact a q (by omega)
def Ev.same{f g:Nat->Option α}(h:∀n,f n=g n)(d:Ev g r):Ev f r:=by
 have⟨n,a⟩:=d;exact⟨n,λm b=>by rw[h];exact a m b⟩
def Ev.pure{o:Option α}(h:o=some r):Ev (λ_=>o) r:=⟨0,λ_ _=>h⟩
def Ev.bind{a:Nat->Option β}{k:Nat->β->Option α}{y:β}(g:Ev a y)(e:Ev (λn=>k n y) r):Ev (λn=>(a n).bind (k n)) r:=by
 have⟨n,d⟩:=g;have⟨q,b⟩:=e;exact⟨max n q,λm h=>by show(a m).bind (k m)=_;rw[d m (by omega)];exact b m (by omega)⟩
def Ev.opt{o:Option β}{k:Nat->β->Option α}{y:β}(a:o=some y)(b:Ev (λn=>k n y) r):Ev (λn=>o.bind (k n)) r:=.bind (.pure a) b
def Ev.t{c:Bool}{a b:Nat->Option α}(d:c=true)(e:Ev a r):Ev (λn=>if c=true then a n else b n) r:=by subst d;exact e
def Ev.f{c:Bool}{a b:Nat->Option α}(d:c=false)(e:Ev b r):Ev (λn=>if c=true then a n else b n) r:=by subst d;exact e
def Ev.cond{c:Bool}{a b:Nat->Option α}(d:c=true->Ev a r)(e:c=false->Ev b r):Ev (λn=>if c=true then a n else b n) r:=by
 cases c
 ·exact e rfl
 ·exact d rfl
def Ev.to{f:Nat->Option α}{a:α}(h:Ev f a)(e:a=r):Ev f r:=e▸h
end
section
variable {α β γ:Type}{xs:List α}
end
section
variable {α β:Type}{r:α}
def Ev.zjc{f g:Nat->Option α}(h:∀n,f (n+1)=g n):Ev f r↔Ev g r :=
 ⟨λ⟨n,a⟩=>⟨n,λm b=>by rw[<-h];exact a _ (by omega)⟩,Ev.succ h⟩
def evS(f:Nat->Option α)(r:α){g:Nat->Option α}(h:∀n,f (n+1)=g n):Ev f r↔Ev g r:=Ev.zjc h
def Ev.kz0{a:Nat->Option β}{k:Nat->β->Option α}{y:β}(b:Ev a y):Ev (λn=>(a n).bind (k n)) r↔Ev (λn=>k n y) r :=
 ⟨λh=>by
  have⟨n,e⟩:=h;have⟨q,d⟩:=b;refine⟨max n q,λm g =>?_⟩;have:=e m (by omega);simp only[d m (by omega)]at this
  exact this,Ev.bind b⟩
def Ev.yz2{o:Option β}{k:Nat->β->Option α}{y:β}(a:o=some y):Ev (λn=>o.bind (k n)) r↔Ev (λn=>k n y) r:=by subst a;exact Iff.rfl
def Ev.zz2{a b:Nat->Option α}{c:Bool}(d:c=true):Ev (λn=>pIf c (a n) (b n)) r↔Ev a r:=by subst d;exact Iff.rfl
def Ev.kz1{a b:Nat->Option α}{c:Bool}(d:c=false):Ev (λn=>pIf c (a n) (b n)) r↔Ev b r:=by subst d;exact Iff.rfl
def Ev.pif{a b:Nat->Option α}{c:Bool}:Ev (λn=>pIf c (a n) (b n)) r↔if c=true then Ev a r else Ev b r:=by cases c <;> exact Iff.rfl
def Ev.yz0{x:α}:Ev (λ_=>some x) r↔x=r:=⟨λ⟨n,h⟩=>by have:=h n (Qbw _);injection this,λh=>⟨0,λ_ _=>by rw[h]⟩⟩
def Ev.z05z{X R:Type}{y:R}{f:Nat->R->Option α}{g:Nat->X->Option α}:Ev (λn=>y9z (.ok y) (f n) (g n)) r↔Ev (λn=>f n y) r:=Iff.rfl
def Ev.pt{a b:Nat->Option α}{c:Bool}(d:c=true)(h:Ev a r):Ev (λn=>pIf c (a n) (b n)) r:=(Ev.zz2 d).2 h
def Ev.pf{a b:Nat->Option α}{c:Bool}(d:c=false)(h:Ev b r):Ev (λn=>pIf c (a n) (b n)) r:=(Ev.kz1 d).2 h
end
def wI{x:Int}(h : -9223372036854775808<=x∧x<=9223372036854775807):IntKind.i64.wrap x=x:=IntWalk.i64_in _ h
def wU{x:Int}(h:0<=x∧x<=18446744073709551615):IntKind.u64.wrap x=x:=IntWalk.u64_in _ h
def wUn{x:Int}(h : -18446744073709551616<=x∧x<0):IntKind.u64.wrap x=x+18446744073709551616:=by
 unfold IntKind.wrap;simp only[IntKind.bits,IntKind.signed,Bool.false_and,Bool.false_eq_true,if_false];omega
def yb0{a b:Nat}:mxI (a:Int) (b:Int)=((max a b:Nat):Int):=by unfold mxI;split <;> omega
section
variable {α σ γ:Type}
def zci{L:Nat->Int->Option γ}{xs:List α}{p:α->Bool}{fail r:γ}
  (i:Ev (λn=>L n (xs.length:Int)) r)
  (g:∀k (h:k<xs.length) v,Ev (λn=>L n ((k+1:Nat):Int)) v->Ev (λn=>L n (k:Int)) (if p xs[k]=true then v else fail)) :
  Ev (λn=>L n 0) (if xs.all p=true then r else fail):=by
 have:∀k,k<=xs.length->Ev (λn=>L n (k:Int)) (if (xs.drop k).all p=true then r else fail) :=
  down (by simpa using i) λk d e=>by
   have h:=g k d _ e;rw[<-Qah (h:=d),List.all_cons];by_cases a:p xs[k]=true
   ·rw[Qbx a]at h;simpa[a]using h
   ·rw[Qby a]at h;have b:p xs[k]=false:=by simpa using a
    simpa[b]using h
 simpa using this 0 (Qbv _)
def zr3{L:Nat->Int->Option γ}{xs:List α}{p:α->Bool}{got r:γ}
  (i:Ev (λn=>L n (xs.length:Int)) r)
  (g:∀k (h:k<xs.length) v,Ev (λn=>L n ((k+1:Nat):Int)) v->Ev (λn=>L n (k:Int)) (if p xs[k]=true then got else v)) :
  Ev (λn=>L n 0) (if xs.any p=true then got else r):=by
 have:∀k,k<=xs.length->Ev (λn=>L n (k:Int)) (if (xs.drop k).any p=true then got else r) :=
  down (by simpa using i) λk d e=>by
   have h:=g k d _ e;rw[<-Qah (h:=d),List.any_cons];by_cases a:p xs[k]=true
   ·rw[Qbx a]at h;simpa[a]using h
   ·rw[Qby a]at h;have b:p xs[k]=false:=by simpa using a
    simpa[b]using h
 simpa using this 0 (Qbv _)
def zud{L:Nat->Int->Option γ}{len:Nat}
  (e:∃v,Ev (λn=>L n (len:Int)) v)
  (b:∀k,k<len->∀v,Ev (λn=>L n ((k+1:Nat):Int)) v->∃w,Ev (λn=>L n (k:Int)) w) :
  ∃v,Ev (λn=>L n 0) v:=by
 have:∀k,k<=len->∃v,Ev (λn=>L n (k:Int)) v:=down e λk d ⟨v,a⟩=>b k d v a
 simpa using this 0 (Qbv _)
def y7h{L:Nat->Int->Option γ}{xs a:List α}{fail r:γ}(hlen:xs.length=a.length)
  (m:Ev (λn=>L n (xs.length:Int)) r)
  (l:∀k (h:k<xs.length) (p:k<a.length) v,Ev (λn=>L n ((k+1:Nat):Int)) v->Ev (λn=>L n (k:Int)) (if eqB xs[k] a[k]=true then v else fail)) :
  Ev (λn=>L n 0) (if eqB xs a=true then r else fail):=by
 have:∀k,k<=xs.length->Ev (λn=>L n (k:Int)) (if eqB (xs.drop k) (a.drop k)=true then r else fail) :=
  down (by rw[List.drop_length,hlen,List.drop_length];simpa[hlen]using m) λk g j=>by
   have b:k<a.length:=by omega
   have h:=l k g b _ j;rw[<-Qah (h:=g),<-Qah (h:=b)];by_cases d:xs[k]=a[k]
   ·rw[d,zax,Qbx rfl]at h;rw[d]
    have e:eqB (a[k]::xs.drop (k+1)) (a[k]::a.drop (k+1))=eqB (xs.drop (k+1)) (a.drop (k+1)):=by
     by_cases q:xs.drop (k+1)=a.drop (k+1)
     ·rw[q,zax,zax]
     ·rw[kzk.2 q,kzk.2 (λh=>q (by injection h))]
    rw[e];exact h
   ·rw[kzk.2 d]at h;rw[kzk.2 (by intro q;injection q with i o;exact d i)];exact h
 simpa using this 0 (Qbv _)
def yrj{L:Nat->Int->σ->Option γ}{xs:List α}{f:σ->α->σ}{I:Nat->σ->Prop}{v:γ}{b:σ}(u:I 0 b)
  (o:I xs.length (xs.foldl f b)->Ev (λn=>L n (xs.length:Int) (xs.foldl f b)) v)
  (j:∀k (h:k<xs.length) s,I k s->I (k+1) (f s xs[k])∧(Ev (λn=>L n ((k+1:Nat):Int) (f s xs[k])) v->Ev (λn=>L n (k:Int) s) v)) :
  Ev (λn=>L n 0 b) v:=by
 have:∀m k,k+m=xs.length->∀s,I k s->(xs.drop k).foldl f s=xs.foldl f b->Ev (λn=>L n (k:Int) s) v:=λm=>by
  induction m with
  |zero=>
   intro k l s e a;have g:k=xs.length:=by omega
   subst g;rw[List.drop_length]at a;simp only[List.foldl_nil]at a
   rw[a];exact o (a▸e)
  |succ m i=>
   intro k l s e a;have d:k<xs.length:=by omega
   have⟨q,p⟩:=j k d s e;refine p (i (k+1) (by omega) _ q ?_);rw[<-Qah (h:=d)]at a;exact a
 simpa using this xs.length 0 (by omega) b u (by simp)
end
def isLet(c:UInt8):Bool:=decide (97<=c.toNat)&&decide (c.toNat<=122)
def yjr(c:UInt8):Bool:=decide (48<=c.toNat)&&decide (c.toNat<=57)
def zhs(c:UInt8):Bool:=isLet c||c==45||yjr c
def zjk(s:B8):Bool:=match s with
 |[]=>false
 |c::t=>isLet c&&t.all zhs&&decide (s.length<=40)
def cutAt(b:UInt8)(s:B8):B8×B8×Bool:=(s.takeWhile (· != b),(s.dropWhile (· != b)).tail,s.any (· == b))
def parts(b:UInt8):B8->List B8
 |[]=>[[]]
 |c::t=>if c==b then []::parts b t else match parts b t with
  |h::r=>(c::h)::r
  |[]=>[[c]]
def steps(s:B8):List B8:=if s==[]then []else parts 47 s
def parts_eq(b:UInt8):∀s:B8,parts b s=(cutAt b s).1::(if (cutAt b s).2.2 then parts b (cutAt b s).2.1 else [])
 |[]=>by simp[parts,cutAt]
 |c::t=>by
  rw[parts];by_cases h:c=b
  ·subst h;simp[cutAt]
  ·have a:(c==b)=false:=by simpa using h
   rw[a,parts_eq b t];simp[cutAt,a,bne,List.takeWhile_cons,List.dropWhile_cons]
def z02h(b:UInt8)(s:B8):parts b s≠[]:=by rw[parts_eq];simp
def ziq(b:UInt8):∀s:B8,(parts b s).length=s.countP (· == b)+1
 |[]=>by simp[parts]
 |c::t=>by
  rw[parts];have d:=ziq b t;split
  ·rename_i h;simp[d,List.countP_cons,h]
  ·rename_i h
   cases e:parts b t with
   |nil=>exact(z02h b t e).elim
   |cons a r=>rw[e]at d;simp[List.countP_cons,h]at d ⊢;omega
def ycc(b:UInt8)(s:B8):(cutAt b s).2.1.length<=s.length:=by
 have:=(List.dropWhile_sublist (l:=s) (· != b)).length_le;simp only[cutAt,List.length_tail];omega
def y3d{b:UInt8}:∀{s:B8},(cutAt b s).2.2=true->(cutAt b s).2.1.length<s.length
 |[],h=>by simp[cutAt]at h
 |c::t,h=>by
  by_cases a:c=b
  ·subst a;simp[cutAt]
  ·have d:(c==b)=false:=by simpa using a
   have:=y3d (b:=b) (s:=t) (by simpa[cutAt,d]using h);simp only[cutAt,List.dropWhile_cons,bne,d,Bool.not_false,if_true,List.length_cons]at this ⊢;omega
def z01r{s:B8}{k:Nat}(h:k<s.length)(a:s[k].toNat<128):zho s k=(s[k].toNat,1):=by
 have b:k<(ByteArray.mk s.toArray).size:=by simpa[ByteArray.size]using h
 have e:(ByteArray.mk s.toArray)[k]=s[k]:=rfl;have:=decode_ascii ⟨s.toArray⟩ k b (by rw[e];exact a);rw[e]at this;exact this
def ywr{s:B8}{k:Nat}(h:k<s.length)(a:128<=s[k].toNat):128<=(zho s k).1∧1<=(zho s k).2:=by
 have b:k<(ByteArray.mk s.toArray).size:=by simpa[ByteArray.size]using h
 have e:(ByteArray.mk s.toArray)[k]=s[k]:=rfl;exact decode_high ⟨s.toArray⟩ k b (by rw[e];exact a)
def z03u{α:Type}{l:List α}{b a:Nat}(e:b<=a)(d:a<=l.length):sub l (b:Int) (a:Int)=some ((l.take a).drop b):=by
 unfold sub;rw[Qbx ⟨by omega,by omega,by omega⟩];simp
def yxe{α:Type}{l:List α}{a:Nat}(b:a<=l.length):sub l 0 (a:Int)=some (l.take a):=by
 unfold sub;rw[Qbx ⟨by omega,by omega,by omega⟩];simp
def ybc(b:UInt8):∀s:B8,Lib.indexByte s b=if s.any (· == b)then ((s.takeWhile (· != b)).length:Int)else -1
 |[]=>rfl
 |c::t=>by
  rw[Lib.indexByte,ybc b t];cases h:c==b
  ·simp only[List.any_cons,h,Bool.false_or,List.takeWhile_cons,bne,Bool.not_false,if_true,List.length_cons];cases t.any (· == b)
   ·simp
   ·simp only[if_true,Qbm];rw[Qby (by simp),Qby (by omega)];simp
  ·simp[h,bne]
def ynr{b:UInt8}:∀{s:B8},s.any (· == b)=true->(s.takeWhile (· != b)).length<s.length∧s.take (s.takeWhile (· != b)).length=s.takeWhile (· != b)∧s.drop ((s.takeWhile (· != b)).length+1)=(s.dropWhile (· != b)).tail
 |[],h=>by simp at h
 |c::t,h=>by
  cases d:c==b
  ·have a:=ynr (b:=b) (s:=t) (by simpa[d]using h);simp only[bne]at a ⊢;simp[List.takeWhile_cons,List.dropWhile_cons,d];exact⟨a.1,a.2.1,by simpa using a.2.2⟩
  ·simp[List.takeWhile_cons,List.dropWhile_cons,d,bne]
def ysj{b:UInt8}:∀{s:B8},s.any (· == b)=false->cutAt b s=(s,[],false)
 |[],h=>rfl
 |c::t,h=>by
  simp only[List.any_cons,Bool.or_eq_false_iff]at h;have a:=ysj (b:=b) (s:=t) h.2;simp only[cutAt,bne]at a ⊢;simp[List.takeWhile_cons,List.dropWhile_cons,h.1];simpa using a
end Go.Ab
