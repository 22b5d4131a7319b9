/-
  THE TYPED MACHINE: own slices become data.
-/
import Derived.Test.YthlmhmebajjkbaaGreatDoorLib5
import Derived.Test.YthlmhmebajjkbaaGreatDoorLib3
set_option linter.defProp false
set_option linter.unusedSectionVars false
set_option linter.unusedSimpArgs false
set_option linter.unusedVariables false
namespace Go.Ab
open Go
section
variable {P:Program}{D:Dat}{F:Fr}{ρ:List Slot}{ts:TS D.T}{σ:St}{lv:Nat}
mutual
def yvw{s:Nat}{m:Bool}{z:TV D.T}{v0 r:V}(l:∀v,VR D ρ lv (match m with|true=>TV.map s|false=>TV.own s) v->v=v0)(g:VR D ρ lv z r):∀{x:TV D.T}{v:V},VR D ρ lv x v->∃A,FV v0 r v A∧VR D ρ lv (TV.frz D s m z x) A
 |.own j,v,h=>by
  cases m with
  |true=>exact⟨v,.keep _,by simpa only[TV.frz]using h⟩
  |false=>
   simp only[TV.frz];split
   ·rename_i y;subst y;obtain rfl:=l v h;exact⟨r,.it,g⟩
   ·exact⟨v,.keep _,h⟩
 |.map j,v,h=>by
  cases m with
  |false=>exact⟨v,.keep _,by simpa only[TV.frz]using h⟩
  |true=>
   simp only[TV.frz];split
   ·rename_i y;subst y;obtain rfl:=l v h;exact⟨r,.it,g⟩
   ·exact⟨v,.keep _,h⟩
 |.agg cs,v,h=>by
  simp only[TV.frz,VR]at h ⊢;obtain⟨vs,rfl,w⟩:=h;have⟨e,u,p⟩:=y58 l g w
  exact⟨.agg e,.agg' u,e,rfl,p⟩
 |.tup cs,v,h=>by
  simp only[TV.frz,VR]at h ⊢;obtain⟨vs,rfl,w⟩:=h;have⟨e,u,p⟩:=y58 l g w
  exact⟨.tup e,.tup' u,e,rfl,p⟩
 |.dp j i d,v,h=>⟨v,.keep _,by simpa only[TV.frz]using h⟩
 |.bsl q cs,v,h=>⟨v,.keep _,by simp only[TV.frz,VR]⟩
 |.any,v,h=>⟨v,.keep _,by simpa only[TV.frz]using h⟩
 |.bool b,v,h=>⟨v,.keep _,by simpa only[TV.frz]using h⟩
 |.int k n,v,h=>⟨v,.keep _,by simpa only[TV.frz]using h⟩
 |.str b,v,h=>⟨v,.keep _,by simpa only[TV.frz]using h⟩
 |.nilp,v,h=>⟨v,.keep _,by simpa only[TV.frz]using h⟩
 |.nils,v,h=>⟨v,.keep _,by simpa only[TV.frz]using h⟩
 |.mapn,v,h=>⟨v,.keep _,by simpa only[TV.frz]using h⟩
 |.nilf,v,h=>⟨v,.keep _,by simpa only[TV.frz]using h⟩
 |.nili,v,h=>⟨v,.keep _,by simpa only[TV.frz]using h⟩
 |.sl o B E,v,h=>⟨v,.keep _,by simpa only[TV.frz]using h⟩
 |.ptr j d,v,h=>⟨v,.keep _,by simpa only[TV.frz]using h⟩
 |.bp j d,v,h=>⟨v,.keep _,by simpa only[TV.frz]using h⟩
 |.osl j C,v,h=>⟨v,.keep _,by simpa only[TV.frz]using h⟩
 |.mc o es,v,h=>⟨v,.keep _,by simpa only[TV.frz]using h⟩
 |.ref cs d,v,h=>⟨v,.keep _,by simpa only[TV.frz]using h⟩
 |.ap j o i x d,v,h=>⟨v,.keep _,by simpa only[TV.frz]using h⟩
 |.fn f a b,v,h=>⟨v,.keep _,by simpa only[TV.frz]using h⟩
 |.iface o x,v,h=>⟨v,.keep _,by simpa only[TV.frz]using h⟩
def y58{s:Nat}{m:Bool}{z:TV D.T}{v0 r:V}(e:∀v,VR D ρ lv (match m with|true=>TV.map s|false=>TV.own s) v->v=v0)(d:VR D ρ lv z r):∀{cs:List (TV D.T)}{vs:List V},VRL D ρ lv cs vs->∃a,FVL v0 r vs a∧VRL D ρ lv (TV.yrh D s m z cs) a
 |[],vs,h=>by simp only[TV.yrh,VRL]at h ⊢;subst h;exact⟨[],.nil,rfl⟩
 |c::cs,vs,h=>by
  simp only[TV.yrh,VRL]at h ⊢;obtain⟨v,q,rfl,i,g⟩:=h;have⟨b,o,l⟩:=yvw e d i;have⟨a,k,j⟩:=y58 e d g;exact⟨b::a,.cons o k,b,a,rfl,l,j⟩
end
def yqd(s:Nat)(m:Bool)(z:TV D.T):∀cs:List (TV D.T),TV.yrh D s m z cs=cs.map (TV.frz D s m z)
 |[]=>rfl
 |c::cs=>by simp only[TV.yrh,List.map_cons,yqd s m z cs]
def y5h{s:Nat}{m:Bool}{z:TV D.T}{v0 r:V}(i:∀v,VR D ρ lv (match m with|true=>TV.map s|false=>TV.own s) v->v=v0)(g:VR D ρ lv z r)(f:Nat->Option (TV D.T)):∀(l:List V) (k:Nat),(∀j x v,f (k+j)=some x->l[j]? = some v->VR D ρ lv x v) ->
  ∃d,FVL v0 r l d∧∀j x v,f (k+j)=some x->d[j]? = some v->VR D ρ lv (TV.frz D s m z x) v
 |[],k,h=>⟨[],.nil,λj x v _ b=>by simp at b⟩
 |u::l,k,h=>by
  have⟨d,p,o⟩:=y5h i g f l (k+1) λj x v a b=>h (j+1) x v (by rw[<-a];congr 1;omega) (by simpa using b)
  cases e:f k with
  |none=>
   refine⟨u::d,.cons (.keep _) p,λj x v a b =>?_⟩
   cases j with
   |zero=>rw[Nat.add_zero,e]at a;cases a
   |succ j=>exact o j x v (by rw[<-a];congr 1;omega) (by simpa using b)
  |some y=>
   have⟨q,A,w⟩:=yvw i g (h 0 y u (by simpa using e) rfl);refine⟨q::d,.cons A p,λj x v a b =>?_⟩
   cases j with
   |zero=>rw[Nat.add_zero,e]at a;cases a;simp at b;subst b;exact w
   |succ j=>exact o j x v (by rw[<-a];congr 1;omega) (by simpa using b)
def y44(hR:TRr D F ρ ts σ){s:Nat}{m:Bool}{z:TV D.T}{v0 r:V}(hz:∀q,z ≠ .own q)(h1:∀v,VR D ρ F.lv (match m with|true=>TV.map s|false=>TV.own s) v->v=v0)(hr:VR D ρ F.lv z r):∀n:Nat,∃B g:List (Nat×yz5),FOL v0 r B g∧(B.map (·.1)).Nodup ∧
  (∀p∈B,σ.H.L[p.1]? = some (some p.2)∧∃b o sl',b<n∧b≠s∧fnd ts.o b=some o∧o.live∧ρ[b]? = some sl'∧sl'.k=some p.1) ∧
  ∀b o sl' i,b<n->b≠s->fnd ts.o b=some o->o.live->ρ[b]? = some sl'->sl'.k=some i->∃J,(i,J)∈g∧∀L',L'[i]? = some (some J)->(∀j∈sl'.fp,L'[j]? = σ.H.L[j]?)->OR D ρ F.lv L' sl' (TO.map D (TV.frz D s m z) o)
 |0=>⟨[],[],.refl _,by simp,by simp,λb o sl' i h=>by omega⟩
 |n+1=>by
  have⟨B,g,a1,a2,a3,a4⟩:=y44 hR hz h1 hr n
  have skip:(∀o sl' i,n≠s->fnd ts.o n=some o->o.live->ρ[n]? = some sl'->sl'.k=some i->False)->∃B g:List (Nat×yz5),FOL v0 r B g∧(B.map (·.1)).Nodup ∧
    (∀p∈B,σ.H.L[p.1]? = some (some p.2)∧∃b o sl',b<n+1∧b≠s∧fnd ts.o b=some o∧o.live∧ρ[b]? = some sl'∧sl'.k=some p.1) ∧
    ∀b o sl' i,b<n+1->b≠s->fnd ts.o b=some o->o.live->ρ[b]? = some sl'->sl'.k=some i->∃J,(i,J)∈g∧∀L',L'[i]? = some (some J)->(∀j∈sl'.fp,L'[j]? = σ.H.L[j]?)->OR D ρ F.lv L' sl' (TO.map D (TV.frz D s m z) o):=λhc=>
   ⟨B,g,a1,a2,λp hp=>by have⟨b1,b,o,sl',b2,b3⟩:=a3 p hp;exact⟨b1,b,o,sl',by omega,b3⟩,λb o sl' i c1 c2 Y c4 X U=>by
     by_cases e:b=n
     ·subst e;exact(hc o sl' i c2 Y c4 X U).elim
     ·exact a4 b o sl' i (by omega) c2 Y c4 X U⟩
  by_cases h5:n=s
  ·exact skip λo sl' i hd=>(hd h5).elim
  ·cases Q:fnd ts.o n with
   |none=>exact skip λo sl' i _ h=>by rw[Q]at h;cases h
   |some o=>
    have⟨sl',k1,C⟩:=hR.ob n o Q;by_cases hl:o.live
    ·cases x:sl'.k with
     |none=>exact skip λo' I i _ h h6 h2 h3=>by rw[k1]at h2;cases h2;rw[x]at h3;cases h3
     |some i=>
      have⟨a,O⟩:=C.at hl x
      have N:i∉B.map (·.1):=λhm=>by
       have⟨p,hp,h9⟩:=Qbg.1 hm;have⟨b1,b,o',I,b2,b3,b4,b5,b6,b7⟩:=a3 p hp;have:=hR.inj n b o o' sl' I i Q b4 hl b5 k1 b6 (.inl x) (.inl (by rw[b7,h9]));omega
      have step:∀a':yz5,FO v0 r a a'->(∀L':List (Option yz5),L'[i]? = some (some a')->(∀j∈sl'.fp,L'[j]? = σ.H.L[j]?)->OR D ρ F.lv L' sl' (TO.map D (TV.frz D s m z) o))->∃B g:List (Nat×yz5),FOL v0 r B g∧(B.map (·.1)).Nodup ∧
        (∀p∈B,σ.H.L[p.1]? = some (some p.2)∧∃b o sl',b<n+1∧b≠s∧fnd ts.o b=some o∧o.live∧ρ[b]? = some sl'∧sl'.k=some p.1) ∧
        ∀b o sl' i,b<n+1->b≠s->fnd ts.o b=some o->o.live->ρ[b]? = some sl'->sl'.k=some i->∃J,(i,J)∈g∧∀L',L'[i]? = some (some J)->(∀j∈sl'.fp,L'[j]? = σ.H.L[j]?)->OR D ρ F.lv L' sl' (TO.map D (TV.frz D s m z) o):=λa' he hb=>
       ⟨(i,a)::B,(i,a')::g,.cons he a1,by simp only[List.map_cons,List.nodup_cons];exact⟨N,a2⟩,λp hp=>by
         rcases Qbl.1 hp with rfl|hp
         ·exact⟨O,n,o,sl',by omega,h5,Q,hl,k1,x⟩
         ·have⟨b1,b,o,sl',b2,b3⟩:=a3 p hp;exact⟨b1,b,o,sl',by omega,b3⟩,λb o2 I i2 c1 c2 Y c4 X U=>by
         by_cases e:b=n
         ·subst e
          rw[Q]at Y;cases Y
          rw[k1]at X;cases X
          rw[x]at U;cases U
          exact⟨a',Qak,hb⟩
         ·have⟨J,d1,d2⟩:=a4 b o2 I i2 (by omega) c2 Y c4 X U
          exact⟨J,Qai _ d1,d2⟩⟩
      cases o with
      |cells cs=>
       simp only[OR]at C;have⟨i',vs,A,y,G⟩:=C
       rw[x]at A;cases A
       rw[O]at y;injection y with y;cases y
       have⟨us,f1,f2⟩:=y58 h1 hr G;rw[yqd]at f2
       exact step (.cells us) (.inr ⟨vs,us,rfl,rfl,f1⟩) λL' d w=>by simp only[TO.map,OR];exact⟨i,us,x,d,f2⟩
      |acc K t' h4 w'=>
       have:=C;refine step a (.inl rfl) λL' d w =>?_
       simp only[OR,x]at C;simp only[TO.map,OR,x];have⟨A,y,h8,cp,G,R⟩:=C;rw[O]at R
       exact⟨A,y,h8,cp,G,d.trans R⟩
      |siter l hg=>
       refine step a (.inl rfl) λL' d w =>?_
       simp only[OR]at C;simp only[TO.map,OR];have⟨i',A,y⟩:=C
       rw[x]at A;cases A
       rw[O]at y
       exact⟨i,x,d.trans y⟩
      |mp K t' hf=>
       refine step a (.inl rfl) λL' d w =>?_
       simp only[OR]at C;simp only[TO.map,OR];have⟨i',ms,A,e0,G,y⟩:=C
       rw[x]at A;cases A
       rw[O]at y
       exact⟨i,ms,x,e0,G,d.trans y⟩
      |mit t' last hf=>
       refine step a (.inl rfl) λL' d w =>?_
       simp only[OR]at C;simp only[TO.map,OR];have⟨i',fs,h7,A,e0,y,G⟩:=C
       rw[x]at A;cases A
       rw[O]at y
       exact⟨i,fs,h7,x,e0,d.trans y,G⟩
      |bld K b'=>
       refine step a (.inl rfl) λL' d w =>?_
       simp only[OR]at C;have⟨i',u,c,A,y,G,R⟩:=C
       rw[x]at A;cases A
       rw[O]at y
       cases b' with
       |none=>simp only[TO.map,OR];exact⟨i,u,c,x,d.trans y,G,R⟩
       |some q=>
        cases m with
        |true=>simp only[TO.map,TV.frz,OR];exact⟨i,u,c,x,d.trans y,G,R⟩
        |false=>
         simp only[TO.map,TV.frz];by_cases W:q=s
         ·rw[Qbx W];cases z <;> simp only[OR]
          case own Z=>exact(hz Z rfl).elim
         ·rw[Qby W];simp only[OR];exact⟨i,u,c,x,d.trans y,G,R⟩
      |gone=>exact hl.elim
      |deep K Z h4 h'=>
       have E:∀L':List (Option yz5),L'[i]? = some (some a)->(∀j∈sl'.fp,L'[j]? = σ.H.L[j]?)->OR D ρ F.lv L' sl' (.deep K Z h4 h'):=λL' d w=>by
        have:=C.mono (L':=L') [] λj hj _=>by
         rcases hj with hj|hj
         ·rw[x]at hj;cases hj;exact d.trans O.symm
         ·exact w j hj
        simpa using this
       refine step a (.inl rfl) λL' d w =>?_
       cases h' with
       |none=>exact E L' d w
       |some p=>
        have⟨n',c',s0⟩:=p;simp only[TO.map]
        cases m with
        |true=>simp only[TV.frz];exact E L' d w
        |false=>
         simp only[TV.frz];by_cases W:s0=s
         ·rw[Qbx W];cases z <;> simp only[OR]
          case own Z=>exact(hz Z rfl).elim
         ·rw[Qby W];exact E L' d w
    ·exact skip λo' I i _ h h6=>by rw[Q]at h;cases h;exact(hl h6).elim
def ybu(A:TRr D F ρ ts σ){s:Nat}{m:Bool}{z:TV D.T}(hz:∀q,z ≠ .own q){v0 r:V}{sl:Slot}(k1:ρ[s]? = some sl)(ha:ts.d=[]){h3:List (Nat×yz5)}
  (a4:∀b o sl' i,b<ts.nx->b≠s->fnd ts.o b=some o->o.live->ρ[b]? = some sl'->sl'.k=some i->∃ao,(i,ao)∈h3∧∀L',L'[i]? = some (some ao)->(∀j∈sl'.fp,L'[j]? = σ.H.L[j]?)->OR D ρ F.lv L' sl' (TO.map D (TV.frz D s m z) o))
  {O:List V} (c1:FVL v0 r σ.t O) (c2:∀j x v,fnd ts.t (0+j)=some x->O[j]? = some v->VR D ρ F.lv (TV.frz D s m z x) v) {L':List (Option yz5)}(d1:∀p'∈h3,L'[p'.1]? = some (some p'.2)) (d3:L'.length=σ.H.L.length) (d4:∀i,F.out i->L'[i]? = σ.H.L[i]?) (d5:∀b o sl' i,b≠s->fnd ts.o b=some o->o.live->ρ[b]? = some sl'->i∈sl'.fp->L'[i]? = σ.H.L[i]?) :
  TRr D F ρ {ts.zeb D (TV.frz D s m z)with o:=(s,TO.gone)::(ts.zeb D (TV.frz D s m z)).o} ⟨O,⟨F.lv,L',σ.H.E⟩,[],σ.e0⟩:=by
 have h4:∀b o,fnd ((s,TO.gone)::(ts.zeb D (TV.frz D s m z)).o) b=some o->(b=s∧o = .gone)∨(b≠s∧∃o',fnd ts.o b=some o'∧o=TO.map D (TV.frz D s m z) o'):=λb o h=>by
  rw[yzc]at h;split at h
  ·rename_i e;injection h with h;exact .inl ⟨e.symm,h.symm⟩
  ·rename_i e;simp only[TS.zeb]at h;rw[znf (TO.map D (TV.frz D s m z)),Qaf]at h;have⟨o',p,B⟩:=h;exact .inr ⟨λe'=>e e'.symm,o',p,B.symm⟩
 have R:∀o:TO D.T,(TO.map D (TV.frz D s m z) o).live->o.live:=λo h=>by cases o <;> first|exact h|trivial
 have N:∀b o,fnd ((s,TO.gone)::(ts.zeb D (TV.frz D s m z)).o) b=some o->o.live->b≠s∧∃o',fnd ts.o b=some o'∧o'.live∧o=TO.map D (TV.frz D s m z) o':=λb o h X=>by
  rcases h4 b o h with ⟨_,rfl⟩|⟨p,o',B,rfl⟩
  ·exact X.elim
  ·exact⟨p,o',B,R o' X,rfl⟩
 refine⟨A.nx,c1.length.symm.trans A.nt,λj x W =>?_,λb o h =>?_,λI s2 Y o2 C h7 i p B Z l2 U r2 =>?_,λI Y C i p Z U =>?_,rfl,A.E,A.e0,(by simp only[TS.zeb,ha,List.map_nil];rfl),λi hi =>?_,A.pin,λI Y C i p Z U k1 =>?_,λi I v p B=>yvt (f:=TV.frz D s m z) (λs0 b e u hu=>by
  cases m with
  |true=>simp only[TV.frz,TV.own.injEq]at e;subst e;exact hu
  |false=>
   simp only[TV.frz]at e;split at e
   ·exact(hz _ e).elim
   ·simp only[TV.own.injEq]at e;subst e;exact hu) (λs0 e=>A.g i s0 v e B) p⟩
 ·simp only[TS.zeb]at W;rw[znf (TV.frz D s m z),Qaf]at W;obtain⟨y,hy,rfl⟩:=W;have⟨u,K,e2⟩:=A.tm j y hy;have h5:j<O.length:=by rw[<-c1.length];exact(Qaa.1 K).1
  exact⟨O[j],Qab h5,c2 j y _ (by simpa using hy) (Qab h5)⟩
 ·rcases h4 b o h with ⟨rfl,rfl⟩|⟨p,o',B,rfl⟩
  ·exact⟨sl,k1,by simp only[OR]⟩
  ·have⟨sl',m1,w⟩:=A.ob b o' B;refine⟨sl',m1,?_⟩;by_cases X:o'.live
   ·cases J:sl'.k with
    |some i=>
     have⟨ao,n1,n2⟩:=a4 b o' sl' i (by rw[<-A.nx];exact(Qaa.1 m1).1) p B X m1 J
     exact n2 L' (d1 _ n1) λj W=>d5 b o' sl' j p B X m1 W
    |none=>
     cases o' with
     |cells cs=>simp only[OR]at w;have⟨i,_,e,_⟩:=w;rw[J]at e;cases e
     |acc Q hc h6 w'=>simp only[OR,J]at w;simp only[TO.map,OR,J];exact w
     |siter l hd=>simp only[OR]at w;have⟨i,e,_⟩:=w;rw[J]at e;cases e
     |mp Q O hb=>simp only[OR]at w;have⟨i,_,e,_⟩:=w;rw[J]at e;cases e
     |mit O last hb=>simp only[OR]at w;have⟨i,_,_,e,_⟩:=w;rw[J]at e;cases e
     |bld Q b'=>simp only[OR]at w;have⟨i,_,_,e,_⟩:=w;rw[J]at e;cases e
     |gone=>simp only[TO.map,OR]
     |deep Q q' h6 h'=>
      simp only[OR,J]at w;obtain⟨K,e2,e3,e4,rfl⟩:=w;simp only[TO.map,OR,J];exact⟨K,e2,e3,e4,trivial⟩
   ·cases o' with
    |gone=>simp only[TO.map,OR]
    |_=>exact(X trivial).elim
 ·have⟨_,G,K,f1,_⟩:=N I Y p Z;have⟨_,h8,e2,f2,_⟩:=N s2 o2 B l2;exact A.inj I s2 G h8 C h7 i K e2 f1 f2 U r2
 ·have⟨_,G,K,f1,_⟩:=N I Y p Z;exact A.mine I G C i K f1 U
 ·have⟨p,B⟩:=A.out i hi;exact⟨by show i<L'.length;rw[d3];exact p,(d4 i hi).trans B⟩
 ·have⟨h9,G,K,f1,_⟩:=N I Y p Z;have hq:=A.fpl I G C i K f1 U k1;exact⟨hq.1,by show ∃a,L'[i]? = _;rw[d5 I G C i h9 K f1 U k1];exact hq.2⟩
def y4w(hD:D.Ok P){s:Nat}{h6:TS D.T}(b:TRr D F ρ ts σ)(h:ts.freeze D s=some h6):∃τ,zwk σ τ∧TRr D F ρ h6 τ:=by
 unfold TS.freeze at h;split at h
 ·rename_i ty t xs w U Y;cases h;have h4:σ.d=[]:=by have:=b.d;rw[U]at this;exact this
  have⟨sl,K,k2⟩:=b.ob s _ Y;have hh:=k2;simp only[OR]at k2;have⟨q1,q2,X⟩:=k2;have hg:s<ρ.length:=(Qaa.1 K).1
  have hr:VR D ρ F.lv (.sl t xs 0) (.sl (D.len t) sl.ws false):=by
   simp only[VR];exact⟨.sl t xs sl.ws false q1 q2,by omega,by omega⟩
  have⟨os,h7,a1,a2,Z,a4⟩:=y44 b (s:=s) (m:=false) (z:=.sl t xs 0) (v0:=sl.v) (λq h=>by cases h) (λv h=>by
   simp only[VR]at h;have⟨q,B,N,_⟩:=h;rw[K]at B;cases B;exact N) hr ts.nx
  have h9:zc3 F.lv σ.H.L [⟨ty,D.len t,sl.v,sl.ws,w⟩] os:=by
   refine⟨⟨[sl.k],rfl,λj k a hj ha =>?_,λi j n I hj =>?_,λp G=>⟨(Z p G).1,λj hj =>?_⟩⟩,a2⟩
   ·cases j with
    |zero=>
     simp at hj ha;subst hj;subst ha
     cases hk:sl.k with
     |none=>rw[hk]at X;exact X.imp id λq=>⟨q.1.1,q.2⟩
     |some i=>rw[hk]at X;have⟨h5,cp,B,N⟩:=X;exact⟨h5,cp,B,N⟩
    |succ j=>simp at hj
   ·cases i <;> cases j <;> simp at I hj <;> rfl
   ·have⟨_,g,o,sl',b2,W,Q,O,C,J⟩:=Z p G
    cases j with
    |zero=>
     simp at hj
     exact W (b.inj g s o _ sl' sl p.1 Q Y O trivial C K (.inl J) (.inl hj))
    |succ j=>simp at hj
  have⟨t',c1,c2⟩:=y5h (s:=s) (m:=false) (z:=.sl t xs 0) (v0:=sl.v) (λv h=>by
   simp only[VR]at h;have⟨q,B,N,_⟩:=h;rw[K]at B;cases B;exact N) hr (fnd ts.t) σ.t 0 λj x v hx hv=>by
   have⟨u,B,N⟩:=b.tm j x (by simpa using hx)
   rw[hv]at B;cases B;exact N
  have⟨L',⟨d1,d2⟩,d3,d4⟩:=h9.yw1 (j:=0) rfl c1 a1 σ.H.E σ.e0
  have hσ:σ=⟨σ.t,⟨F.lv,σ.H.L,σ.H.E⟩,[],σ.e0⟩:=by
   have B:=b.lv;have N:=h4;have⟨t,⟨l,L,E⟩,d,e0⟩:=σ;simp only at B N;subst B;subst N;rfl
  rw[<-hσ]at d2;refine⟨_,d2,?_⟩
  have h3:∀g o sl' i,g≠s->fnd ts.o g=some o->o.live->ρ[g]? = some sl'->i∈sl'.fp->L'[i]? = σ.H.L[i]? := λg o' sl' i h2 y A r I=>by
   have⟨f1,f2⟩:=b.fpl g o' sl' i y A r I;refine d4 i (b.lt y A r (.inr I)) (λp G e =>?_) λh5 n e =>?_
   ·have⟨_,s2,o2,h1,b2,W,Q,O,C,J⟩:=Z p G;have:=b.inj s2 g o2 o' h1 sl' i Q y O A C r (.inl (by rw[J,e])) (.inr I);subst this
    rw[r]at C;cases C
    exact f1 (by rw[J,e])
   ·cases hk:sl.k with
    |none=>rw[hk]at X;rcases X with ⟨q,_⟩|⟨⟨q,_⟩,_⟩ <;> (rw[e]at q;cases q)
    |some j=>
     rw[hk]at X;have⟨h8,cp,q,_⟩:=X
     rw[e]at q;injection q with _ q;subst q
     exact h2 (b.inj g s o' _ sl' sl i y Y A trivial r K (.inr I) (.inl hk))
  refine ybu b (λq h=>by cases h) K U a4 c1 c2 (λp' he=>d1.accs.get (by exact he)) d3 (λi I =>?_) h3;refine d4 i (b.out i I).1 (λp G e =>?_) λh5 n e =>?_
  ·have⟨_,g,o,sl',b2,W,Q,O,C,J⟩:=Z p G;exact b.mine g o sl' i Q O C (.inl (by rw[J,e])) I
  ·cases hk:sl.k with
   |none=>rw[hk]at X;rcases X with ⟨q,_⟩|⟨⟨q,_⟩,_⟩ <;> (rw[e]at q;cases q)
   |some j=>
    rw[hk]at X;have⟨h8,cp,q,_⟩:=X
    rw[e]at q;injection q with _ q;subst q
    exact b.mine s _ sl i Y trivial K (.inl hk) I
 ·rename_i ty q xs U Y;cases h;have h4:σ.d=[]:=by have:=b.d;rw[U]at this;exact this
  have⟨sl,K,k2⟩:=b.ob s _ Y;have⟨u,u1,u2⟩:=(you k2).seeH (R:=(· ∈ sl.all)) (λi I=>I)
  have hr:VR D ρ F.lv (.sl (.st q) xs 0) u:=by
   simp only[VR];exact⟨u1,by omega,by omega⟩
  have hit:∀v,VR D ρ F.lv (match false with|true=>TV.map s|false=>TV.own s:TV D.T) v->v=sl.v:=λv h=>by
   simp only[VR]at h;have⟨q,B,N,_⟩:=h;rw[K]at B;cases B;exact N
  have⟨os,h7,a1,a2,Z,a4⟩:=y44 b (s:=s) (m:=false) (z:=.sl (.st q) xs 0) (v0:=sl.v) (λq h=>by cases h) hit hr ts.nx
  have⟨t',c1,c2⟩:=y5h (s:=s) (m:=false) (z:=.sl (.st q) xs 0) (v0:=sl.v) hit hr (fnd ts.t) σ.t 0 λj x v hx hv=>by
   have⟨u,B,N⟩:=b.tm j x (by simpa using hx)
   rw[hv]at B;cases B;exact N
  have hd:VH σ.H.lv σ.H.L (· ∈ sl.all) sl.v u:=by rw[b.lv];exact u2
  have⟨d1,d2,d3⟩:=yx6 h4 hd a2 a1 (λp G=>⟨(Z p G).1,λhm=>by
   have⟨_,g,o,sl',b2,W,Q,O,C,J⟩:=Z p G
   exact W (b.inj g s o _ sl' sl p.1 Q Y O trivial C K (.inl J) (Slot.zyz.1 hm))⟩) c1
  rw[b.lv]at d1;refine⟨_,d1,?_⟩
  have h3:∀g o sl' n,g≠s->fnd ts.o g=some o->o.live->ρ[g]? = some sl'->n∈sl'.fp->_:=λg o' sl' n h2 y A r I=>by
   have⟨f1,f2⟩:=b.fpl g o' sl' n y A r I;refine d3 n (b.lt y A r (.inr I)) (λhm =>?_) λp G e =>?_
   ·exact h2 (b.inj g s o' _ sl' sl n y Y A trivial r K (.inr I) (Slot.zyz.1 hm))
   ·have⟨_,s2,o2,h1,b2,W,Q,O,C,J⟩:=Z p G;have:=b.inj s2 g o2 o' h1 sl' n Q y O A C r (.inl (by rw[J,e])) (.inr I);subst this
    rw[r]at C;cases C
    exact f1 (by rw[J,e])
  refine ybu b (λq h=>by cases h) K U a4 c1 c2 d2 (y04 _ _ _) (λn hn =>?_) h3;refine d3 n (b.out n hn).1 (λhm =>?_) λp G e =>?_
  ·exact b.mine s _ sl n Y trivial K (Slot.zyz.1 hm) hn
  ·have⟨_,g,o,sl',b2,W,Q,O,C,J⟩:=Z p G;exact b.mine g o sl' n Q O C (.inl (by rw[J,e])) hn
 ·rename_i ty t es U Y;split at h
  case isFalse=>cases h
  rename_i hf;cases h;have h4:σ.d=[]:=by have:=b.d;rw[U]at this;exact this
  have⟨sl,K,k2⟩:=b.ob s _ Y;simp only[OR]at k2;have⟨i,ms,q1,hc,q4,X⟩:=k2;have q2:=hf;have hr:VR D ρ F.lv (.mc t es) (.mapc (es.map λp=>(.str p.1,ya6 t p.2))):=by unfold VR;exact⟨q2,rfl⟩
  have hit:∀v,VR D ρ F.lv (match true with|true=>TV.map s|false=>TV.own s:TV D.T) v->v = .map F.lv i:=λv h=>by
   simp only[VR]at h;have⟨q,i',B,N,e3⟩:=h;rw[K]at B;cases B;rw[q1]at N;cases N;exact e3
  have⟨os,h7,a1,a2,Z,a4⟩:=y44 b (s:=s) (m:=true) (z:=.mc t es) (λq h=>by cases h) hit hr ts.nx
  have⟨t',c1,c2⟩:=y5h (s:=s) (m:=true) (z:=.mc t es) hit hr (fnd ts.t) σ.t 0 λj x v hx hv=>by
   have⟨u,B,N⟩:=b.tm j x (by simpa using hx)
   rw[hv]at B;cases B;exact N
  rw[<-b.lv]at a1 c1
  have hb:σ.H.L[i]? = some (some (.map ((es.map λp=>((.str p.1:PV),ya6 t p.2)).map λp=>(p.1.v,p.2.v)))):=by
   rw[X,List.map_map,hc,List.map_map]
   congr 3
   exact List.map_congr_left λp G=>by show _=(V.str p.1,(ya6 t p.2.1).v);rw[z04b D q2,DR.flat q2 (q4 p G)]
  have⟨d1,d2,d3⟩:=yyf hb h4 a2 a1 (λp G=>⟨(Z p G).1,λe=>by
   have⟨_,g,o,sl',b2,W,Q,O,C,J⟩:=Z p G
   exact W (b.inj g s o _ sl' sl p.1 Q Y O trivial C K (.inl J) (.inl (by rw[e];exact q1)))⟩) c1
  rw[b.lv]at d1;refine⟨_,d1,?_⟩
  have h3:∀g o sl' n,g≠s->fnd ts.o g=some o->o.live->ρ[g]? = some sl'->n∈sl'.fp->_:=λg o' sl' n h2 y A r I=>by
   have⟨f1,f2⟩:=b.fpl g o' sl' n y A r I;refine d3 n (b.lt y A r (.inr I)) (λe =>?_) λp G e =>?_
   ·subst e;exact h2 (b.inj g s o' _ sl' sl n y Y A trivial r K (.inr I) (.inl q1))
   ·have⟨_,s2,o2,h1,b2,W,Q,O,C,J⟩:=Z p G;have:=b.inj s2 g o2 o' h1 sl' n Q y O A C r (.inl (by rw[J,e])) (.inr I);subst this
    rw[r]at C;cases C
    exact f1 (by rw[J,e])
  refine ybu b (λq h=>by cases h) K U a4 c1 c2 d2 (zlp _ _ _) (λn hn =>?_) h3;refine d3 n (b.out n hn).1 (λe =>?_) λp G e =>?_
  ·subst e;exact b.mine s _ sl n Y trivial K (.inl q1) hn
  ·have⟨_,g,o,sl',b2,W,Q,O,C,J⟩:=Z p G;exact b.mine g o sl' n Q O C (.inl (by rw[J,e])) hn
 ·cases h
end
section
variable {P:Program}{D:Dat}{F:Fr}{ρ:List Slot}{ts:TS D.T}{σ:St}{lv:Nat}
def zol{α:Type}:∀(a b:List (Nat×α)) (j:Nat),fnd (a++b) j=match fnd a j with|some x=>some x|none=>fnd b j
 |[],b,j=>rfl
 |(i,x)::a,b,j=>by
  rw[List.cons_append,yzc,yzc];split
  ·rfl
  ·exact zol a b j
def yet{T:Nat->Type}:∀(b:List (TO T)) (n s:Nat) (o:TO T),fnd (ylx b n) s=some o->∃a,s=n+a∧b[a]? = some o
 |[],n,s,o,h=>by cases h
 |t::r,n,s,o,h=>by
  simp only[ylx,yzc]at h;split at h
  ·rename_i e;cases h;subst e;exact⟨0,rfl,rfl⟩
  ·have⟨a,g,d⟩:=yet r (n+1) s o h;exact⟨a+1,by omega,by simpa using d⟩
def y80{T:Nat->Type}:∀(l:List Nat) (s:Nat) (o:TO T),fnd (y3x l) s=some o->o = .gone∧s∈l
 |[],s,o,h=>by cases h
 |t::r,s,o,h=>by
  simp only[y3x,List.map_cons,yzc]at h;split at h
  ·rename_i e;cases h;subst e;exact⟨rfl,Qak⟩
  ·have⟨b,a⟩:=y80 r s o h;exact⟨b,Qai _ a⟩
def y51{T:Nat->Type}:∀(l:List Nat) (s:Nat),fnd (y3x (T:=T) l) s=none->s∉l
 |[],s,h=>by simp
 |t::r,s,h=>by
  simp only[y3x,List.map_cons,yzc]at h;split at h
  ·cases h
  ·rename_i e;intro hm
   rcases Qbl.1 hm with rfl|hm
   ·exact e rfl
   ·exact y51 r s h hm
def TRr.zha(z:TRr D F ρ ts σ)(r:List Nat)(hold:∀s∈r,∃o sl,fnd ts.o s=some o∧o.live∧ρ[s]? = some sl)(news:List (TO D.T×Slot))(H':Heap)(ha:H'.lv=F.lv)(hE:H'.E=F.E)(hlen:σ.H.L.length<=H'.L.length)
  (hL:∀i,i<σ.H.L.length->(∀s∈r,∀sl,ρ[s]? = some sl->¬sl.has i)->H'.L[i]? = σ.H.L[i]?)
  (X:∀p∈news,∀i,p.2.has i->σ.H.L.length<=i∨∃s∈r,∃sl,ρ[s]? = some sl∧sl.has i)
  (h8:∀(a b:Nat) (p Q:TO D.T×Slot) (i:Nat),news[a]? = some p->news[b]? = some Q->p.2.has i->Q.2.has i->a=b)
  (h9:∀p∈news,OR D (ρ++news.map (·.2)) F.lv H'.L p.2 p.1)
  (hb:∀p∈news,∀i∈p.2.fp,p.2.k≠some i∧∃a,H'.L[i]? = some (some a)) :
  TRr D F (ρ++news.map (·.2)) (ts.zha r (news.map (·.1))) {σ with H:=H'}:=by
 have kinds:∀s o,fnd (ts.zha r (news.map (·.1))).o s=some o->(∃a p,s=ts.nx+a∧news[a]? = some p∧p.1=o)∨(o = .gone∧s∈r)∨(s∉r∧fnd ts.o s=some o):=λs o h=>by
  simp only[TS.zha]at h;rw[zol]at h;split at h
  ·rename_i o' h5;cases h;have⟨a,u,w⟩:=yet _ _ _ _ h5;rw[Qan,Qaf]at w;have⟨p,h3,h4⟩:=w;exact .inl ⟨a,p,u,h3,h4⟩
  ·rw[zol]at h;split at h
   ·rename_i o' h5;cases h;exact .inr (.inl (y80 _ _ _ h5))
   ·rename_i hn;exact .inr (.inr ⟨y51 _ _ hn,h⟩)
 have l:∀(a:Nat) (p:TO D.T×Slot),news[a]? = some p->(ρ++news.map (·.2))[ts.nx+a]? = some p.2:=λa p h=>by
  rw[<-z.nx,Qav (by omega),show ρ.length+a-ρ.length=a by omega,Qan,h];rfl
 have e:∀s o sl,fnd ts.o s=some o->(ρ++news.map (·.2))[s]? = some sl->ρ[s]? = some sl:=λs o sl K h=>by
  have⟨q,u,w⟩:=z.ob s o K;rw[lookup_append u]at h;rw[u,h]
 have apart:∀s o sl i,fnd ts.o s=some o->o.live->s∉r->ρ[s]? = some sl->sl.has i->∀C∈r,∀A,ρ[C]? = some A->¬A.has i:=λs o sl i K Y h6 hs hk C R A u w=>by
  have⟨o0,h7,O,U,e3⟩:=hold C R
  rw[u]at e3;cases e3
  have:=z.inj s C o o0 sl A i K O Y U hs u hk w;subst this;exact h6 R
 have mem:∀{a:Nat}{p:TO D.T×Slot},news[a]? = some p->p∈news:=λh=>Qax h
 have B:∀(a:Nat) (p:TO D.T×Slot) s o sl i,news[a]? = some p->p.2.has i->fnd ts.o s=some o->o.live->s∉r->ρ[s]? = some sl->sl.has i->False:=λa p s o sl i hp Z K Y h6 hs hk=>by
  rcases X p (mem hp) i Z with h|⟨C,R,A,u,w⟩
  ·have:=z.lt K Y hs hk;omega
  ·exact apart s o sl i K Y h6 hs hk C R A u w
 refine⟨by simp[TS.zha,z.nx],z.nt,λj x hj =>?_,λs o K =>?_,λs s' o o' sl sl' i u w J l2 G r2 I k2 =>?_,λs o sl i u J G I =>?_,ha,hE,z.e0,z.d.more _,λi Z =>?_,λj sl hj=>lookup_append (z.pin j sl hj),λs o sl i u J G I =>?_,λi s v u w=>(z.g i s v u w).more _⟩
 ·have⟨v,u,w⟩:=z.tm j x hj;exact⟨v,u,w.more _⟩
 ·rcases kinds s o K with ⟨a,p,rfl,w,rfl⟩|⟨rfl,u⟩|⟨u,w⟩
  ·exact⟨p.2,l a p w,h9 p (mem w)⟩
  ·have⟨o0,sl,O,U,e3⟩:=hold s u;exact⟨sl,lookup_append e3,by simp only[OR]⟩
  ·have⟨q,O,U⟩:=z.ob s o w;exact⟨q,lookup_append O,U.mono _ λi Z Y=>hL i (z.lt w Y O Z) (apart s o q i w Y u O Z)⟩
 ·rcases kinds s o u with ⟨a,p,rfl,y,rfl⟩|⟨rfl,W⟩|⟨W,y⟩
  ·rw[l a p y]at G;cases G
   rcases kinds s' o' w with ⟨b,Q,rfl,N,rfl⟩|⟨rfl,b1⟩|⟨b1,N⟩
   ·rw[l b Q N]at r2;cases r2
    rw[h8 a b p Q i y N I k2]
   ·exact l2.elim
   ·exact(B a p s' o' sl' i y I N l2 b1 (e _ _ _ N r2) k2).elim
  ·exact J.elim
  ·rcases kinds s' o' w with ⟨b,Q,rfl,N,rfl⟩|⟨rfl,b1⟩|⟨b1,N⟩
   ·rw[l b Q N]at r2;cases r2
    exact(B b Q s o sl i N k2 y J W (e _ _ _ y G) I).elim
   ·exact l2.elim
   ·exact z.inj s s' o o' sl sl' i y N J l2 (e _ _ _ y G) (e _ _ _ N r2) I k2
 ·rcases kinds s o u with ⟨a,p,rfl,y,rfl⟩|⟨rfl,W⟩|⟨W,y⟩
  ·rw[l a p y]at G;cases G
   intro K
   rcases X p (mem y) i I with h|⟨C,R,A,h3,h4⟩
   ·have:=(z.out i K).1;omega
   ·have⟨o0,h7,O,U,e3⟩:=hold C R;exact z.mine C o0 A i O U h3 h4 K
  ·exact J.elim
  ·exact z.mine s o sl i y J (e _ _ _ y G) I
 ·have⟨u,w⟩:=z.out i Z;refine⟨Qbj u hlen,(hL i u λC R A h3 h4 =>?_).trans w⟩;have⟨o0,h7,O,U,e3⟩:=hold C R;exact z.mine C o0 A i O U h3 h4 Z
 ·rcases kinds s o u with ⟨a,p,rfl,y,rfl⟩|⟨rfl,W⟩|⟨W,y⟩
  ·rw[l a p y]at G;cases G
   exact hb p (mem y) i I
  ·exact J.elim
  ·have q1:=e _ _ _ y G;have hq:=z.fpl s o sl i y J q1 I;refine⟨hq.1,?_⟩;show ∃a,H'.L[i]? = _;rw[hL i (z.lt y J q1 (.inr I)) (apart s o sl i y J W q1 (.inr I))];exact hq.2
end
def yt0{T:Nat->Type}{a b:DTy}{x:a.S T}{y:b.S T}(h:y4y a b x=some y):∃e:a=b,y=e▸x:=by
 unfold y4y at h;split at h
 ·rename_i e;injection h with h;exact⟨e,h.symm⟩
 ·cases h
def yvr{T:Nat->Type}:∀{l:List DTy}{x z:HL T l}{f:Nat}{t:DTy}{y:t.S T},HL.upd l x f t y=some z->∀j,HL.nth l z j=if j=f then some ⟨t,y⟩else HL.nth l x j
 |[],x,z,f,t,y,h=>by cases h
 |t0::l,x,z,0,t,y,h=>by
  unfold HL.upd at h
  cases a:y4y t t0 y with
  |none=>rw[a]at h;cases h
  |some g=>
  rw[a]at h;cases h;have⟨d,b⟩:=yt0 a;subst d;subst b;intro j
  cases j with
  |zero=>rfl
  |succ j=>rfl
 |t0::l,x,z,f+1,t,y,h=>by
  unfold HL.upd at h
  cases a:HL.upd l x.2 f t y with
  |none=>rw[a]at h;cases h
  |some e=>
  rw[a]at h;cases h;intro j
  cases j with
  |zero=>rfl
  |succ j=>
   have:=yvr a j;simp only[HL.nth,this,Nat.add_right_cancel_iff]
def z00o{T:Nat->Type}:∀(l:List DTy) (x:HL T l) (j:Nat),HL.at l x j=HL.nth l x j
 |[],_,_=>rfl
 |_::_,_,0=>rfl
 |_::l,x,j+1=>z00o l x.2 j
section
variable {P:Program}{D:Dat}{F:Fr}{ρ:List Slot}{ts:TS D.T}{σ:St}{lv:Nat}{L:List (Option yz5)}
def z037{T:Nat->Type}:∀{l:List DTy}{x z:HL T l}{f:Nat}{t:DTy}{y:t.S T},HL.upd l x f t y=some z->f<l.length
 |[],x,z,f,t,y,h=>by cases h
 |t0::l,x,z,0,t,y,h=>by simp
 |t0::l,x,z,f+1,t,y,h=>by
  unfold HL.upd at h
  cases a:HL.upd l x.2 f t y with
  |none=>rw[a]at h;cases h
  |some b=>have:=z037 a;simp;omega
def yoz{α:Type}{l:List α}{n:Nat}{a:α}(h:l[n]? = some a):l.set n a=l:=by
 apply List.ext_getElem?;intro i;rw[Qbi];split
 ·rename_i e;subst e;rw[Qbx (Qaa.1 h).1,h]
 ·rfl
def yke(hD:D.Ok P)(B:TRr D F ρ ts σ){s c ty q f:Nat}{n:Int}{xs:List (D.T q)}(hs:fnd ts.o s=some (.deep ty q xs (some (n,f,c)))){o:TO D.T}(hc:fnd ts.o c=some o)(J:o.live)(h9:c≠s){Z:Nat}{t':DTy}{ys:List (t'.S D.T)}(h8:D.ow q f=some Z)
  {l:Slot} (g:ρ[c]? = some l) {d:List Nat}(hg:DO D F.lv σ.H.L (.own Z) (.sl t') ys l.v d) (r:∀i∈d,l.has i) (hd:d.Nodup) {y:D.T q}{z:HL D.T (D.fl q)}(hy:ix xs n=some y) (hz:HL.upd (D.fl q) (D.get q y) f (.sl t') ys=some z) :
  ∃ρ',TRr D F ρ' ((ts.zha [s,c] [.deep ty q (xs.set n.toNat (D.make q z)) none]).zeb D (TV.ren D s ts.nx)) σ:=by
 have⟨sl,X,k2⟩:=B.ob s _ hs;simp only[OR]at k2;have⟨q1,q3⟩:=k2
 cases hk:sl.k with
 |none=>rw[hk]at q3;cases q3.2.2.2
 |some j=>
 rw[hk]at q3;have⟨h6,cp,fps,e1,e2,e3,e4,e5,e6,e7⟩:=q3;have⟨p1,p2⟩:=zld hy;have he:n.toNat<xs.length:=(Qaa.1 p2).1;have hw:sl.ws[n.toNat]? = some (sl.ws[n.toNat]'(by omega)):=Qab (by omega);have K:fps[n.toNat]? = some (fps[n.toNat]'(by omega)):=Qab (by omega);have⟨vs,cs,b1,b2,b3,b4,b5⟩:=e6 n.toNat y _ _ p2 hw K;have hf:=z037 hz
 have⟨pf,h7,_⟩:=HL.zmb (D.fl q) (D.get q y) f hf;have hu:vs[f]? = some (vs[f]'(by omega)):=Qab (by omega);have hb:cs[f]? = some (cs[f]'(by omega)):=Qab (by omega);have hole:=b5 f pf _ _ h7 hu hb;rw[show z2a (some (n,f,c)) n.toNat f=some c by simp[z2a]]at hole;have⟨g1,g2,g3,hj,g4,g5⟩:=hole
 rw[g]at g4;cases g4
 rw[g1]at hb;rw[g5]at hu;have h3:(cs.set f d)[f]? = some d:=Qaq (by omega);have Q:(cs.set f d).set f []=cs:=by rw[List.set_set];exact yoz hb
 have O:(cs.set f d).flatten.Perm (d++cs.flatten):=by
  have:=zdh (cs.set f d) f d d [] h3 (by simp);rw[Q]at this;exact this
 rw[b4]at K;have W:(fps.set n.toNat (cs.set f d).flatten)[n.toNat]? = some (cs.set f d).flatten:=Qaq (by omega)
 have u:(fps.set n.toNat (cs.set f d).flatten).flatten.Perm (d++sl.fp):=by
  have:=zdh _ n.toNat _ d cs.flatten W O;rw[List.set_set,yoz K,<-e4]at this;exact this
 have C:∀i,i∈(fps.set n.toNat (cs.set f d).flatten).flatten->i∈d∨i∈sl.fp:=λi hi=>Qbb.1 (u.mem_iff.1 hi)
 have h4:∀i,l.has i->sl.has i->False:=λi h1 h2=>h9 (B.inj c s o _ l sl i hc hs J trivial g X h1 h2)
 let sl':Slot:=⟨sl.v,sl.k,sl.ws,(fps.set n.toNat (cs.set f d).flatten).flatten⟩
 have hT:=B.zha [s,c] (λs0 h0=>by
  rcases Qbl.1 h0 with rfl|h0
  ·exact⟨_,sl,hs,trivial,X⟩
  ·rcases Qbl.1 h0 with rfl|h0
   ·exact⟨o,l,hc,J,g⟩
   ·cases h0) [((.deep ty q (xs.set n.toNat (D.make q z)) none:TO D.T),sl')] σ.H B.lv B.E (Qbw _) (λ_ _ _=>rfl)
  (λp hp i hi=>by
   rcases Qbl.1 hp with rfl|hp
   ·rcases hi with hi|hi
    ·exact .inr ⟨s,Qak,sl,X,.inl hi⟩
    ·rcases C i hi with hi|hi
     ·exact .inr ⟨c,Qai _ Qak,l,g,r i hi⟩
     ·exact .inr ⟨s,Qak,sl,X,.inr hi⟩
   ·cases hp)
  (λa b p U i ha N _ _=>by
   have h1:=(Qaa.1 ha).1;have h2:=(Qaa.1 N).1
   simp at h1 h2;omega)
  (λp hp=>by
   rcases Qbl.1 hp with rfl|hp
   ·simp only[OR];refine⟨by simpa using q1,?_⟩;show(match sl.k with|none=>_|some j=>_);rw[hk];refine⟨h6,cp,fps.set n.toNat (cs.set f d).flatten,e1,e2,by simpa using e3,rfl,?_,λm x w' c' m1 m2 m3 =>?_,λ_ _ _ h=>by cases h⟩
    ·refine u.nodup_iff.2 (List.nodup_append.2 ⟨hd,e5,λa ha b N e =>?_⟩);subst e;exact h4 a (r a ha) (.inr N)
    ·by_cases hm:n.toNat=m
     ·subst hm
      rw[Qaq he]at m1;cases m1
      rw[W]at m3;cases m3
      have w:sl.ws[n.toNat]? = some w':=m2
      rw[hw]at w;injection w with w
      refine⟨vs,cs.set f d,w.symm.trans b1,b2,by simpa using b3,rfl,λI U u' b' G Y R =>?_⟩;show DO D F.lv σ.H.L (yxb (D.ow q I)) U.1 U.2 u' b';rw[hD.getMake,yvr hz]at G;by_cases A:I=f
      ·subst A
       rw[Qbx rfl]at G;cases G
       rw[hu]at Y;cases Y
       rw[h3]at R;cases R
       rw[h8];exact hg
      ·rw[Qby A]at G;rw[Qam (λe=>A e.symm)]at R;have:=b5 I U u' b' G Y R;rw[show z2a (some (n,f,c)) n.toNat I=none by simp[z2a];exact λe=>A e.symm]at this;exact this
     ·rw[Qam hm]at m1;rw[Qam hm]at m3;have⟨h5,hh,d1,d2,d3,d4,d5⟩:=e6 m x w' c' m1 m2 m3;refine⟨h5,hh,d1,d2,d3,d4,λI U u' b' G Y R =>?_⟩;have:=d5 I U u' b' G Y R;rw[show z2a (some (n,f,c)) m I=none by simp[z2a];exact λe=>(hm e).elim]at this;exact this
   ·cases hp)
  (λp hp i hi=>by
   rcases Qbl.1 hp with rfl|hp
   ·rcases C i hi with hi|hi
    ·refine⟨λe=>h4 i (r i hi) (.inl e),?_⟩;exact B.at hc J g (r i hi)
    ·exact B.fpl s _ sl i hs trivial X hi
   ·cases hp)
 refine⟨_,hT.zeb (TV.ren D s ts.nx) λx v h=>VR.ren (sl:=sl) (sl':=sl') (lookup_append X) ?_ rfl h⟩;rw[<-B.nx];simp
def TRr.yxi(i:TRr D F ρ ts σ){s:Nat}{o:TO D.T}{sl:Slot}(b:fnd ts.o s=some o)(e:o.live)(h:ρ[s]? = some sl)(a:sl.fp.Nodup):sl.all.Nodup:=by
 unfold Slot.all
 cases g:sl.k with
 |none=>simpa using a
 |some j=>
  show(j::sl.fp).Nodup;refine List.nodup_cons.2 ⟨λd =>?_,a⟩;exact(i.fpl s o sl j b e h d).1 g
def yd6{R:Type}(hD:D.Ok P)(o:TRr D F ρ ts σ){s:Nat}{k:TS D.T->Option R}{r:R}(h:ts.fold D s k=some r):∃b ρ',TRr D F ρ' b σ∧k b=some r∧b.t=ts.t.map (λp=>(p.1,TV.ren D s ts.nx p.2))∧b.nt=ts.nt:=by
 unfold TS.fold at h;split at h
 ·rename_i ty q xs n f c K;split at h
  ·rename_i X u;split at h
   ·rename_i I Z O g;split at h
    ·rename_i e;obtain⟨rfl,d⟩:=e;have⟨y,G,h⟩:=z3h h;split at h
     ·rename_i z E;have⟨a,C,B⟩:=o.ob c _ g
      have Q:a.fp.Nodup:=by
       have N:=B;simp only[OR]at N;have A:=N.2
       cases x:a.k with
       |none=>rw[x]at A;rw[A.2.2.1];exact List.nodup_nil
       |some j=>rw[x]at A;have⟨_,_,_,_,_,_,_,U,_⟩:=A;exact U
      have⟨ρ',w⟩:=yke hD o K g trivial d u C (you B) (λi l=>Slot.zyz.1 l) (o.yxi g trivial C Q) G E;exact⟨_,ρ',w,h,rfl,rfl⟩
     ·cases h
    ·cases h
   ·rename_i I Y O g;split at h
    ·rename_i e;obtain⟨rfl,d,J⟩:=e;have⟨y,G,h⟩:=z3h h;split at h
     ·rename_i z E;have⟨a,C,B⟩:=o.ob c _ g;have⟨ρ',w⟩:=yke hD o K g trivial d u C (z06e B J) (λi l=>.inl (by cases x:a.k <;> rw[x]at l <;> simp at l;rw[l])) (by cases a.k <;> simp) G E;exact⟨_,ρ',w,h,rfl,rfl⟩
     ·cases h
    ·cases h
   ·cases h
  ·cases h
 ·cases h
end
section
variable {P:Program}{D:Dat}{F:Fr}{ρ:List Slot}{ts:TS D.T}{σ:St}{lv:Nat}{L:List (Option yz5)}
def yro{t:DTy}{x:t.S D.T}{w:V}{c:List Nat}(h:DO D lv L .el t x w c)(d:D.zqv t=true):DR D t x w:=by
 cases h with
 |elf _ h=>exact h
 |el e l h=>
  rename_i i y vs cs;refine .st _ _ _ e λf p u a k =>?_
  have g:f<(D.fl i).length:=(HL.zfq _ _ _ _ a).1;obtain⟨b,j⟩:∃b,cs[f]? = some b:=⟨_,Qab (show f<cs.length by omega)⟩;have:=h f p u b a k j;rw[y2w d i f g rfl]at this
  cases this with
  |dat h=>exact h
def yso{q:Nat}{x:D.T q}{w:V}{c:List Nat}(h:DO D lv L .el (.st q) x w c)(d:D.owns q=true)(ρ:List Slot)(n:Nat):EO D ρ lv L q none n x w c:=by
 cases h with
 |elf a h=>
  simp only[Dat.owns,List.any_eq_true,List.mem_range]at d;have⟨f,i,e⟩:=d
  rw[a q f i rfl]at e;cases e
 |el g j h=>exact⟨_,_,rfl,g,j,rfl,λf p u b a l k=>h f p u b a l k⟩
def yyt{ty:Nat}{t:DTy}{xs:List (t.S D.T)}{v:V}{e:List Nat}(h:DO D lv L (.own ty) (.sl t) xs v e)(s:D.zqv t=true)(g:t ≠ .int .u8):∃sl:Slot,sl.v=v∧v.leaf=true∧sl.all=e∧∀ρ,OR D ρ lv L sl (.acc ty t xs true):=by
 cases h with
 |nil h b=>
  refine⟨⟨v,none,[],[]⟩,rfl,by rcases b with rfl|rfl <;> rfl,rfl,λρ =>?_⟩;unfold OR;refine⟨rfl,λj x w l=>by simp at l,?_⟩
  rcases b with rfl|rfl
  ·exact .inl ⟨rfl,rfl⟩
  ·exact .inr ⟨⟨rfl,g⟩,λ_=>rfl⟩
 |own q k o p=>
  rename_i j a u ws fps;refine⟨⟨.hs lv j a 0 ws.length false,some j,ws,fps.flatten⟩,rfl,rfl,rfl,λρ =>?_⟩;unfold OR;refine⟨k,λn x w d r =>?_,a,u,rfl,q⟩;have i:n<fps.length:=by rw[o];exact(Qaa.1 d).1
  exact yro (p n x w _ d r (Qab i)) s
def z04i{ty q:Nat}{xs:List (D.T q)}{v:V}{b:List Nat}(h:DO D lv L (.own ty) (.sl (.st q)) xs v b)(s:D.owns q=true)(e:b.Nodup):∃sl:Slot,sl.v=v∧v.leaf=true∧sl.all=b∧∀ρ,OR D ρ lv L sl (.deep ty q xs none):=by
 cases h with
 |nil h d=>
  refine⟨⟨v,none,[],[]⟩,rfl,by rcases d with rfl|rfl <;> rfl,rfl,λρ =>?_⟩;unfold OR
  exact⟨rfl,rfl,d,rfl,rfl⟩
 |own l g i k=>
  rename_i j a u ws fps;refine⟨⟨.hs lv j a 0 ws.length false,some j,ws,fps.flatten⟩,rfl,rfl,rfl,λρ =>?_⟩;unfold OR;exact⟨g,a,u,fps,rfl,l,i,rfl,(List.nodup_cons.1 e).2,λn x w c r p o=>yso (k n x w c r p o) s ρ n,λ_ _ _ h=>by cases h⟩
def ydm(hD:D.Ok P)(B:TRr D F ρ ts σ){s ty q f:Nat}{n:Int}{xs:List (D.T q)}(W:fnd ts.o s=some (.deep ty q xs none)){h3:Nat}{Y:DTy}{ys:List (Y.S D.T)}(h4:D.ow q f=some h3)
  {y:D.T q} (hy:ix xs n=some y) (hz:HL.nth (D.fl q) (D.get q y) f=some ⟨.sl Y,ys⟩) {to:TO D.T}(h8:∀v fp,DO D F.lv σ.H.L (.own h3) (.sl Y) ys v fp->fp.Nodup->∃d:Slot,d.v=v∧v.leaf=true∧d.all=fp∧∀ρ,OR D ρ F.lv σ.H.L d to) :
  ∃ρ',TRr D F ρ' ((ts.zha [s] [.deep ty q xs (some (n,f,ts.nx+1)),to]).zeb D (TV.ren D s ts.nx)) σ∧∃j r m w u,σ.H.L[j]? = some (some (.arr r ty (D.len (.st q)) m w))∧(∃sl,ρ[s]? = some sl∧sl.v = .hs F.lv j r 0 m.length false)∧(m[n.toNat]?.bind λx=>x.cells[f]?)=some u∧VR D ρ' F.lv (.own (ts.nx+1)) u:=by
 have⟨sl,K,k2⟩:=B.ob s _ W;simp only[OR]at k2;have⟨q1,q3⟩:=k2;have⟨p1,p2⟩:=zld hy;have N:n.toNat<xs.length:=(Qaa.1 p2).1
 cases hk:sl.k with
 |none=>rw[hk]at q3;rw[q3.1]at N;simp at N
 |some j=>
 rw[hk]at q3;have⟨r,cp,fps,e1,e2,e3,e4,e5,e6,e7⟩:=q3;have hw:sl.ws[n.toNat]? = some (sl.ws[n.toNat]'(by omega)):=Qab (by omega);have R:fps[n.toNat]? = some (fps[n.toNat]'(by omega)):=Qab (by omega);have⟨vs,cs,b1,b2,b3,b4,b5⟩:=e6 n.toNat y _ _ p2 hw R;have hf:=(HL.zfq _ _ _ _ hz).1
 have hu:vs[f]? = some (vs[f]'(by omega)):=Qab (by omega);have hb:cs[f]? = some (cs[f]'(by omega)):=Qab (by omega);have h6:DO D F.lv σ.H.L (yxb (D.ow q f)) (.sl Y) ys _ _:=b5 f ⟨.sl Y,ys⟩ _ _ hz hu hb;rw[h4]at h6;rw[b4]at R
 have z:sl.fp.Perm ((cs[f]'(by omega))++(fps.set n.toNat (cs.set f []).flatten).flatten):=by rw[e4];exact zdh fps n.toNat _ _ _ R (zdh cs f _ _ [] hb (by simp))
 have⟨d,c1,c2,c3,c4⟩:=h8 _ _ h6 (List.nodup_append.1 (z.nodup_iff.1 e5)).1;have l:sl.fp.Perm (d.all++(fps.set n.toNat (cs.set f []).flatten).flatten):=by rw[c3];exact z
 have h9:=l.nodup_iff.1 e5;have⟨h5,hd,hc⟩:=List.nodup_append.1 h9;have O:∀i,d.has i->i∈sl.fp:=λi h=>l.mem_iff.2 (List.mem_append_left _ (Slot.zyz.2 h))
 have J:∀i,i∈(fps.set n.toNat (cs.set f []).flatten).flatten->i∈sl.fp:=λi h=>l.mem_iff.2 (List.mem_append_right _ h)
 let sl':Slot:=⟨sl.v,sl.k,sl.ws,(fps.set n.toNat (cs.set f []).flatten).flatten⟩
 have he:∀i,i∈sl.fp->sl.k≠some i:=λi h=>(B.fpl s _ sl i W trivial K h).1
 have U:(ρ++[sl',d])[ts.nx]? = some sl':=by rw[<-B.nx];simp
 have A:(ρ++[sl',d])[ts.nx+1]? = some d:=by rw[<-B.nx,Qav (by omega)];simp
 have hT:=B.zha [s] (λs0 h0=>by
  rcases Qbl.1 h0 with rfl|h0
  ·exact⟨_,sl,W,trivial,K⟩
  ·cases h0) [((.deep ty q xs (some (n,f,ts.nx+1)):TO D.T),sl'),(to,d)] σ.H B.lv B.E (Qbw _) (λ_ _ _=>rfl)
  (λp hp i hi=>by
   refine .inr ⟨s,Qak,sl,K,?_⟩
   rcases Qbl.1 hp with rfl|hp
   ·rcases hi with hi|hi
    ·exact .inl hi
    ·exact .inr (J i hi)
   ·rcases Qbl.1 hp with rfl|hp
    ·exact .inr (O i hi)
    ·cases hp)
  (λa b p p' i I g h1 h2=>by
   have apart:sl'.has i->d.has i->False:=λh1 h2=>by
    rcases h1 with h1|h1
    ·exact he i (O i h2) h1
    ·exact hc i (Slot.zyz.2 h2) i h1 rfl
   have l1:=(Qaa.1 I).1;have l2:=(Qaa.1 g).1;simp at l1 l2
   match a,b,I,g,l1,l2 with
   |0,0,_,_,_,_=>rfl
   |1,1,_,_,_,_=>rfl
   |0,1,I,g,_,_=>simp at I g;subst I;subst g;exact(apart h1 h2).elim
   |1,0,I,g,_,_=>simp at I g;subst I;subst g;exact(apart h2 h1).elim
   |a+2,_,_,_,l1,_=>omega
   |0,b+2,_,_,_,l2=>omega
   |1,b+2,_,_,_,l2=>omega)
  (λp hp=>by
   rcases Qbl.1 hp with rfl|hp
   ·simp only[OR];refine⟨q1,?_⟩;show(match sl.k with|none=>_|some j=>_);rw[hk];refine⟨r,cp,fps.set n.toNat (cs.set f []).flatten,e1,e2,by simpa using e3,rfl,hd,λm x w' c' m1 m2 m3 =>?_,λn' C s' e =>?_⟩
    ·by_cases hm:n.toNat=m
     ·subst hm
      rw[p2]at m1;cases m1
      rw[Qaq (by omega)]at m3;cases m3
      have G:sl.ws[n.toNat]? = some w':=m2
      rw[hw]at G;injection G with G
      refine⟨vs,cs.set f [],G.symm.trans b1,b2,by simpa using b3,rfl,λC p' u' b' r1 Z X =>?_⟩;by_cases Q:C=f
      ·subst Q;rw[show z2a (some (n,C,ts.nx+1)) n.toNat C=some (ts.nx+1) by simp[z2a]]
       rw[Qaq (by omega)]at X;cases X
       rw[hu]at Z;cases Z
       exact⟨rfl,by rw[h4];rfl,c2,d,A,c1.symm⟩
      ·rw[show z2a (some (n,f,ts.nx+1)) n.toNat C=none by simp[z2a];exact λe=>Q e.symm];rw[Qam (λe=>Q e.symm)]at X;exact b5 C p' u' b' r1 Z X
     ·rw[Qam hm]at m3;have⟨h7,hg,d1,d2,d3,d4,d5⟩:=e6 m x w' c' m1 m2 m3;refine⟨h7,hg,d1,d2,d3,d4,λC p' u' b' r1 Z X =>?_⟩;rw[show z2a (some (n,f,ts.nx+1)) m C=none by simp[z2a];exact λe=>(hm e).elim];exact d5 C p' u' b' r1 Z X
    ·simp only[Qbu,Qbz]at e;obtain⟨rfl,rfl,rfl⟩:=e;exact⟨p1,N⟩
   ·rcases Qbl.1 hp with rfl|hp
    ·exact c4 _
    ·cases hp)
  (λp hp i hi=>by
   rcases Qbl.1 hp with rfl|hp
   ·exact B.fpl s _ sl i W trivial K (J i hi)
   ·rcases Qbl.1 hp with rfl|hp
    ·refine⟨λe =>?_,(B.fpl s _ sl i W trivial K (O i (.inr hi))).2⟩;have:d.all=i::d.fp:=by unfold Slot.all;rw[e];rfl
     rw[this]at h5;exact(List.nodup_cons.1 h5).1 hi
    ·cases hp)
 refine⟨_,hT.zeb (TV.ren D s ts.nx) λx v h=>VR.ren (sl:=sl) (sl':=sl') (lookup_append K) U rfl h,j,r,sl.ws,cp,vs[f]'(by omega),e2,⟨sl,K,e1⟩,?_,?_⟩
 ·rw[hw];show(sl.ws[n.toNat]'(by omega)).cells[f]? = _;rw[b1];exact hu
 ·simp only[VR];exact⟨d,A,c1.symm,c2⟩
def yxo{R:Type}(hD:D.Ok P)(J:TRr D F ρ ts σ){s f:Nat}{n:Int}{k:TV D.T->TS D.T->Option R}{r:R}(h:ts.opn D s n f k=some r) :
  ∃z ρ' ty q j a O m u,k (.own (ts.nx+1)) z=some r∧TRr D F ρ' z σ∧σ.H.L[j]? = some (some (.arr a ty (D.len (.st q)) m O))∧(∃sl,ρ[s]? = some sl∧sl.v = .hs F.lv j a 0 m.length false)∧(m[n.toNat]?.bind λx=>x.cells[f]?)=some u∧VR D ρ' F.lv (.own (ts.nx+1)) u:=by
 unfold TS.opn at h;split at h
 ·rename_i ty q xs C;split at h
  ·rename_i Q b;have⟨y,B,h⟩:=z3h h;rw[z00o]at h;split at h
   ·rename_i X N A;split at h
    ·rename_i E;have⟨ρ',o,j,a,m,w,u,l,i,g,d⟩:=ydm hD J C b B A λv K p G=>z04i p E G
     exact⟨_,ρ',ty,q,j,a,w,m,u,h,o,l,i,g,d⟩
    ·rename_i E;have⟨ρ',o,j,a,m,w,u,l,i,g,d⟩:=ydm hD J C b B A λv K p G=>yyt p (by simp[Dat.zqv,E]) (by intro e;cases e)
     exact⟨_,ρ',ty,q,j,a,w,m,u,h,o,l,i,g,d⟩
   ·rename_i U N _ A;split at h
    ·rename_i I;simp only[Qag,Bool.not_eq_true',decide_eq_false_iff_not]at I;have⟨ρ',o,j,a,m,w,u,l,i,g,d⟩:=ydm hD J C b B A λv K p G=>yyt p I.1 I.2
     exact⟨_,ρ',ty,q,j,a,w,m,u,h,o,l,i,g,d⟩
    ·cases h
   ·cases h
  ·cases h
 ·cases h
end
def z02m{T:Nat->Type}{a b:DTy}{x:a.S T}{y:b.S T}(h:y4y a b x=some y):∃e:a=b,y=e▸x:=by
 unfold y4y at h;split at h
 ·rename_i e;injection h with h;exact⟨e,h.symm⟩
 ·cases h
def HL.zpr{T:Nat->Type}:∀{a b:List DTy}(x:HL T a) (y:HL T b),HL.fst a (HL.app x y)=x
 |[],_,_,_=>rfl
 |_::_,_,x,y=>by simp only[HL.app,HL.fst];rw[HL.zpr];rfl
def HL.zr0{T:Nat->Type}:∀{a b:List DTy}(x:HL T a) (y:HL T b),HL.snd a (HL.app x y)=y
 |[],_,_,_=>rfl
 |_::_,_,x,y=>by simp only[HL.app,HL.snd];rw[HL.zr0]
section
variable (D:Dat)(n:Nat)(M:z6i D.T)(c:TV D.T)
def z03q:y9x D n .any c M = .ok (M,()):=rfl
def z060(t:DTy):y9x D n (.d t) c M=(match asD D t c with
 |.ok x=>.ok (M,(x,()))
 |.frz s=>.frz s
 |.bad=>.bad):=rfl
def z046(f:Nat)(a b:List Sh)(d:Nat)(g e:List (TV D.T)):y9x D n (.fn f a b) (.fn d g e) M=if f=d then (match y0o D n a g M with
 |.ok (M,x)=>match y0o D n b e M with
  |.ok (M,y)=>.ok (M,HL.app x y)
  |.frz s=>.frz s
  |.bad=>.bad
 |.frz s=>.frz s
 |.bad=>.bad)else .bad:=rfl
def yy8(cs:List (TV D.T))(a:Sh)(l:List Sh):y0o D n (a::l) (c::cs) M=(match y9x D n a c M with
 |.ok (M,x)=>match y0o D n l cs M with
  |.ok (M,y)=>.ok (M,HL.app x y)
  |.frz s=>.frz s
  |.bad=>.bad
 |.frz s=>.frz s
 |.bad=>.bad):=rfl
variable (m:Nat → Nat)
def z03w(f:Nat)(a b:List Sh)(x:HL D.T (Sh.z45 a))(y:HL D.T (Sh.z45 b)):zmd D m (.fn f a b) (HL.app x y) = .fn f (z41 D m a x) (z41 D m b y):=by
 show TV.fn f (z41 D m a (HL.fst _ (HL.app x y))) (z41 D m b (HL.snd _ (HL.app x y)))=_;rw[HL.zpr,HL.zr0]
def yw6(a:Sh)(l:List Sh)(x:HL D.T a.tys)(y:HL D.T (Sh.z45 l)):z41 D m (a::l) (HL.app x y)=zmd D m a x::z41 D m l y:=by
 show zmd D m a (HL.fst _ (HL.app x y))::z41 D m l (HL.snd _ (HL.app x y))=_;rw[HL.zpr,HL.zr0]
end
def zat{α:Type}:∀{l:List (Nat×α)}{j:Nat}{a:α},fnd l j=some a->(j,a)∈l
 |[],j,a,h=>by simp[fnd]at h
 |(i,b)::r,j,a,h=>by
  rw[yzc]at h;split at h
  ·rename_i e;cases h;subst e;exact Qak
  ·exact Qai _ (zat h)
section
variable {P:Program}{D:Dat}{F:Fr}{ρ:List Slot}{ts:TS D.T}{σ:St}{lv:Nat}{T:Nat → Type}
def zpn:Slot:=⟨.nils,none,[],[]⟩
def Src.is(ρ:List Slot)(sl:Slot):Src T->Prop
 |.slot s=>ρ[s]? = some sl
 |.nil=>sl=zpn
def Agr(ρ:List Slot)(M:z6i T)(ρ':List Slot):Prop:=∀(k:Nat) (src:Src T),fnd M k=some src->∃sl,ρ'[k]? = some sl∧src.is ρ sl
structure MOk(n:Nat)(M:z6i T):Prop where
 lt:∀k src,fnd M k=some src->k<n
 inj:∀k k' s,fnd M k=some (.slot s)->fnd M k'=some (.slot s)->k=k'
 one:∀k src,(k,src)∈M->fnd M k=some src
def yey(M a:z6i T):Prop:=∀k src,fnd M k=some src->fnd a k=some src
def yey.agr{M a:z6i T}(h:yey M a){ρ':List Slot}(k:Agr ρ a ρ'):Agr ρ M ρ':=λj src b=>k j src (h j src b)
def zbg{n k s:Nat}{M l:z6i T}(h:zh1 n k s M=some l):yey M l∧fnd l k=some (.slot s)∧(MOk n M->MOk n l):=by
 unfold zh1 at h;split at h
 ·rename_i y i;split at h
  ·rename_i e;cases h;subst e;exact⟨λ_ _ h=>h,i,λh=>h⟩
  ·cases h
 ·cases h
 ·rename_i i;split at h
  ·rename_i p;cases h
   refine⟨λj src b =>?_,by rw[yzc,Qbx rfl],λo=>⟨λj src b =>?_,λj g q b a =>?_,λj src hm=>by
    rw[yzc]
    rcases Qbl.1 hm with hm|hm
    ·injection hm with u r;subst u;subst r;rw[Qbx rfl]
    ·have:=o.one j src hm;split
     ·rename_i e;subst e;rw[i]at this;cases this
     ·exact this⟩⟩
   ·rw[yzc];split
    ·rename_i e;subst e;rw[i]at b;cases b
    ·exact b
   ·rw[yzc]at b;split at b
    ·rename_i e;subst e;exact p.1
    ·exact o.lt j src b
   ·have d:∀g,fnd M g≠some (.slot s):=λg a=>by
     have:=Qat.1 p.2 _ (zat a);simp[Src.z001]at this
    rw[yzc]at b a;split at b <;> split at a
    ·rename_i x w;rw[<-x,<-w]
    ·injection b with b;cases b;exact(d _ a).elim
    ·injection a with a;injection a with a;subst a;exact(d _ b).elim
    ·exact o.inj j g q b a
  ·cases h
def y8f{n k:Nat}{M g:z6i T}(h:yrk n k M=some g):yey M g∧fnd g k=some .nil∧(MOk n M->MOk n g):=by
 unfold yrk at h;split at h
 ·rename_i d;cases h;exact⟨λ_ _ h=>h,d,λh=>h⟩
 ·cases h
 ·rename_i d;split at h
  ·rename_i o;cases h
   refine⟨λj src a =>?_,by rw[yzc,Qbx rfl],λi=>⟨λj src a =>?_,λj l q a b =>?_,λj src hm=>by
    rw[yzc]
    rcases Qbl.1 hm with hm|hm
    ·injection hm with r p;subst r;subst p;rw[Qbx rfl]
    ·have:=i.one j src hm;split
     ·rename_i e;subst e;rw[d]at this;cases this
     ·exact this⟩⟩
   ·rw[yzc];split
    ·rename_i e;subst e;rw[d]at a;cases a
    ·exact a
   ·rw[yzc]at a;split at a
    ·rename_i e;subst e;exact o
    ·exact i.lt j src a
   ·rw[yzc]at a b;split at a
    ·injection a with a;cases a
    ·split at b
     ·injection b with b;cases b
     ·exact i.inj j l q a b
  ·cases h
def FR.inj{α:Type}{a b:α}(h:FR.ok a=FR.ok b):a=b:=by cases h;rfl
def FR.pair{α β:Type}{a c:α}{b d:β}(h:FR.ok (a,b)=FR.ok (c,d)):a=c∧b=d:=⟨congrArg Prod.fst (FR.inj h),congrArg Prod.snd (FR.inj h)⟩
def y39{o:Option (z6i T)}{M:z6i T}{u:Unit}(h:frU o = .ok (M,u)):o=some M:=by
 unfold frU at h;split at h
 ·injection h with h;injection h with h;rw[h]
 ·cases h
def y2j(D:Dat)(ρ:List Slot)(lv n:Nat)(M a:z6i D.T)(x:TV D.T)(v:V):Prop:=yey M a∧(MOk n M->MOk n a)∧∀ρ',Agr ρ a ρ'->VR D ρ' lv x v
def FitL(D:Dat)(ρ:List Slot)(lv n:Nat)(M a:z6i D.T)(xs:List (TV D.T))(vs:List V):Prop:=yey M a∧(MOk n M->MOk n a)∧∀ρ',Agr ρ a ρ'->VRL D ρ' lv xs vs
def EO.z05x{ρ':List Slot}{L:List (Option yz5)}{q n:Nat}{x:D.T q}{w:V}{c:List Nat}(h:EO D ρ lv L q none n x w c):EO D ρ' lv L q none n x w c:=h
def EO.z8j{ρ':List Slot}{L:List (Option yz5)}{q n f s a:Nat}{i:Int}{x:D.T q}{w:V}{c:List Nat}{sl:Slot}(h:EO D ρ lv L q (some (i,f,s)) n x w c)(k:ρ[s]? = some sl)(j:ρ'[a]? = some sl):EO D ρ' lv L q (some (i,f,a)) n x w c:=by
 have⟨vs,cs,J,I,G,E,C⟩:=h;refine⟨vs,cs,J,I,G,E,λg p u b B A z =>?_⟩;have:=C g p u b B A z;by_cases d:i.toNat=n∧f=g
 ·simp only[z2a,Qbx d]at this ⊢;have⟨y,r,o,sl',e,l⟩:=this
  rw[k]at e;cases e
  exact⟨y,r,o,sl,j,l⟩
 ·simp only[z2a,Qby d]at this ⊢;exact this
variable (hD:D.Ok P)
include hD
mutual
theorem zo1{n:Nat}:∀(Y:Sh) {c:TV D.T}{v:V}{M l:z6i D.T}{x:HL D.T Y.tys},y9x D n Y c M = .ok (l,x)->VR D ρ lv c v->y2j D ρ lv n M l (zmd D (λk=>k) Y x) v
 |.any,c,v,M,l,x,h,g=>by
  rw[z03q]at h;cases h
  exact⟨λ_ _ h=>h,λh=>h,λρ' _=>(by simp only[VR]:VR D ρ' lv .any v)⟩
 |.d t,c,v,M,l,x,h,g=>by
  rw[z060]at h;split at h
  ·rename_i y Z;cases h;exact⟨λ_ _ h=>h,λh=>h,λρ' _=>(VR.tv hD (zkv hD Z g):VR D ρ' lv (D.tv t y) v)⟩
  ·cases h
  ·cases h
 |.own k,c,v,M,l,x,h,g=>by
  show y2j D ρ lv n M l (.own k) v
  cases c <;> first|(cases h;done)|skip
  case own s=>
   have⟨E,C,B⟩:=zbg (y39 h);refine⟨E,B,λρ' q =>?_⟩;have⟨sl,A,r⟩:=q k _ C;simp only[Src.is]at r;simp only[VR]at g;have⟨sl',u,I,U⟩:=g
   rw[r]at u;cases u
   simp only[VR];exact⟨sl,A,I,U⟩
  case nils=>
   have⟨E,C,B⟩:=y8f (y39 h);refine⟨E,B,λρ' q =>?_⟩;have⟨sl,A,r⟩:=q k _ C;simp only[Src.is]at r;subst r;simp only[VR]at g;subst g;simp only[VR]
   exact⟨zpn,A,rfl,rfl⟩
 |.ptr k o,c,v,M,l,x,h,g=>by
  show y2j D ρ lv n M l (.ptr k o) v
  cases c <;> first|(cases h;done)|skip
  case ptr s p=>
   replace h:(if o=p then frU (zh1 n k s M)else .bad) = .ok (l,()):=h;by_cases e:o=p
   ·rw[Qbx e]at h;subst e;have⟨E,C,B⟩:=zbg (y39 h);refine⟨E,B,λρ' q =>?_⟩;have⟨sl,A,r⟩:=q k _ C;simp only[Src.is]at r;simp only[VR]at g;have⟨sl',i,u,I,U⟩:=g
    rw[r]at u;cases u
    simp only[VR];exact⟨sl,i,A,I,U⟩
   ·rw[Qby e]at h;cases h
 |.map k,c,v,M,l,x,h,g=>by
  show y2j D ρ lv n M l (.map k) v
  cases c <;> first|(cases h;done)|skip
  case map s=>
   have⟨E,C,B⟩:=zbg (y39 h);refine⟨E,B,λρ' q =>?_⟩;have⟨sl,A,r⟩:=q k _ C;simp only[Src.is]at r;simp only[VR]at g;have⟨sl',i,u,I,U⟩:=g
   rw[r]at u;cases u
   simp only[VR]
   exact⟨sl,i,A,I,U⟩
 |.mc t,c,v,M,l,x,h,g=>by
  cases c <;> first|(cases h;done)|skip
  case mc G es=>
   replace h:(match zxq G t es with|some es=>FR.ok (M,(List.map Prod.fst es,(List.map Prod.snd es,())))|none=>.bad) = .ok (l,x):=h
   cases X:zxq G t es with
   |none=>rw[X]at h;cases h
   |some Q=>
    rw[X]at h;have⟨A,r⟩:=y2a X;subst A;replace r:Q=es:=r;subst r;cases h;refine⟨λ_ _ h=>h,λh=>h,λρ' q =>?_⟩;show VR D ρ' lv (.mc G (List.zip (List.map Prod.fst Q) (List.map Prod.snd Q))) v;rw[show List.zip (List.map Prod.fst Q) (List.map Prod.snd Q)=Q from y4g Q];unfold VR at g ⊢
    exact g
 |.bp k,c,v,M,l,x,h,g=>by
  show y2j D ρ lv n M l (.bp k 0) v
  cases c <;> first|(cases h;done)|skip
  case bp s o=>
   cases o with
   |succ o=>cases h
   |zero=>
   have⟨E,C,B⟩:=zbg (y39 h);refine⟨E,B,λρ' q =>?_⟩;have⟨sl,A,r⟩:=q k _ C;simp only[Src.is]at r;simp only[VR]at g;have⟨sl',i,u,I,U⟩:=g
   rw[r]at u;cases u
   simp only[VR]
   exact⟨sl,i,A,I,U⟩
 |.nilp,c,v,M,l,x,h,g=>by
  show y2j D ρ lv n M l .nilp v
  cases c <;> first|(cases h;done)|skip
  cases h;exact⟨λ_ _ h=>h,λh=>h,λρ' _=>by simpa only[VR]using g⟩
 |.nilf,c,v,M,l,x,h,g=>by
  show y2j D ρ lv n M l .nilf v
  cases c <;> first|(cases h;done)|skip
  cases h;exact⟨λ_ _ h=>h,λh=>h,λρ' _=>by simpa only[VR]using g⟩
 |.nili,c,v,M,l,x,h,g=>by
  show y2j D ρ lv n M l .nili v
  cases c <;> first|(cases h;done)|skip
  cases h;exact⟨λ_ _ h=>h,λh=>h,λρ' _=>by simpa only[VR]using g⟩
 |.nils,c,v,M,l,x,h,g=>by
  show y2j D ρ lv n M l .nils v
  cases c <;> first|(cases h;done)|skip
  cases h;exact⟨λ_ _ h=>h,λh=>h,λρ' _=>by simpa only[VR]using g⟩
 |.fn f a b,c,v,M,l,x,h,g=>by
  cases c <;> first|(cases h;done)|skip
  case fn f' a' b'=>
   rw[z046]at h;by_cases e:f=f'
   ·rw[Qbx e]at h;subst e;split at h
    ·rename_i M1 y Z;split at h
     ·rename_i M2 z hz;cases h;simp only[VR]at g;obtain⟨as,bs,rfl,J,k2⟩:=g;have⟨O,N,K⟩:=zfv a Z J;have⟨b1,b2,b3⟩:=zfv b hz k2;refine⟨λj src hj=>b1 j src (O j src hj),λh=>b2 (N h),λρ' q =>?_⟩;rw[z03w];simp only[VR];exact⟨as,bs,rfl,K ρ' (b1.agr q),b3 ρ' q⟩
     ·cases h
     ·cases h
    ·cases h
    ·cases h
   ·rw[Qby e]at h;cases h
 |.iface t s,c,v,M,l,x,h,g=>by
  show y2j D ρ lv n M l (.iface t (zmd D (λk=>k) s x)) v
  cases c <;> first|(cases h;done)|skip
  case iface G y'=>
   replace h:(if t=G then y9x D n s y' M else .bad) = .ok (l,x):=h;by_cases e:t=G
   ·rw[Qbx e]at h;subst e;simp only[VR]at g;obtain⟨y,rfl,J⟩:=g;have⟨O,N,K⟩:=zo1 s h J;exact⟨O,N,λρ' q=>by simp only[VR];exact⟨y,rfl,K ρ' q⟩⟩
   ·rw[Qby e]at h;cases h
 |.agg cs,c,v,M,l,x,h,g=>by
  show y2j D ρ lv n M l (.agg (z41 D (λk=>k) cs x)) v
  cases c <;> first|(cases h;done)|skip
  case agg vs=>
   replace h:y0o D n cs vs M = .ok (l,x):=h;simp only[VR]at g;obtain⟨y,rfl,J⟩:=g;have⟨O,N,K⟩:=zfv cs h J
   exact⟨O,N,λρ' q=>by simp only[VR];exact⟨y,rfl,K ρ' q⟩⟩
 |.tup cs,c,v,M,l,x,h,g=>by
  show y2j D ρ lv n M l (.tup (z41 D (λk=>k) cs x)) v
  cases c <;> first|(cases h;done)|skip
  case tup vs=>
   replace h:y0o D n cs vs M = .ok (l,x):=h;simp only[VR]at g;obtain⟨y,rfl,J⟩:=g;have⟨O,N,K⟩:=zfv cs h J
   exact⟨O,N,λρ' q=>by simp only[VR];exact⟨y,rfl,K ρ' q⟩⟩
 |.ref cs o,c,v,M,l,x,h,g=>by
  show y2j D ρ lv n M l (.ref (z41 D (λk=>k) cs x) o) v
  cases c <;> first|(cases h;done)|skip
  case ref vs p=>
   replace h:(if o=p then y0o D n cs vs M else .bad) = .ok (l,x):=h;by_cases e:o=p
   ·rw[Qbx e]at h;subst e;simp only[VR]at g;obtain⟨y,rfl,J⟩:=g;have⟨O,N,K⟩:=zfv cs h J;exact⟨O,N,λρ' q=>by simp only[VR];exact⟨y,rfl,K ρ' q⟩⟩
   ·rw[Qby e]at h;cases h
 |.dp k o,c,v,M,l,x,h,g=>by
  show y2j D ρ lv n M l (.dp k x.1 o) v
  cases c <;> first|(cases h;done)|skip
  case dp s i p=>
   replace h:(if o=p then (match zh1 n k s M with|some M=>FR.ok (M,((i,()):HL D.T [.int .i64]))|none=>.bad)else .bad) = .ok (l,x):=h;by_cases e:o=p
   ·rw[Qbx e]at h;subst e
    cases R:zh1 n k s M with
    |none=>rw[R]at h;cases h
    |some M1=>
     rw[R]at h;cases h;have⟨E,C,B⟩:=zbg R;refine⟨E,B,λρ' q =>?_⟩;have⟨sl,A,r⟩:=q k _ C;simp only[Src.is]at r;simp only[VR]at g;have⟨sl',j,h4,m,u,I⟩:=g
     rw[r]at u;cases u
     show VR D ρ' lv (.dp k i o) v;simp only[VR];exact⟨sl,j,h4,m,A,I⟩
   ·rw[Qby e]at h;cases h
 |.ap k t o,c,v,M,l,x,h,g=>by
  show y2j D ρ lv n M l (.ap k t x.1 x.2.1 o) v
  cases c <;> first|(cases h;done)|skip
  case ap s G i y p=>
   replace h:(if o=p then (match y4y G t y with|some y=>(match zh1 n k s M with|some M=>FR.ok (M,((i,(y,())):HL D.T [.int .i64,t]))|none=>.bad)|none=>.bad)else .bad) = .ok (l,x):=h;by_cases e:o=p
   ·rw[Qbx e]at h;subst e
    cases H:y4y G t y with
    |none=>rw[H]at h;cases h
    |some z=>
    rw[H]at h;have⟨et,W⟩:=z02m H;subst et;replace W:z=y:=W;subst W;replace h:(match zh1 n k s M with|some M=>FR.ok (M,((i,(z,())):HL D.T [.int .i64,G]))|none=>.bad) = .ok (l,x):=h
    cases R:zh1 n k s M with
    |none=>rw[R]at h;cases h
    |some M1=>
     rw[R]at h;cases h;have⟨E,C,B⟩:=zbg R;refine⟨E,B,λρ' q =>?_⟩;have⟨sl,A,r⟩:=q k _ C;simp only[Src.is]at r;simp only[VR]at g;have⟨sl',w,u,I⟩:=g
     rw[r]at u;cases u
     show VR D ρ' lv (.ap k G i z o) v;simp only[VR];exact⟨sl,w,A,I⟩
   ·rw[Qby e]at h;cases h
theorem zfv{n:Nat}:∀(l:List Sh) {cs:List (TV D.T)}{vs:List V}{M b:z6i D.T}{x:HL D.T (Sh.z45 l)},y0o D n l cs M = .ok (b,x)->VRL D ρ lv cs vs->FitL D ρ lv n M b (z41 D (λk=>k) l x) vs
 |[],cs,vs,M,b,x,h,a=>by
  cases cs with
  |nil=>cases h;exact⟨λ_ _ h=>h,λh=>h,λρ' _=>(by simpa only[VRL]using a:VRL D ρ' lv [] vs)⟩
  |cons c cs=>cases h
 |sh::l,cs,vs,M,b,x,h,a=>by
  cases cs with
  |nil=>cases h
  |cons c cs=>
   simp only[VRL]at a;obtain⟨v,r,rfl,i,g⟩:=a;rw[yy8]at h;split at h
   ·rename_i E y p;split at h
    ·rename_i C z o;cases h;have⟨B,A,w⟩:=zo1 sh p i;have⟨e,u,s⟩:=zfv l o g;refine⟨λj src q=>e j src (B j src q),λh=>u (A h),λρ' d =>?_⟩;rw[yw6];simp only[VRL];exact⟨v,r,rfl,w ρ' (e.agr d),s ρ' d⟩
    ·cases h
    ·cases h
   ·cases h
   ·cases h
end
theorem ysf{n:Nat}(hR:TRr D F ρ ts σ){o:OSh}{src:Src D.T}{M R:z6i D.T}{x:HL D.T o.tys}(h:y9h D n ts o src M = .ok (R,x)) :
  yey M R∧(MOk n M->MOk n R)∧(∀s,src = .slot s->∃o',fnd ts.o s=some o'∧o'.live)∧∀ρ' sl,Agr ρ R ρ'->src.is ρ sl->OR D ρ' F.lv σ.H.L sl (zn0 D (λk=>k) o x):=by
 cases o with
 |cells cs=>
  cases src with
  |nil=>cases h
  |slot s=>
   simp only[y9h]at h
   cases r:fnd ts.o s with
   |none=>rw[r]at h;cases h
   |some o'=>
    rw[r]at h
    cases o' <;> first|(cases h;done)|skip
    rename_i vs;obtain⟨sl',G,B⟩:=hR.ob s _ r;simp only[OR]at B;obtain⟨i,us,Q,O,J⟩:=B;obtain⟨a1,a2,a3⟩:=zfv hD cs h J;refine⟨a1,a2,λZ e=>by injection e with e;subst e;exact⟨_,r,trivial⟩,λρ' sl N g =>?_⟩;simp only[Src.is]at g
    rw[G]at g;injection g with g;subst g
    simp only[zn0,OR]
    exact⟨i,us,Q,O,a3 ρ' N⟩
 |st i=>
  cases src with
  |nil=>cases h
  |slot s=>
   simp only[y9h]at h
   cases r:fnd ts.o s with
   |none=>rw[r]at h;cases h
   |some o'=>
    rw[r]at h
    cases o' <;> first|(cases h;done)|skip
    rename_i vs;replace h:(match zbn D (D.fl i) vs with| .ok x=>FR.ok (M,(D.make i x,()))| .frz s=>.frz s| .bad=>.bad) = .ok (R,x):=h;obtain⟨sl',G,B⟩:=hR.ob s _ r;simp only[OR]at B;obtain⟨i',us,Q,O,J⟩:=B
    cases hl:zbn D (D.fl i) vs with
    |frz s=>rw[hl]at h;cases h
    |bad=>rw[hl]at h;cases h
    |ok y=>
     rw[hl]at h;cases h;refine⟨λ_ _ h=>h,λh=>h,λZ e=>by injection e with e;subst e;exact⟨_,r,trivial⟩,λρ' sl N g =>?_⟩;simp only[Src.is]at g
     rw[G]at g;injection g with g;subst g
     obtain⟨m1,m2⟩:=zor hl J;show OR D ρ' F.lv σ.H.L sl' (.cells (D.leaves (D.fl i) (D.get i (D.make i y))));rw[hD.getMake];simp only[OR];refine⟨i',us,Q,O,.of (by rw[zc4,m1]) λj c v I hv =>?_⟩;rw[zie,Qaf]at I;obtain⟨p,hp,rfl⟩:=I
     exact VR.leaf (m2 j p v hp hv)
 |acc ty t w=>
  cases src with
  |nil=>
   cases h;refine⟨λ_ _ h=>h,λh=>h,λs e=>(by cases e),λρ' sl N g =>?_⟩;simp only[Src.is]at g;subst g;show OR D ρ' F.lv σ.H.L zpn (.acc ty t [] w);simp only[OR,zpn]
   exact⟨rfl,λj x v hx=>by simp at hx,.inl ⟨trivial,trivial⟩⟩
  |slot s=>
   simp only[y9h]at h
   cases r:fnd ts.o s with
   |none=>rw[r]at h;cases h
   |some o'=>
    rw[r]at h
    cases o' <;> first|(cases h;done)|skip
    rename_i A X xs w';replace h:(if ty=A∧(w=true->w'=true)then (match zf5 X t xs with|some xs=>FR.ok (M,(xs,()))|none=>.bad)else .bad) = .ok (R,x):=h;by_cases I:ty=A∧(w=true->w'=true)
    ·rw[Qbx I]at h
     cases z:zf5 X t xs with
     |none=>rw[z]at h;cases h
     |some C=>
      rw[z]at h;obtain⟨K,E⟩:=z90 z;subst K;replace E:C=xs:=E;subst E;cases h;obtain⟨sl',G,B⟩:=hR.ob s _ r;refine⟨λ_ _ h=>h,λh=>h,λZ e=>by injection e with e;subst e;exact⟨_,r,trivial⟩,λρ' sl N g =>?_⟩;simp only[Src.is]at g
      rw[G]at g;injection g with g;subst g
      obtain⟨Y,hw⟩:=I;subst Y;simp only[OR]at B;obtain⟨Q,O,J⟩:=B;show OR D ρ' F.lv σ.H.L sl' (.acc ty X C w);simp only[OR];refine⟨Q,O,?_⟩
      cases hk:sl'.k with
      |none=>
       rw[hk]at J
       rcases J with q|⟨q,U⟩
       ·exact .inl q
       ·exact .inr ⟨q,λe=>U (hw e)⟩
      |some i=>rw[hk]at J;exact J
    ·rw[Qby I]at h;cases h
 |siter=>
  cases src with
  |nil=>cases h
  |slot s=>
   simp only[y9h]at h
   cases r:fnd ts.o s with
   |none=>rw[r]at h;cases h
   |some o'=>
    rw[r]at h
    cases o' <;> first|(cases h;done)|skip
    rename_i l h8;cases h;obtain⟨sl',G,B⟩:=hR.ob s _ r;refine⟨λ_ _ h=>h,λh=>h,λZ e=>by injection e with e;subst e;exact⟨_,r,trivial⟩,λρ' sl N g =>?_⟩;simp only[Src.is]at g
    rw[G]at g;injection g with g;subst g
    exact B
 |mp ty t=>
  cases src with
  |nil=>cases h
  |slot s=>
   simp only[y9h]at h
   cases r:fnd ts.o s with
   |none=>rw[r]at h;cases h
   |some o'=>
    rw[r]at h
    cases o' <;> first|(cases h;done)|skip
    rename_i A X es;replace h:(if ty=A then (match zxq X t es with|some es=>FR.ok (M,(List.map Prod.fst es,(List.map Prod.snd es,())))|none=>.bad)else .bad) = .ok (R,x):=h;by_cases I:ty=A
    ·rw[Qbx I]at h
     cases z:zxq X t es with
     |none=>rw[z]at h;cases h
     |some C=>
      rw[z]at h;obtain⟨K,E⟩:=y2a z;subst K;replace E:C=es:=E;subst E;cases h;obtain⟨sl',G,B⟩:=hR.ob s _ r;refine⟨λ_ _ h=>h,λh=>h,λZ e=>by injection e with e;subst e;exact⟨_,r,trivial⟩,λρ' sl N g =>?_⟩;simp only[Src.is]at g
      rw[G]at g;injection g with g;subst g
      subst I;show OR D ρ' F.lv σ.H.L sl' (.mp ty X (List.zip (List.map Prod.fst C) (List.map Prod.snd C)));rw[show List.zip (List.map Prod.fst C) (List.map Prod.snd C)=C from y4g C];exact B
    ·rw[Qby I]at h;cases h
 |mit t=>
  cases src with
  |nil=>cases h
  |slot s=>
   simp only[y9h]at h
   cases r:fnd ts.o s with
   |none=>rw[r]at h;cases h
   |some o'=>
    rw[r]at h
    cases o' <;> first|(cases h;done)|skip
    rename_i X last es;replace h:(match zxq X t es with|some es=>FR.ok (M,(List.map Prod.fst es,(List.map Prod.snd es,())))|none=>.bad) = .ok (R,x):=h
    cases z:zxq X t es with
    |none=>rw[z]at h;cases h
    |some C=>
     rw[z]at h;obtain⟨K,E⟩:=y2a z;subst K;replace E:C=es:=E;subst E;cases h;obtain⟨sl',G,B⟩:=hR.ob s _ r;refine⟨λ_ _ h=>h,λh=>h,λZ e=>by injection e with e;subst e;exact⟨_,r,trivial⟩,λρ' sl N g =>?_⟩;simp only[Src.is]at g
     rw[G]at g;injection g with g;subst g
     show OR D ρ' F.lv σ.H.L sl' (.mit X none (List.zip (List.map Prod.fst C) (List.map Prod.snd C)));rw[show List.zip (List.map Prod.fst C) (List.map Prod.snd C)=C from y4g C];simp only[OR]at B ⊢;obtain⟨i,fs,h5,Q,O,J,W,q5,_⟩:=B
     exact⟨i,fs,h5,Q,O,J,W,q5,λp hp=>by cases hp⟩
 |bld ty k=>
  cases src with
  |nil=>cases h
  |slot s=>
   simp only[y9h]at h
   cases r:fnd ts.o s with
   |none=>rw[r]at h;cases h
   |some o'=>
    rw[r]at h
    cases o' <;> first|(cases h;done)|skip
    rename_i A b;replace h:(if ty=A then (match b with|some q=>frU (zh1 n k q M)|none=>frU (yrk n k M))else .bad) = .ok (R,x):=h;by_cases Y:ty=A
    ·rw[Qbx Y]at h;subst Y;obtain⟨sl',G,B⟩:=hR.ob s _ r;simp only[OR]at B;obtain⟨i,u,c,Q,O,J,W⟩:=B
     cases b with
     |some q=>
      obtain⟨h1,h2,h3⟩:=zbg (y39 h);refine⟨h1,h3,λZ e=>by injection e with e;subst e;exact⟨_,r,trivial⟩,λρ' sl N g =>?_⟩;simp only[Src.is]at g
      rw[G]at g;injection g with g;subst g
      obtain⟨sq,K,E⟩:=N k _ h2;simp only[Src.is]at E;simp only[yng,VR]at W;obtain⟨h6,e3,e4,e5⟩:=W
      rw[E]at e3;injection e3 with e3;subst e3
      simp only[zn0,OR]
      exact⟨i,u,c,Q,O,J,by simp only[yng,VR];exact⟨sq,K,e4,e5⟩⟩
     |none=>
      obtain⟨h1,h2,h3⟩:=y8f (y39 h);refine⟨h1,h3,λZ e=>by injection e with e;subst e;exact⟨_,r,trivial⟩,λρ' sl N g =>?_⟩;simp only[Src.is]at g
      rw[G]at g;injection g with g;subst g
      obtain⟨sq,K,E⟩:=N k _ h2;simp only[Src.is]at E;subst E;simp only[yng,VR]at W;subst W;simp only[zn0,OR];exact⟨i,u,_,Q,O,J,by simp only[yng,VR];exact⟨zpn,K,rfl,rfl⟩⟩
    ·rw[Qby Y]at h;cases h
 |deep ty q=>
  cases src with
  |nil=>
   cases h;refine⟨λ_ _ h=>h,λh=>h,λs e=>(by cases e),λρ' sl N g =>?_⟩;simp only[Src.is]at g;subst g;show OR D ρ' F.lv σ.H.L zpn (.deep ty q [] none);simp only[OR,zpn]
   exact⟨rfl,trivial,.inl trivial,trivial,trivial⟩
  |slot s=>
   simp only[y9h]at h
   cases r:fnd ts.o s with
   |none=>rw[r]at h;cases h
   |some o'=>
    rw[r]at h
    cases o' <;> first|(cases h;done)|skip
    rename_i A U xs h';replace h:(if ty=A then (match h' with|none=>(match zf5 (.st U) (.st q) xs with|some xs=>FR.ok (M,((xs,()):HL D.T [.sl (.st q)]))|none=>.bad)|some _=>.frz s)else .bad) = .ok (R,x):=h;by_cases I:ty=A
    ·rw[Qbx I]at h;subst I
     cases h' with
     |some p=>cases h
     |none=>
     replace h:(match zf5 (.st U) (.st q) xs with|some xs=>FR.ok (M,((xs,()):HL D.T [.sl (.st q)]))|none=>.bad) = .ok (R,x):=h
     cases z:zf5 (.st U) (.st q) xs with
     |none=>rw[z]at h;cases h
     |some C=>
      rw[z]at h;obtain⟨K,E⟩:=z90 z;injection K with K;subst K;replace E:C=xs:=E;subst E;cases h;obtain⟨sl',G,B⟩:=hR.ob s _ r;refine⟨λ_ _ h=>h,λh=>h,λZ e=>by injection e with e;subst e;exact⟨_,r,trivial⟩,λρ' sl N g =>?_⟩;simp only[Src.is]at g
      rw[G]at g;injection g with g;subst g
      show OR D ρ' F.lv σ.H.L sl' (.deep ty U C none);simp only[OR]at B ⊢;refine⟨B.1,?_⟩;have k3:=B.2
      cases hk:sl'.k with
      |none=>rw[hk]at k3;exact k3
      |some j=>
       rw[hk]at k3;obtain⟨h4,cp,fps,Q,O,J,W,q5,q6,q7⟩:=k3;exact⟨h4,cp,fps,Q,O,J,W,q5,λn x w c a b d=>(q6 n x w c a b d).z05x,q7⟩
    ·rw[Qby I]at h;cases h
 |deeph ty q f k=>
  cases src with
  |nil=>cases h
  |slot s=>
   simp only[y9h]at h
   cases r:fnd ts.o s with
   |none=>rw[r]at h;cases h
   |some o'=>
    rw[r]at h
    cases o' <;> first|(cases h;done)|skip
    rename_i A U xs h';replace h:(if ty=A then (match h' with|some p=>if f=p.2.1 then (match zf5 (.st U) (.st q) xs with|some xs=>(match zh1 n k p.2.2 M with|some M=>FR.ok (M,((xs,(p.1,())):HL D.T [.sl (.st q),.int .i64]))|none=>.bad)|none=>.bad)else .bad|none=>.bad)else .bad) = .ok (R,x):=h;by_cases I:ty=A
    ·rw[Qbx I]at h;subst I
     cases h' with
     |none=>cases h
     |some p=>
     obtain⟨i,f',c⟩:=p;replace h:(if f=f' then (match zf5 (.st U) (.st q) xs with|some xs=>(match zh1 n k c M with|some M=>FR.ok (M,((xs,(i,())):HL D.T [.sl (.st q),.int .i64]))|none=>.bad)|none=>.bad)else .bad) = .ok (R,x):=h;by_cases hf:f=f'
     ·rw[Qbx hf]at h;subst hf
      cases z:zf5 (.st U) (.st q) xs with
      |none=>rw[z]at h;cases h
      |some C=>
       rw[z]at h;obtain⟨K,E⟩:=z90 z;injection K with K;subst K;replace E:C=xs:=E;subst E;replace h:(match zh1 n k c M with|some M=>FR.ok (M,((C,(i,())):HL D.T [.sl (.st U),.int .i64]))|none=>.bad) = .ok (R,x):=h
       cases hb:zh1 n k c M with
       |none=>rw[hb]at h;cases h
       |some M1=>
       rw[hb]at h;cases h;obtain⟨h1,h2,h3⟩:=zbg hb;obtain⟨sl',G,B⟩:=hR.ob s _ r;refine⟨h1,h3,λZ e=>by injection e with e;subst e;exact⟨_,r,trivial⟩,λρ' sl N g =>?_⟩;simp only[Src.is]at g
       rw[G]at g;injection g with g;subst g
       obtain⟨h7,d1,d2⟩:=N k _ h2;simp only[Src.is]at d2;show OR D ρ' F.lv σ.H.L sl' (.deep ty U C (some (i,f,k)));simp only[OR]at B ⊢;refine⟨B.1,?_⟩;have k3:=B.2
       cases hk:sl'.k with
       |none=>rw[hk]at k3;cases k3.2.2.2
       |some j=>
        rw[hk]at k3;obtain⟨h4,cp,fps,Q,O,J,W,q5,q6,q7⟩:=k3;exact⟨h4,cp,fps,Q,O,J,W,q5,λn x w cc a b d=>(q6 n x w cc a b d).z8j d2 d1,λn' f' Z e=>by injection e with e;injection e with e4 e5;subst e4;exact q7 _ _ _ rfl⟩
     ·rw[Qby hf]at h;cases h
    ·rw[Qby I]at h;cases h
omit hD in
theorem ykk{m:Nat->Nat}{o:OSh}{x:HL D.T o.tys}:(zn0 D m o x).live:=by cases o <;> trivial
omit hD in
theorem yuz(n:Nat)(o:OSh)(a:List OSh)(k:Nat)(M:z6i D.T):yei D n ts (o::a) k M=(match fnd M k with
 |some src=>match y9h D n ts o src M with
  |.ok (M,x)=>match yei D n ts a (k+1) M with
   |.ok (M,y)=>.ok (M,HL.app x y)
   |.frz s=>.frz s
   |.bad=>.bad
  |.frz s=>.frz s
  |.bad=>.bad
 |none=>.bad):=rfl
omit hD in
theorem yug(m:Nat->Nat)(o:OSh)(a:List OSh)(k:Nat)(x:HL D.T o.tys)(y:HL D.T (z19 a)):z86 D m (o::a) k (HL.app x y)=(m k,zn0 D m o x)::z86 D m a (k+1) y:=by
 show(m k,zn0 D m o (HL.fst _ (HL.app x y)))::z86 D m a (k+1) (HL.snd _ (HL.app x y))=_;rw[HL.zpr,HL.zr0]
theorem zq4{n:Nat}(u:TRr D F ρ ts σ):∀(b:List OSh) {k:Nat}{M d:z6i D.T}{x:HL D.T (z19 b)},yei D n ts b k M = .ok (d,x) ->
  yey M d∧(MOk n M->MOk n d)∧(∀j,j<b.length->∃src,fnd d (k+j)=some src∧∀s,src = .slot s->∃o',fnd ts.o s=some o'∧o'.live) ∧
  (∀ρ',Agr ρ d ρ'->∀j o,(j,o)∈z86 D (λk=>k) b k x->k<=j∧j<k+b.length∧o.live∧∃sl,ρ'[j]? = some sl∧OR D ρ' F.lv σ.H.L sl o)
 |[],k,M,d,x,h=>by
  cases h
  exact⟨λ_ _ h=>h,λh=>h,λj e=>by simp at e,λρ' _ j o hm=>by cases hm⟩
 |o::b,k,M,d,x,h=>by
  rw[yuz]at h;split at h
  ·rename_i src a;split at h
   ·rename_i R y A;split at h
    ·rename_i Q z w;cases h;have⟨r,O,N,K⟩:=ysf hD u A;have⟨p,J,I,G⟩:=zq4 u b w;refine⟨λj s e=>p j s (r j s e),λh=>J (O h),λj e =>?_,λρ' q j o' hm =>?_⟩
     ·cases j with
      |zero=>exact⟨src,p _ _ (r _ _ a),N⟩
      |succ j=>
       have⟨g,l,i⟩:=I j (by simpa using e);exact⟨g,by rw[<-l];congr 1;omega,i⟩
     ·rw[yug]at hm
      rcases Qbl.1 hm with hm|hm
      ·injection hm with C B;subst C;subst B;have⟨sl,l,i⟩:=q j src (p _ _ (r _ _ a));exact⟨Qbw _,by simp,ykk,sl,l,K ρ' sl (p.agr q) i⟩
      ·have⟨l,i,E⟩:=G ρ' q j o' hm;exact⟨by omega,by simp only[List.length_cons];omega,E⟩
    ·cases h
    ·cases h
   ·cases h
   ·cases h
  ·cases h
omit hD in
theorem yv6(n:Nat)(p:Nat×Sh)(l:List (Nat×Sh))(M:z6i D.T):ys5 D n ts (p::l) M=(match fnd ts.t p.1 with
 |some v=>match y9x D n p.2 v M with
  |.ok (M,x)=>match ys5 D n ts l M with
   |.ok (M,y)=>.ok (M,HL.app x y)
   |.frz s=>.frz s
   |.bad=>.bad
  |.frz s=>.frz s
  |.bad=>.bad
 |none=>.bad):=rfl
omit hD in
theorem ywl(m:Nat->Nat)(p:Nat×Sh)(l:List (Nat×Sh))(x:HL D.T p.2.tys)(y:HL D.T (yym l)):yqx D m (p::l) (HL.app x y)=(p.1,zmd D m p.2 x)::yqx D m l y:=by
 show(p.1,zmd D m p.2 (HL.fst _ (HL.app x y)))::yqx D m l (HL.snd _ (HL.app x y))=_;rw[HL.zpr,HL.zr0]
theorem y83{n:Nat}(d:TRr D F ρ ts σ):∀(l:List (Nat×Sh)) {M a:z6i D.T}{x:HL D.T (yym l)},ys5 D n ts l M = .ok (a,x) ->
  yey M a∧(MOk n M->MOk n a)∧∀ρ',Agr ρ a ρ'->∀j c,(j,c)∈yqx D (λk=>k) l x->∃v,σ.t[j]? = some v∧VR D ρ' F.lv c v
 |[],M,a,x,h=>by
  cases h
  exact⟨λ_ _ h=>h,λh=>h,λρ' _ j o hm=>by cases hm⟩
 |p::l,M,a,x,h=>by
  rw[yv6]at h;split at h
  ·rename_i c w;split at h
   ·rename_i O y r;split at h
    ·rename_i N z q;cases h;have⟨v,i,g⟩:=d.tm _ _ w;have⟨K,J,I⟩:=zo1 hD p.2 r g;have⟨e,G,E⟩:=y83 d l q;refine⟨λj s u=>e j s (K j s u),λh=>G (J h),λρ' b j C hm =>?_⟩;rw[ywl]at hm
     rcases Qbl.1 hm with hm|hm
     ·injection hm with B A;subst B;subst A;exact⟨v,i,I ρ' (e.agr b)⟩
     ·exact E ρ' b j C hm
    ·cases h
    ·cases h
   ·cases h
   ·cases h
  ·cases h
omit hD in
theorem ytl(y:TRr D F ρ ts σ){M:z6i D.T}{n:Nat}(z:MOk n M)(l:∀j,j<n->∃src,fnd M j=some src∧∀s,src = .slot s->∃o',fnd ts.o s=some o'∧o'.live) :
  ∃ρ':List Slot,ρ'.length=n∧Agr ρ M ρ'∧∀j sl,ρ'[j]? = some sl->∃src,fnd M j=some src∧src.is ρ sl:=by
 have step:∀m,m<=n->∃ρ':List Slot,ρ'.length=m∧∀j,j<m->∃sl src,ρ'[j]? = some sl∧fnd M j=some src∧src.is ρ sl:=λm=>by
  induction m with
  |zero=>exact λ_=>⟨[],rfl,λj p=>by omega⟩
  |succ m x=>
   intro A;have⟨ρ',h,q⟩:=x (by omega);have⟨src,w,u⟩:=l m (by omega)
   have g:∃sl,src.is ρ sl:=by
    cases src with
    |nil=>exact⟨zpn,rfl⟩
    |slot s=>
     have⟨o',d,_⟩:=u s rfl;have⟨sl,b,_⟩:=y.ob s o' d;exact⟨sl,b⟩
   have⟨sl,g⟩:=g;refine⟨ρ'++[sl],by simp[h],λj p =>?_⟩;by_cases e:j=m
   ·subst e;exact⟨sl,src,by rw[<-h];simp,w,g⟩
   ·have⟨sl',a,d,b,i⟩:=q j (by omega);exact⟨sl',a,lookup_append d,b,i⟩
 have⟨ρ',h,q⟩:=step n (Qbw _);refine⟨ρ',h,λk src r =>?_,λj sl p =>?_⟩
 ·have⟨sl,a,d,b,i⟩:=q k (z.lt k src r)
  rw[r]at b;cases b
  exact⟨sl,d,i⟩
 ·have⟨sl',a,d,b,i⟩:=q j (by rw[<-h];exact(Qaa.1 p).1)
  rw[p]at d;cases d
  exact⟨a,b,i⟩
omit hD in
theorem zm0:∀{n k:Nat}{src:Src T},fnd (pins n) k=some src->k<n∧src = .slot k
 |0,k,src,h=>by simp[pins,fnd]at h
 |n+1,k,src,h=>by
  simp only[pins,yzc]at h;split at h
  ·rename_i e;injection h with h;subst e;exact⟨by omega,h.symm⟩
  ·have⟨b,a⟩:=zm0 h;exact⟨by omega,a⟩
omit hD in
theorem y7i:∀{n k:Nat},k<n->fnd (pins (T:=T) n) k=some (.slot k)
 |0,k,h=>by omega
 |n+1,k,h=>by
  simp only[pins,yzc];split
  ·rename_i e;rw[e]
  ·exact y7i (by omega)
omit hD in
theorem yg3:∀{n k:Nat}{src:Src T},(k,src)∈pins (T:=T) n->fnd (pins n) k=some src
 |0,k,src,h=>by cases h
 |n+1,k,src,h=>by
  simp only[pins,yzc]
  rcases Qbl.1 h with h|h
  ·injection h with b a;subst b;subst a;rw[Qbx rfl]
  ·have:=yg3 h;split
   ·rename_i e;subst e;have:=(zm0 this).1;omega
   ·exact this
omit hD in
theorem ydc{n:Nat}:∀{gs:List Nat}{g:List (Option Nat)}{M a:z6i T},yu2 n gs g M=some a->yey M a∧(MOk n M->MOk n a)∧∀(i k:Nat),gs[i]? = some k->∃s:Nat,g[i]? = some (some s)∧fnd a k=some (.slot s)
 |[],[],M,a,h=>by
  cases h
  exact⟨λ_ _ h=>h,λh=>h,λi k b=>by simp at b⟩
 |[],_::_,M,a,h=>by simp[yu2]at h
 |k::e,[],M,a,h=>by simp[yu2]at h
 |k::e,none::o,M,a,h=>by simp[yu2]at h
 |k::e,some s::o,M,a,h=>by
  simp only[yu2]at h;split at h
  ·rename_i z d;have⟨y,x,w⟩:=zbg d;have⟨l,u,r⟩:=ydc h;refine⟨λj src q=>l j src (y j src q),λh=>u (w h),λi p b =>?_⟩
   cases i with
   |zero=>simp at b;subst b;exact⟨s,rfl,l _ _ x⟩
   |succ i=>exact r i p (by simpa using b)
  ·cases h
theorem LSh.zni(b:TRr D F ρ ts σ){l:LSh}{x:HL D.T l.tys}(hp:F.pin.length<=l.pin)(h4:l.pin<=l.os.length)(h:l.fit D ts = .ok x):∃ρ',TRr D F ρ' (l.bld D x) σ:=by
 unfold LSh.fit at h;by_cases q:ts.nt=l.nt∧ts.d.isEmpty=true
 rotate_left
 ·rw[Qby q]at h;cases h
 rw[Qbx q]at h;obtain⟨R,B⟩:=q;have B:ts.d=[]:=by simpa using B
 split at h
 ·rename_i M y hy;split at h
  case h_2=>cases h
  rename_i Mg U;obtain⟨J,Y,X⟩:=ydc U;split at h
  ·rename_i M' z hz;cases h;obtain⟨H,Z,a3⟩:=y83 hD b l.ts hy;have a1:yey (pins l.pin) Mg:=λj src w=>J j src (H j src w)
   have a2:MOk l.os.length (pins l.pin)->MOk l.os.length Mg:=λh=>Y (Z h)
   obtain⟨Q,b2,b3,b4⟩:=zq4 hD b l.os hz;have hM:MOk l.os.length M':=b2 (a2 ⟨λk src h=>by have:=(zm0 h).1;omega,λk k' s h h'=>by have e:=(zm0 h).2;have e':=(zm0 h').2;injection e with e;injection e' with e';omega,λk src hm=>yg3 hm⟩);obtain⟨ρ',c1,K,c3⟩:=ytl b hM λj w=>by simpa using b3 j w
   have hb:l.bld D (HL.app y z)=⟨yqx D (λk=>k) l.ts y,z86 D (λk=>k) l.os 0 z,l.os.length,l.nt,[],l.gs.map some⟩:=by
    show(⟨yqx D (λk=>k) l.ts (HL.fst _ (HL.app y z)),z86 D (λk=>k) l.os 0 (HL.snd _ (HL.app y z)),l.os.length,l.nt,[],l.gs.map some⟩:TS D.T)=_;rw[HL.zpr,HL.zr0]
   rw[hb]
   have place:∀s sl i,ρ'[s]? = some sl->sl.has i->∃a r,fnd M' s=some (.slot a)∧fnd ts.o a=some r∧r.live∧ρ[a]? = some sl:=λs sl i hs N=>by
    obtain⟨src,A,p⟩:=c3 s sl hs
    cases src with
    |nil=>simp only[Src.is]at p;subst p;rcases N with h|h <;> cases h
    |slot a=>
     obtain⟨h3,C,O⟩:=b3 s (by rw[<-c1];exact(Qaa.1 hs).1)
     rw[Nat.zero_add,A]at C;injection C with C;subst C
     obtain⟨r,f1,f2⟩:=O a rfl;exact⟨a,r,A,f1,f2,p⟩
   refine⟨ρ',c1,b.nt.trans R,λj c w=>a3 ρ' (J.agr (Q.agr K)) j c (zat w),λs o ho =>?_,λs W o o' sl sl' i I h2 l1 l2 G r2 u k2 =>?_,λs o sl i I l1 G u =>?_,b.lv,b.E,b.e0,(by have:=b.d;rw[B]at this;exact this),b.out,λj sl w =>?_,λs o sl i I l1 G u=>by
    obtain⟨a,r,d1,d2,d3,d4⟩:=place s sl i G (.inr u)
    exact b.fpl a r sl i d2 d3 d4 u,λi s v I h2=>by
    rw[Qan,Qaf]at I;obtain⟨k,N,e⟩:=I;injection e with e;subst e;obtain⟨a,d1,d2⟩:=X i k N;have:=b.g i a v d1 h2;simp only[VR]at this ⊢;obtain⟨sl,f1,f2⟩:=this;obtain⟨sl',f3,f4⟩:=K k _ (Q _ _ d2);simp only[Src.is]at f4
    rw[f1]at f4;injection f4 with f4;subst f4
    exact⟨sl,f3,f2⟩⟩
   rotate_right
   ·have h5:=(Qaa.1 w).1;obtain⟨sl',A,p⟩:=K j _ (Q _ _ (a1 _ _ (y7i (n:=l.pin) (k:=j) (by omega))));simp only[Src.is]at p
    rw[b.pin j sl w]at p;injection p with p;subst p;exact A
   ·obtain⟨_,_,_,sl,A,p⟩:=b4 ρ' K s o (zat ho);exact⟨sl,A,p⟩
   ·obtain⟨a,r,d1,d2,d3,d4⟩:=place s sl i G u;obtain⟨s1,o1,A,p,C,O⟩:=place W sl' i r2 k2;have:=b.inj a s1 r o1 sl sl' i d2 p d3 C d4 O u k2;subst this;exact hM.inj s W a d1 A
   ·obtain⟨a,r,d1,d2,d3,d4⟩:=place s sl i G u;exact b.mine a r sl i d2 d3 d4 u
  ·cases h
  ·cases h
 ·cases h
 ·cases h
omit hD in
def TR(D:Dat)(F:Fr)(ts:TS D.T)(σ:St):Prop:=∃τ ρ,zwk σ τ∧TRr D F ρ ts τ
omit hD in
theorem TRr.tr(a:TRr D F ρ ts σ):TR D F ts σ:=⟨σ,ρ,.refl σ,a⟩
theorem TR.freeze(h:TR D F ts σ){s:Nat}{a:TS D.T}(b:ts.freeze D s=some a):TR D F a σ:=by
 have⟨τ,ρ,i,g⟩:=h;have⟨υ,e,d⟩:=y4w hD g b;exact⟨υ,ρ,i.trans e,d⟩
theorem TR.fold{R:Type}(h:TR D F ts σ){s:Nat}{k:TS D.T->Option R}{r:R}(b:ts.fold D s k=some r):∃a,TR D F a σ∧k a=some r:=by
 have⟨τ,ρ,i,g⟩:=h;have⟨a,ρ',e,d,_⟩:=yd6 hD g b;exact⟨a,⟨τ,ρ',i,e⟩,d⟩
theorem LSh.zg5{R:Type}{l:LSh}(g:F.pin.length<=l.pin)(a:l.pin<=l.os.length){k:HL D.T l.tys->Option R}{r:R}:∀{f:Nat}{ts:TS D.T},TR D F ts σ->LSh.enter D l k f ts=some r->∃x,k x=some r∧TR D F (l.bld D x) σ
 |0,ts,e,h=>by simp[LSh.enter]at h
 |f+1,ts,e,h=>by
  simp only[LSh.enter]at h;split at h
  ·rename_i x j;have⟨τ,ρ,d,b⟩:=e;have⟨ρ',p⟩:=LSh.zni hD b g a j;exact⟨x,h,τ,ρ',d,p⟩
  ·split at h
   ·have⟨i,d,b⟩:=e.fold hD h;exact LSh.zg5 g a d b
   ·split at h
    ·rename_i s _ _ i o;have⟨x,d,b⟩:=LSh.zg5 g a (e.freeze hD o) h;exact⟨x,d,b⟩
    ·cases h
  ·cases h
end
section
variable {P:Program}{D:Dat}{F:Fr}{ρ:List Slot}{ts:TS D.T}{σ:St}{lv:Nat}{T:Nat → Type}
def VR.zoy{ρ':List Slot}{a:Nat}{t:DTy}{x:t.S D.T}{v:V}(h:VR D ρ lv (D.leaf t x) v):VR D ρ' a (D.leaf t x) v:=by
 cases t <;> first|(simp only[Dat.leaf,VR];done)|simpa only[Dat.leaf,VR]using h
def VR.data{ρ':List Slot}{b:Nat}{t:DTy}{x:t.S D.T}{v:V}(hD:D.Ok P)(h:VR D ρ lv (D.tv t x) v):VR D ρ' b (D.tv t x) v:=by
 cases t with
 |st i=>
  simp only[Dat.tv,VR]at h ⊢;obtain⟨vs,rfl,h⟩:=h;refine⟨vs,rfl,.of h.length λj c v a d =>?_⟩;have:=h.y3q a d;rw[zie,Qaf]at a;obtain⟨p,e,rfl⟩:=a
  exact VR.zoy this
 |bool=>exact VR.zoy (t:=.bool) h
 |int k=>exact VR.zoy (t:=.int k) h
 |str=>exact VR.zoy (t:=.str) h
 |nat=>exact VR.zoy (t:=.nat) (x:=x) h
 |sl t=>exact VR.zoy (t:=.sl t) h
def Maps(m:Nat->Nat)(ρ ρ':List Slot):Prop:=∀(j:Nat) (sl:Slot),ρ[j]? = some sl->ρ'[m j]? = some sl
variable {m:Nat → Nat}{ρ':List Slot}
mutual
def VR.maps(o:Maps m ρ ρ')(hD:D.Ok P):∀(p:Sh) {x:HL D.T p.tys}{v:V},VR D ρ lv (zmd D (λk=>k) p x) v->VR D ρ' lv (zmd D m p x) v
 |.any,x,v,h=>(by simp only[VR]:VR D ρ' lv .any v)
 |.d t,x,v,h=>by
  replace h:VR D ρ lv (D.tv t x.1) v:=h;show VR D ρ' lv (D.tv t x.1) v
  exact VR.data hD h
 |.own k,x,v,h=>by
  replace h:VR D ρ lv (.own k) v:=h;show VR D ρ' lv (.own (m k)) v;simp only[VR]at h ⊢;have⟨sl,l,g⟩:=h
  exact⟨sl,o k sl l,g⟩
 |.ptr k e,x,v,h=>by
  replace h:VR D ρ lv (.ptr k e) v:=h;show VR D ρ' lv (.ptr (m k) e) v;simp only[VR]at h ⊢;have⟨sl,i,l,g⟩:=h
  exact⟨sl,i,o k sl l,g⟩
 |.map k,x,v,h=>by
  replace h:VR D ρ lv (.map k) v:=h;show VR D ρ' lv (.map (m k)) v;simp only[VR]at h ⊢;have⟨sl,i,l,g⟩:=h
  exact⟨sl,i,o k sl l,g⟩
 |.mc t,x,v,h=>by
  replace h:VR D ρ lv (.mc t (List.zip x.1 x.2.1)) v:=h;show VR D ρ' lv (.mc t (List.zip x.1 x.2.1)) v;unfold VR at h ⊢
  exact h
 |.bp k,x,v,h=>by
  replace h:VR D ρ lv (.bp k 0) v:=h;show VR D ρ' lv (.bp (m k) 0) v;simp only[VR]at h ⊢;have⟨sl,i,l,g⟩:=h
  exact⟨sl,i,o k sl l,g⟩
 |.nilp,x,v,h=>by
  replace h:VR D ρ lv .nilp v:=h;show VR D ρ' lv .nilp v
  simpa only[VR]using h
 |.nilf,x,v,h=>by
  replace h:VR D ρ lv .nilf v:=h;show VR D ρ' lv .nilf v
  simpa only[VR]using h
 |.nili,x,v,h=>by
  replace h:VR D ρ lv .nili v:=h;show VR D ρ' lv .nili v
  simpa only[VR]using h
 |.nils,x,v,h=>by
  replace h:VR D ρ lv .nils v:=h;show VR D ρ' lv .nils v
  simpa only[VR]using h
 |.fn f a b,x,v,h=>by
  replace h:VR D ρ lv (.fn f (z41 D (λk=>k) a (HL.fst _ x)) (z41 D (λk=>k) b (HL.snd _ x))) v:=h;show VR D ρ' lv (.fn f (z41 D m a (HL.fst _ x)) (z41 D m b (HL.snd _ x))) v;simp only[VR]at h ⊢;have⟨u,bs,l,g,r⟩:=h
  exact⟨u,bs,l,VRL.maps o hD a g,VRL.maps o hD b r⟩
 |.iface t s,x,v,h=>by
  replace h:VR D ρ lv (.iface t (zmd D (λk=>k) s x)) v:=h;show VR D ρ' lv (.iface t (zmd D m s x)) v;simp only[VR]at h ⊢;have⟨y,l,g⟩:=h
  exact⟨y,l,VR.maps o hD s g⟩
 |.agg cs,x,v,h=>by
  replace h:VR D ρ lv (.agg (z41 D (λk=>k) cs x)) v:=h;show VR D ρ' lv (.agg (z41 D m cs x)) v;simp only[VR]at h ⊢;have⟨y,l,g⟩:=h
  exact⟨y,l,VRL.maps o hD cs g⟩
 |.tup cs,x,v,h=>by
  replace h:VR D ρ lv (.tup (z41 D (λk=>k) cs x)) v:=h;show VR D ρ' lv (.tup (z41 D m cs x)) v;simp only[VR]at h ⊢;have⟨y,l,g⟩:=h
  exact⟨y,l,VRL.maps o hD cs g⟩
 |.ref cs e,x,v,h=>by
  replace h:VR D ρ lv (.ref (z41 D (λk=>k) cs x) e) v:=h;show VR D ρ' lv (.ref (z41 D m cs x) e) v;simp only[VR]at h ⊢;have⟨y,l,g⟩:=h
  exact⟨y,l,VRL.maps o hD cs g⟩
 |.dp k e,x,v,h=>by
  replace h:VR D ρ lv (.dp k x.1 e) v:=h;show VR D ρ' lv (.dp (m k) x.1 e) v;simp only[VR]at h ⊢;have⟨sl,j,q,n,l,g⟩:=h
  exact⟨sl,j,q,n,o k sl l,g⟩
 |.ap k t e,x,v,h=>by
  replace h:VR D ρ lv (.ap k t x.1 x.2.1 e) v:=h;show VR D ρ' lv (.ap (m k) t x.1 x.2.1 e) v;simp only[VR]at h ⊢;have⟨sl,w,l,g⟩:=h;exact⟨sl,w,o k sl l,g⟩
def VRL.maps(a:Maps m ρ ρ')(hD:D.Ok P):∀(l:List Sh) {x:HL D.T (Sh.z45 l)}{vs:List V},VRL D ρ lv (z41 D (λk=>k) l x) vs->VRL D ρ' lv (z41 D m l x) vs
 |[],x,vs,h=>by
  replace h:VRL D ρ lv [] vs:=h;show VRL D ρ' lv [] vs
  simpa only[VRL]using h
 |sh::l,x,vs,h=>by
  replace h:VRL D ρ lv (zmd D (λk=>k) sh (HL.fst _ x)::z41 D (λk=>k) l (HL.snd _ x)) vs:=h;show VRL D ρ' lv (zmd D m sh (HL.fst _ x)::z41 D m l (HL.snd _ x)) vs;simp only[VRL]at h ⊢;have⟨v,r,e,d,b⟩:=h;exact⟨v,r,e,VR.maps a hD sh d,VRL.maps a hD l b⟩
end
def OR.maps(A:Maps m ρ ρ')(hD:D.Ok P){L:List (Option yz5)}{sl:Slot}{o:OSh}{x:HL D.T o.tys}(h:OR D ρ lv L sl (zn0 D (λk=>k) o x)):OR D ρ' lv L sl (zn0 D m o x):=by
 cases o with
 |cells cs=>
  simp only[zn0,OR]at h ⊢;have⟨i,vs,z,y,r⟩:=h
  exact⟨i,vs,z,y,VRL.maps A hD cs r⟩
 |st i=>
  simp only[zn0,OR]at h ⊢;have⟨j,vs,z,y,r⟩:=h;refine⟨j,vs,z,y,.of r.length λk c v l Y =>?_⟩;have:=r.y3q l Y;rw[zie,Qaf]at l;obtain⟨p,hp,rfl⟩:=l
  exact VR.zoy this
 |acc ty t w=>exact h
 |siter=>exact h
 |mp ty t=>exact h
 |mit t=>exact h
 |bld ty k=>
  simp only[zn0,OR]at h ⊢;have⟨i,u,c,z,y,r,E⟩:=h;refine⟨i,u,c,z,y,r,?_⟩;simp only[yng,VR]at E ⊢;have⟨sl,X,U⟩:=E
  exact⟨sl,A k sl X,U⟩
 |deep ty q=>
  replace h:OR D ρ lv L sl (.deep ty q x.1 none):=h;show OR D ρ' lv L sl (.deep ty q x.1 none);simp only[OR]at h ⊢;refine⟨h.1,?_⟩;have g:=h.2
  cases s:sl.k with
  |none=>rw[s]at g;exact g
  |some j=>rw[s]at g;exact g
 |deeph ty q f k=>
  replace h:OR D ρ lv L sl (.deep ty q x.1 (some (x.2.1,f,k))):=h;show OR D ρ' lv L sl (.deep ty q x.1 (some (x.2.1,f,m k)));simp only[OR]at h ⊢;refine⟨h.1,?_⟩;have g:=h.2
  cases s:sl.k with
  |none=>rw[s]at g;cases g.2.2.2
  |some j=>
   rw[s]at g;have⟨C,cp,fps,R,Q,O,N,K,J,I⟩:=g;refine⟨C,cp,fps,R,Q,O,N,K,λn G w c a b d =>?_,λn' B s' e=>by injection e with e;injection e with e4 e5;subst e4;exact I _ _ _ rfl⟩;have⟨vs,cs,a1,a2,a3,a4,a5⟩:=J n G w c a b d;refine⟨vs,cs,a1,a2,a3,a4,λB p u b e1 e2 e3 =>?_⟩;have:=a5 B p u b e1 e2 e3;by_cases l:x.2.1.toNat=n∧f=B
   ·simp only[z2a,Qbx l]at this ⊢;have⟨g1,g2,W,sl',H,Z⟩:=this;exact⟨g1,g2,W,sl',A _ _ H,Z⟩
   ·simp only[z2a,Qby l]at this ⊢;exact this
def zyb:∀(a:List OSh) {k:Nat}{x:HL D.T (z19 a)}{s:Nat}{o:TO D.T},(s,o)∈z86 D m a k x->∃j,k<=j∧j<k+a.length∧s=m j∧∃(osh:OSh) (y:HL D.T osh.tys),o=zn0 D m osh y∧(j,zn0 D (λk=>k) osh y)∈z86 D (λk=>k) a k x
 |[],k,x,s,o,h=>by cases h
 |osh::a,k,x,s,o,h=>by
  replace h:(s,o)∈(m k,zn0 D m osh (HL.fst _ x))::z86 D m a (k+1) (HL.snd _ x):=h
  rcases Qbl.1 h with h|h
  ·injection h with e d;exact⟨k,Qbw _,by simp,e,osh,HL.fst _ x,d,Qak⟩
  ·have⟨j,e,d,l,b,y,i,g⟩:=zyb a h;exact⟨j,by omega,by simp only[List.length_cons];omega,l,b,y,i,Qai _ g⟩
def zwl:∀{M:z6i D.T}{s:Nat}{o:TO D.T},fnd (zl8 D M) s=some o->o = .gone∧∃k,(k,Src.slot s)∈M
 |[],s,o,h=>by simp[zl8,fnd]at h
 |(k,.slot g)::M,s,o,h=>by
  simp only[zl8,yzc]at h;split at h
  ·rename_i e;injection h with h;subst e;exact⟨h.symm,k,Qak⟩
  ·have⟨d,a,b⟩:=zwl h;exact⟨d,a,Qai _ b⟩
 |(k,.nil)::M,s,o,h=>by
  simp only[zl8]at h;have⟨d,a,b⟩:=zwl h;exact⟨d,a,Qai _ b⟩
def zvo:∀{M:z6i D.T}{s:Nat},fnd (zl8 D M) s=none->∀k,(k,Src.slot s)∉M
 |[],s,h,k,hm=>by cases hm
 |(a,.slot b)::M,s,h,k,hm=>by
  simp only[zl8,yzc]at h;split at h
  ·cases h
  ·rename_i e
   rcases Qbl.1 hm with hm|hm
   ·injection hm with _ hm;injection hm with hm;exact e hm.symm
   ·exact zvo h k hm
 |(a,.nil)::M,s,h,k,hm=>by
  simp only[zl8]at h
  rcases Qbl.1 hm with hm|hm
  ·injection hm with _ hm;cases hm
  ·exact zvo h k hm
structure Left(D:Dat)(lv:Nat)(L:List (Option yz5))(ρ:List Slot)(p:Nat)(L':List (Option yz5))(ρ':List Slot)(os:List OSh)(y:HL D.T (z19 os)):Prop where
 len:ρ'.length=os.length
 ob:∀j o,(j,o)∈z86 D (λk=>k) os 0 y->∃sl,ρ'[j]? = some sl∧OR D ρ' lv L' sl o
 inj:∀(s s':Nat) (sl sl':Slot) (i:Nat),ρ'[s]? = some sl->ρ'[s']? = some sl'->sl.has i->sl'.has i->s=s'
 mine:∀(s:Nat) (sl:Slot) (i:Nat),ρ'[s]? = some sl->sl.has i->L.length<=i∨∃(k:Nat) (sl0:Slot),ρ[k]? = some sl0∧sl0.has i
 out:∀i,i<L.length->(∀(k:Nat) (sl0:Slot),ρ[k]? = some sl0->¬sl0.has i)->i<L'.length∧L'[i]? = L[i]?
 pin:∀(j:Nat) (sl:Slot),j<p->ρ[j]? = some sl->ρ'[j]? = some sl
 fpl:∀(s:Nat) (sl:Slot) (i:Nat),ρ'[s]? = some sl->i∈sl.fp->sl.k≠some i∧∃a,L'[i]? = some (some a)
def TRr.after(B:TRr D F ρ ts σ)(hD:D.Ok P){M:z6i D.T}{n p:Nat}(hM:MOk n M){ρ0:List Slot}(hA:Agr ρ M ρ0)(h0:∀j sl,ρ0[j]? = some sl->∃src,fnd M j=some src∧src.is ρ sl∧∀s,src = .slot s->∃o',fnd ts.o s=some o'∧o'.live)
  (hc:∀k s,(k,Src.slot s)∈M->fnd M k=some (.slot s)) (hp:∀k,k<p->∃s,fnd M k=some (.slot s)) {L':List (Option yz5)}{ρ':List Slot}{Z:List OSh}{y:HL D.T (z19 Z)}(he:p<=Z.length) (U:Left D F.lv σ.H.L ρ0 p L' ρ' Z y) :
  TRr D F (ρ++ρ'.drop p) (zej D M p ts Z y) {σ with H:=⟨F.lv,L',F.E⟩}∧Maps (zch D M p ts.nx) ρ' (ρ++ρ'.drop p):=by
 have G:Maps (zch D M p ts.nx) ρ' (ρ++ρ'.drop p):=λj sl hj=>by
  unfold zch;by_cases h5:j<p
  ·rw[Qbx h5];have⟨s,I⟩:=hp j h5;have⟨b,C,w⟩:=hA j _ I;have:=U.pin j b h5 C
   rw[hj]at this;cases this
   rw[I];exact lookup_append w
  ·rw[Qby h5,<-B.nx,Qav (by omega),Qbf];rw[<-hj];congr 1;omega
 have hd:∀j J,j<Z.length->J<Z.length->zch D M p ts.nx j=zch D M p ts.nx J->j=J:=λj J hj hf h=>by
  unfold zch at h
  have h7:∀j s,fnd M j=some (.slot s)->s<ts.nx:=λj s I=>by
   have⟨b,C,w⟩:=hA j _ I;rw[<-B.nx];exact(Qaa.1 w).1
  by_cases r:j<p <;> by_cases u:J<p
  ·rw[Qbx r,Qbx u]at h;have⟨s,I⟩:=hp j r;have⟨s',h8⟩:=hp J u;rw[I,h8]at h;simp only at h;subst h;exact hM.inj j J s I h8
  ·have⟨s,I⟩:=hp j r;rw[Qbx r,Qby u,I]at h;simp only at h;have:=h7 j s I;omega
  ·have⟨s,I⟩:=hp J u;rw[Qby r,Qbx u,I]at h;simp only at h;have:=h7 J s I;omega
  ·rw[Qby r,Qby u]at h;omega
 have kinds:∀s o,fnd (zej D M p ts Z y).o s=some o->(∃j,j<Z.length∧s=zch D M p ts.nx j∧∃(K:OSh) (z:HL D.T K.tys),o=zn0 D (zch D M p ts.nx) K z∧(j,zn0 D (λk=>k) K z)∈z86 D (λk=>k) Z 0 y)∨(o = .gone∧∃k,(k,Src.slot s)∈M)∨(fnd ts.o s=some o∧∀k,(k,Src.slot s)∉M):=λs o h=>by
  simp only[zej]at h;rw[zol]at h;split at h
  ·rename_i o' h6;cases h;have⟨j,r,u,h3,h4⟩:=zyb Z (zat h6);exact .inl ⟨j,by omega,h3,h4⟩
  ·rw[zol]at h;split at h
   ·rename_i o' h6;cases h;have⟨r,u⟩:=zwl h6;exact .inr (.inl ⟨r,u⟩)
   ·rename_i hn;exact .inr (.inr ⟨h,zvo hn⟩)
 have apart:∀s o sl i,fnd ts.o s=some o->o.live->(∀k,(k,Src.slot s)∉M)->ρ[s]? = some sl->sl.has i->∀(k:Nat) (b:Slot),ρ0[k]? = some b->¬b.has i:=λs o sl i ho hl hb I hk k b r u=>by
  have⟨src,C,w,e3⟩:=h0 k b r
  cases src with
  |nil=>simp only[Src.is]at w;subst w;rcases u with h|h <;> cases h
  |slot s0=>
   have⟨o',f1,f2⟩:=e3 s0 rfl;have:=B.inj s s0 o o' sl b i ho f1 hl f2 I w hk u;subst this;exact hb k (zat C)
 have O:∀(k:Nat) (b:Slot) (i:Nat),ρ0[k]? = some b->b.has i->¬F.out i:=λk b i r u=>by
  have⟨src,C,w,e3⟩:=h0 k b r
  cases src with
  |nil=>simp only[Src.is]at w;subst w;rcases u with h|h <;> cases h
  |slot s0=>
   have⟨o',f1,f2⟩:=e3 s0 rfl;exact B.mine s0 o' b i f1 f2 w u
 have W:∀s o sl i,fnd ts.o s=some o->o.live->ρ[s]? = some sl->sl.has i->i<σ.H.L.length:=λs o sl i ho hl I hk=>B.lt ho hl I hk
 have e:∀s o sl,fnd ts.o s=some o->(ρ++ρ'.drop p)[s]? = some sl->ρ[s]? = some sl:=λs o sl ho h=>by
  have⟨q,r,u⟩:=B.ob s o ho;rw[lookup_append r]at h;rw[r,h]
 have l:∀j sl,j<Z.length->(ρ++ρ'.drop p)[zch D M p ts.nx j]? = some sl->ρ'[j]? = some sl:=λj sl hj h=>by
  have h9:j<ρ'.length:=by rw[U.len];exact hj
  have:=G j ρ'[j] (Qab h9)
  rw[this]at h;injection h with h;rw[<-h];exact Qab h9
 refine⟨⟨?_,B.nt,λj x hj =>?_,λs o ho =>?_,λs s' o o' sl sl' i r u R l2 N r2 Q k2 =>?_,λs o sl i r R N Q =>?_,rfl,rfl,B.e0,B.d.more _,λi hi =>?_,λj sl hj=>lookup_append (B.pin j sl hj),λs o sl i r R N Q =>?_,λi s v r u=>(B.g i s v r u).more _⟩,G⟩
 ·simp only[zej,Qap,List.length_drop,U.len,B.nx]
 ·have⟨v,r,u⟩:=B.tm j x hj;exact⟨v,r,u.more _⟩
 ·rcases kinds s o ho with ⟨j,r,u,K,z,h3,h4⟩|⟨rfl,k,r⟩|⟨r,u⟩
  ·have⟨sl,C,w⟩:=U.ob j _ h4;refine⟨sl,by rw[u];exact G j sl C,?_⟩;rw[h3];exact OR.maps G hD w
  ·have⟨b,C,w⟩:=hA k _ (hc k s r);exact⟨b,lookup_append w,by simp only[OR]⟩
  ·have⟨q,C,w⟩:=B.ob s o r;exact⟨q,lookup_append C,w.mono _ λi hi hl=>(U.out i (B.lt r hl C hi) (apart s o q i r hl u C hi)).2⟩
 ·rcases kinds s o r with ⟨j,A,Y,K,z,a3,a4⟩|⟨rfl,k,A⟩|⟨A,Y⟩
  ·rcases kinds s' o' u with ⟨J,X,b2,ha,z',b3,b4⟩|⟨rfl,k',X⟩|⟨X,b2⟩
   ·rw[Y,b2]
    congr 1
    rw[Y]at N;rw[b2]at r2;exact U.inj j J sl sl' i (l j sl A N) (l J sl' X r2) Q k2
   ·exact l2.elim
   ·exfalso
    rw[Y]at N;have q2:=e s' o' sl' X r2
    rcases U.mine j sl i (l j sl A N) Q with h|⟨k,b,C,w⟩
    ·have:=W s' o' sl' i X l2 q2 k2;omega
    ·exact apart s' o' sl' i X l2 b2 q2 k2 k b C w
  ·exact R.elim
  ·rcases kinds s' o' u with ⟨J,X,b2,ha,z',b3,b4⟩|⟨rfl,k',X⟩|⟨X,b2⟩
   ·exfalso
    rw[b2]at r2;have q1:=e s o sl A N
    rcases U.mine J sl' i (l J sl' X r2) k2 with h|⟨k,b,C,w⟩
    ·have:=W s o sl i A R q1 Q;omega
    ·exact apart s o sl i A R Y q1 Q k b C w
   ·exact l2.elim
   ·exact B.inj s s' o o' sl sl' i A X R l2 (e _ _ _ A N) (e _ _ _ X r2) Q k2
 ·rcases kinds s o r with ⟨j,A,Y,K,z,a3,a4⟩|⟨rfl,k,A⟩|⟨A,Y⟩
  ·rw[Y]at N
   rcases U.mine j sl i (l j sl A N) Q with h|⟨k,b,C,w⟩
   ·intro ho;have:=(B.out i ho).1;omega
   ·exact O k b i C w
  ·exact R.elim
  ·exact B.mine s o sl i A R (e _ _ _ A N) Q
 ·have⟨r,u⟩:=B.out i hi;have⟨h3,h4⟩:=U.out i r λk b C w=>O k b i C w hi
  exact⟨h3,h4.trans u⟩
 ·rcases kinds s o r with ⟨j,A,Y,K,z,a3,a4⟩|⟨rfl,k,A⟩|⟨A,Y⟩
  ·rw[Y]at N;exact U.fpl j sl i (l j sl A N) Q
  ·exact R.elim
  ·have q1:=e _ _ _ A N;have hq:=B.fpl s o sl i A R q1 Q;refine⟨hq.1,?_⟩;show ∃a,L'[i]? = _;rw[(U.out i (B.lt A R q1 (.inr Q)) (apart s o sl i A R Y q1 (.inr Q))).2];exact hq.2
end
section
variable {P:Program}{D:Dat}{F:Fr}{ρ:List Slot}{ts:TS D.T}{σ:St}{lv:Nat}
def SlOk(L:List (Option yz5))(b:List Slot):Prop :=
 (∀(s d:Nat) (sl sl':Slot) (i:Nat),b[s]? = some sl->b[d]? = some sl'->sl.has i->sl'.has i->s=d) ∧
 ∀(s:Nat) (sl:Slot) (i:Nat),b[s]? = some sl->i∈sl.fp->sl.k≠some i∧∃a,L[i]? = some (some a)
def Ent.Flat(P:Program)(e:Ent D)(x:HL D.T (Sh.z45 e.args++z19 e.aos))(o:HL D.T (Sh.z45 e.outs++z19 e.ros) ⊕ HL D.T (e.pan.tys++z19 e.pos)):Prop :=
 ∀(lv:Nat) (L:List (Option yz5)) (E:Nat->Nat->Option yz5) (a:List Slot) (vargs:List V),a.length=e.aos.length->VRL D a lv (z41 D (λk=>k) e.args (HL.fst _ x)) vargs ->
  (∀j o,(j,o)∈z86 D (λk=>k) e.aos 0 (HL.snd _ x)->∃sl,a[j]? = some sl∧OR D a lv L sl o) ->
  SlOk L a ->
  y0n P e.f vargs ⟨lv,L,E⟩ λout H'=>∃L' ρ',H'=⟨lv,L',E⟩ ∧
   match o with
   |.inl y=>Left D lv L a e.p L' ρ' e.ros (HL.snd _ y)∧(∀q∈e.ren,∀sl,a[q.1]? = some sl->∃sl',ρ'[q.2]? = some sl'∧sl'.v=sl.v)∧∃vs,out = .ret (ze6 vs)∧VRL D ρ' lv (z41 D (λk=>k) e.outs (HL.fst _ y)) vs
   |.inr y=>Left D lv L a e.p L' ρ' e.pos (HL.snd _ y)∧∃v,out = .pan v∧VR D ρ' lv (zmd D (λk=>k) e.pan (HL.fst _ y)) v
def Ent.Pure(P:Program)(e:Ent D)(x:HL D.T (Sh.z45 e.args++z19 e.aos))(y:HL D.T (Sh.z45 e.outs++z19 e.ros)):Prop :=
 e.aos=[]∧e.ros=[]∧e.ren=[]∧∀(lv:Nat) (vargs:List V),VRL D [] lv (z41 D (λk=>k) e.args (HL.fst _ x)) vargs->∃vs,(∀ρ a,VRL D ρ a (z41 D (λk=>k) e.outs (HL.fst _ y)) vs)∧zw3 P e.f vargs (ze6 vs)
def Ent.Ok(P:Program)(e:Ent D):Prop:=∀(R:Type) (x:HL D.T (Sh.z45 e.args++z19 e.aos)) (k:HL D.T (Sh.z45 e.outs++z19 e.ros)->Option R) (a:HL D.T (e.pan.tys++z19 e.pos)->Option R) (r:R),e.go x k a=some r ->
 match e.pure with
 |true=>∃y,k y=some r∧e.Pure P x y
 |false=>(∃y,k y=some r∧e.Flat P x (.inl y))∨∃y,a y=some r∧e.Flat P x (.inr y)
def TRr.zfu{M:z6i D.T}{p nx:Nat}{g ρ':List Slot}(e:∀k s,fnd M k=some (.slot s)->∃sl,g[k]? = some sl∧ρ[s]? = some sl)(d:Maps (zch D M p nx) ρ' ρ):∀(l:List (Nat×Nat)) {ts:TS D.T},(∀q∈l,∀sl,g[q.1]? = some sl->∃sl',ρ'[q.2]? = some sl'∧sl'.v=sl.v)->TRr D F ρ ts σ->TRr D F ρ (Go.Ab.zfu D M p nx l ts) σ
 |[],ts,_,a=>a
 |q::l,ts,h,a=>by
  simp only[Go.Ab.zfu];split
  ·rename_i s j;have⟨sl,w,u⟩:=e _ _ j;have⟨sl',r,o⟩:=h q Qak sl w;exact TRr.zfu e d l (λq b=>h q (Qai _ b)) (a.zeb _ λx v i=>VR.ren u (d _ _ r) o i)
  ·exact TRr.zfu e d l (λq b=>h q (Qai _ b)) a
variable (hD:D.Ok P)
include hD
theorem VR.ye1{cs:List (TV D.T)}{vs:List V}(h:VRL D ρ lv cs vs):VR D ρ lv (Go.Ab.ye1 D cs) (ze6 vs):=by
 cases cs with
 |nil=>simp only[VRL]at h;subst h;simp only[Go.Ab.ye1,ze6,VR];exact⟨[],rfl,by simp only[VRL]⟩
 |cons c cs=>
  have e:=h;simp only[VRL]at h;obtain⟨v,r,rfl,b,a⟩:=h
  cases cs with
  |nil=>simp only[VRL]at a;subst a;exact b
  |cons d k=>
   have g:=a;simp only[VRL]at a;obtain⟨i,j,rfl,_,_⟩:=a;simp only[Go.Ab.ye1,ze6,VR];exact⟨_,rfl,e⟩
theorem Ent.zni(i:TRr D F ρ ts σ){e:Ent D}{vs:List (TV D.T)}{vargs:List V}{M:z6i D.T}{x:HL D.T (Sh.z45 e.args++z19 e.aos)}(C:VRL D ρ F.lv vs vargs)(h:e.fit D vs ts = .ok (M,x)) :
  MOk e.aos.length M∧∃a:List Slot,a.length=e.aos.length∧Agr ρ M a∧(∀j sl,a[j]? = some sl->∃src,fnd M j=some src∧src.is ρ sl∧∀s,src = .slot s->∃o',fnd ts.o s=some o'∧o'.live) ∧
   VRL D a F.lv (z41 D (λk=>k) e.args (HL.fst _ x)) vargs∧∀j o,(j,o)∈z86 D (λk=>k) e.aos 0 (HL.snd _ x)->∃sl,a[j]? = some sl∧OR D a F.lv σ.H.L sl o:=by
 unfold Ent.fit at h;split at h
 ·rename_i Z y B;split at h
  ·rename_i Y z A;cases h;have⟨X,R,Q⟩:=zfv hD e.args B C;have⟨O,N,u,K⟩:=zq4 hD i e.aos A;have l:MOk e.aos.length M:=N (R ⟨λk src h=>by simp[fnd]at h,λk U s h=>by simp[fnd]at h,λk src h=>by cases h⟩);have⟨a,r,d,J⟩:=ytl i l λj b=>by simpa using u j b
   refine⟨l,a,r,d,λj sl b =>?_,by rw[HL.zpr];exact Q a (O.agr d),λj o g =>?_⟩
   ·have⟨src,q,I⟩:=J j sl b;have⟨w,p,G⟩:=u j (by rw[<-r];exact(Qaa.1 b).1)
    rw[Nat.zero_add,q]at p;cases p
    exact⟨src,q,I,G⟩
   ·rw[HL.zr0]at g;have⟨_,_,_,E⟩:=K a d j o g;exact E
  ·cases h
  ·cases h
 ·cases h
 ·cases h
omit hD in
theorem yxx(a:TRr D F ρ ts σ):{σ with H:=⟨F.lv,σ.H.L,F.E⟩}=σ:=by
 have e:=a.lv;have b:=a.E;have⟨t,⟨l,L,E⟩,d,e0⟩:=σ;simp only at e b;subst e;subst b;rfl
omit hD in
theorem y7n(y:TRr D F ρ ts σ){M:z6i D.T}{n:Nat}(A:MOk n M){r:List Slot}(g:∀j sl,r[j]? = some sl->∃src,fnd M j=some src∧src.is ρ sl∧∀s,src = .slot s->∃o',fnd ts.o s=some o'∧o'.live) :
  SlOk σ.H.L r:=⟨λs u sl sl' i e B b x=>by
 have⟨src,z,a,p⟩:=g s sl e;have⟨d,f1,f2,f3⟩:=g u sl' B
 cases src with
 |nil=>simp only[Src.is]at a;subst a;rcases b with h|h <;> cases h
 |slot q=>
  cases d with
  |nil=>simp only[Src.is]at f2;subst f2;rcases x with h|h <;> cases h
  |slot w=>
   have⟨o,l,k⟩:=p q rfl;have⟨o',E,C⟩:=f3 w rfl;have:=y.inj q w o o' sl sl' i l E k C a f2 b x;subst this
   exact A.inj s u q z f1,λs sl i e b=>by
 have⟨src,z,a,p⟩:=g s sl e
 cases src with
 |nil=>simp only[Src.is]at a;subst a;cases b
 |slot q=>
  have⟨o,l,k⟩:=p q rfl
  exact y.fpl q o sl i l k a b⟩
theorem zlq{R:Type}(C:TRr D F ρ ts σ){f:Nat}{vs:List (TV D.T)}{vargs:List V}{k kp:TV D.T->TS D.T->Option R}{kf:Nat->Option R}{r:R}(hv:VRL D ρ F.lv vs vargs):∀{l:List (Ent D)},(∀e∈l,e.Ok P)->zw2 D f vs ts k kp kf l=some r ->
  ((∃e∈l,e.pure=false)∧∃(u:Out->Heap->Prop),y0n P f vargs σ.H u∧(∀K H',u (.ret K) H'->∃z a ρ',VR D ρ' F.lv z K∧TRr D F ρ' a {σ with H:=H'}∧k z a=some r) ∧
    (∀v H',u (.pan v) H'->∃z a ρ',VR D ρ' F.lv z v∧TRr D F ρ' a {σ with H:=H'}∧kp z a=some r)) ∨
  (∃K,zw3 P f vargs K∧∃z ρ' a,(∀ρ',VR D ρ' F.lv z K)∧TRr D F ρ' a σ∧k z a=some r∧a.t=ts.t∧a.nt=ts.nt)∨∃s,kf s=some r
 |[],_,h=>by simp[zw2,z05q]at h
 |e::l,q,h=>by
  have up:∀{A B:Prop},(((∃e∈l,e.pure=false)∧A)∨B)->((∃e'∈e::l,e'.pure=false)∧A)∨B:=λ{A B} h=>h.imp (λ⟨⟨e',N,h2⟩,h3⟩=>⟨⟨e',Qai _ N,h2⟩,h3⟩) λh=>h
  simp only[zw2]at h;split at h
  ·exact up (zlq C hv (λe he=>q e (Qai _ he)) h)
  ·rename_i hf;have hf:=Qaj hf;subst hf;split at h
   ·exact up (zlq C hv (λe he=>q e (Qai _ he)) h)
   ·exact .inr (.inr ⟨_,h⟩)
   ·rename_i M x h6;split at h
    ·rename_i hc;have⟨c1,c2,c3,c4⟩:=hc;have⟨hM,ρ0,d1,d2,d3,d4,d5⟩:=Ent.zni hD C hv h6
     have hp:∀k,k<e.p->∃s,fnd M k=some (.slot s):=λk hk=>by
      have:=Qat.1 c4 k (List.mem_range.2 hk);split at this
      ·rename_i s hs;exact⟨s,hs⟩
      ·cases this
     have U:∀k s,(k,Src.slot s)∈M->fnd M k=some (.slot s):=λk s hm=>hM.one k _ hm
     have J:=y7n C hM d3;have G:=q e Qak _ _ _ _ _ h
     cases b:e.pure with
     |true=>
      rw[b]at G;have⟨y,Y,O,I,en,g⟩:=G;have h4:ρ0=[]:=Qao (by rw[d1,O];rfl);rw[h4]at d4;have⟨us,f1,f2⟩:=g F.lv vargs d4
      have X:Left D F.lv σ.H.L ρ0 e.p σ.H.L [] e.ros (HL.snd _ y):=by
       refine⟨by rw[I];rfl,λj o hm =>?_,λs s' sl sl' i N=>by simp at N,λs sl i N=>by simp at N,λi hi _=>⟨hi,rfl⟩,λj sl hj hs =>?_,λs sl i N=>by simp at N⟩
       ·have⟨j',_,h5,_⟩:=zyb e.ros hm;rw[I]at h5;simp at h5
       ·rw[h4]at hs;simp at hs
      have⟨Z,g2⟩:=TRr.after C hD hM d2 d3 U hp c2 X;rw[yxx C]at Z;rw[en]at Y
      exact .inr (.inl ⟨_,f2,_,_,_,λρ'=>VR.ye1 hD (VRL.maps (ρ:=[]) (λj sl hj=>by simp at hj) hD e.outs (f1 _ _)),Z,Y,rfl,rfl⟩)
     |false=>
      rw[b]at G;have w:σ.H=⟨F.lv,σ.H.L,F.E⟩:=zto σ.H C.lv C.E;refine .inl ⟨⟨e,Qak,b⟩,?_⟩
      rcases G with ⟨y,Y,d⟩|⟨y,Y,d⟩
      ·have W:=d F.lv σ.H.L F.E ρ0 vargs d1 d4 d5 J;rw[<-w]at W;refine⟨_,W,λK H' ⟨L',ρ',O,I,en,Q,g,e4⟩ =>?_,λv H' ⟨L',ρ',O,I,en,Q,g,e4⟩=>(by cases g)⟩;injection g with g;subst O;subst g;have⟨Z,g2⟩:=TRr.after C hD hM d2 d3 U hp c2 I;exact⟨_,_,_,VR.ye1 hD (VRL.maps g2 hD e.outs e4),Z.zfu (λk s hk=>(d2 k _ hk).imp λsl h=>⟨h.1,lookup_append h.2⟩) g2 _ en,Y⟩
      ·have W:=d F.lv σ.H.L F.E ρ0 vargs d1 d4 d5 J;rw[<-w]at W;refine⟨_,W,λv H' ⟨L',ρ',O,I,Q,g,e4⟩=>(by cases g),λK H' ⟨L',ρ',O,I,Q,g,e4⟩ =>?_⟩;injection g with g;subst O;subst g;have⟨Z,g2⟩:=TRr.after C hD hM d2 d3 U hp c3 I;exact⟨_,_,_,VR.maps g2 hD e.pan e4,Z,Y⟩
    ·cases h
theorem zv0{R:Type}(G:TRr D F ρ ts σ){f:Nat}{vs:List (TV D.T)}{vargs:List V}{Y:z6i D.T->Bool}{k kp:TV D.T->TS D.T->Option R}{r:R}(hv:VRL D ρ F.lv vs vargs):∀{K:List (Ent D)},(∀e∈K,e.Ok P∧e.pure=false)->y7a D f vs ts Y k kp K=some r ->
  ∃(M:z6i D.T) (d:Out->Heap->Prop),Y M=true∧(∀k s,(k,Src.slot s)∈M->∃o',fnd ts.o s=some o'∧o'.live)∧y0n P f vargs σ.H d ∧
   (∀out H',d out H'->H'.lv=F.lv∧∀i,i<σ.H.L.length->(∀k s sl,(k,Src.slot s)∈M->ρ[s]? = some sl->¬sl.has i)->H'.L[i]? = σ.H.L[i]?) ∧
   (∀W H',d (.ret W) H'->∃z l ρ',VR D ρ' F.lv z W∧TRr D F ρ' l {σ with H:=H'}∧k z l=some r) ∧
   (∀v H',d (.pan v) H'->∃z l ρ',VR D ρ' F.lv z v∧TRr D F ρ' l {σ with H:=H'}∧kp z l=some r)
 |[],_,h=>by simp[y7a,z03g]at h
 |e::K,u,h=>by
  simp only[y7a]at h;split at h
  ·exact zv0 G hv (λe he=>u e (Qai _ he)) h
  ·rename_i hf;have hf:=Qaj hf;subst hf;split at h
   ·rename_i M x Z;split at h
    ·rename_i hc;have⟨c0,c1,c2,c3,c4⟩:=hc;have⟨hM,ρ0,d1,d2,d3,d4,d5⟩:=Ent.zni hD G hv Z
     have hp:∀k,k<e.p->∃s,fnd M k=some (.slot s):=λk hk=>by
      have:=Qat.1 c4 k (List.mem_range.2 hk);split at this
      ·rename_i s hs;exact⟨s,hs⟩
      ·cases this
     have C:∀k s,(k,Src.slot s)∈M->fnd M k=some (.slot s):=λk s hm=>hM.one k _ hm
     have I:=y7n G hM d3;have⟨B,N⟩:=u e Qak;have B:=B _ _ _ _ _ h;rw[N]at B;have A:σ.H=⟨F.lv,σ.H.L,F.E⟩:=zto σ.H G.lv G.E
     have w:∀k s,(k,Src.slot s)∈M->∃o',fnd ts.o s=some o'∧o'.live:=λk s hm=>by
      have⟨sl,a,g⟩:=d2 k _ (C k s hm);have⟨src,f1,_,f3⟩:=d3 k sl a
      rw[C k s hm]at f1;injection f1 with f1
      exact f3 s f1.symm
     have frame:∀{p:Nat}{L':List (Option yz5)}{ρ':List Slot}{os:List OSh}{y:HL D.T (z19 os)},Left D F.lv σ.H.L ρ0 p L' ρ' os y->∀i,i<σ.H.L.length->(∀k s sl,(k,Src.slot s)∈M->ρ[s]? = some sl->¬sl.has i)->L'[i]? = σ.H.L[i]? := λ{p L' ρ' os y} hl i O q=>by
      refine(hl.out i O λk X a g =>?_).2;have⟨src,f1,f2,f3⟩:=d3 k X a
      cases src with
      |nil=>simp only[Src.is]at f2;subst f2;rcases g with h|h <;> cases h
      |slot s=>exact q k s X (zat f1) f2 g
     rcases B with ⟨y,hy,b⟩|⟨y,hy,b⟩
     ·have Q:=b F.lv σ.H.L F.E ρ0 vargs d1 d4 d5 I;rw[<-A]at Q;refine⟨M,_,c0,w,Q,λout H' ⟨L',ρ',a,g,_⟩=>⟨by rw[a],λi O q=>by rw[a];exact frame g i O q⟩,λW H' ⟨L',ρ',a,g,en,J,j,U⟩ =>?_,λv H' ⟨L',ρ',a,g,en,J,j,U⟩=>(by cases j)⟩;injection j with j;subst a;subst j;have⟨g1,g2⟩:=TRr.after G hD hM d2 d3 C hp c2 g
      exact⟨_,_,_,VR.ye1 hD (VRL.maps g2 hD e.outs U),g1.zfu (λk s hk=>(d2 k _ hk).imp λsl h=>⟨h.1,lookup_append h.2⟩) g2 _ en,hy⟩
     ·have Q:=b F.lv σ.H.L F.E ρ0 vargs d1 d4 d5 I;rw[<-A]at Q;refine⟨M,_,c0,w,Q,λout H' ⟨L',ρ',a,g,_⟩=>⟨by rw[a],λi O q=>by rw[a];exact frame g i O q⟩,λv H' ⟨L',ρ',a,g,J,j,U⟩=>(by cases j),λW H' ⟨L',ρ',a,g,J,j,U⟩ =>?_⟩;injection j with j;subst a;subst j;have⟨g1,g2⟩:=TRr.after G hD hM d2 d3 C hp c3 g;exact⟨_,_,_,VR.maps g2 hD e.pan U,g1,hy⟩
    ·cases h
   ·exact zv0 G hv (λe he=>u e (Qai _ he)) h
end
end Go.Ab
