/-
  THE TYPED MACHINE: operations on own objects.
-/
import Derived.Test.YthphaiccgnkobaaGreatDoorLib4
import Derived.Test.YthphaiccgnkobaaGreatDoorLib3
set_option linter.defProp false
set_option linter.unusedSectionVars false
set_option linter.unusedSimpArgs false
set_option linter.unusedVariables false
namespace Go.Ab
open Go
section
variable {P:Program}{D:Dat}{F:Fr}{ρ:List Slot}{ts:TS D.T}{σ:St}{lv:Nat}
theorem DO.mono{L L' m t x v l}(h:DO D lv L m t x v l)(g:∀i∈l,L'[i]? = L[i]?):DO D lv L' m t x v l:=by
 induction h with
 |dat h=>exact .dat h
 |nil h o=>exact .nil h o
 |own r e s z d=>
  exact .own (by rw[g _ Qak];exact r) e s λn x w c k j a=>d n x w c k j a λi hi=>g i (Qai _ (List.mem_flatten.2 ⟨c,Qax a,hi⟩))
 |el e y h d=>exact .el e y λf p u b k j a=>d f p u b k j a λi hi=>g i (List.mem_flatten.2 ⟨b,Qax a,hi⟩)
 |elf q h=>exact .elf q h
theorem EO.mono{L L' q h n x w c}(e)(k:EO D ρ lv L q h n x w c)(j:∀i∈c,L'[i]? = L[i]?):EO D (ρ++e) lv L' q h n x w c:=by
 obtain⟨vs,cs,r,o,m,rfl,l⟩:=k;refine⟨vs,cs,r,o,m,rfl,λf p u b g d a =>?_⟩;have:=l f p u b g d a;split at this
 grind
 exact this.mono λi hi=>j i (List.mem_flatten.2 ⟨b,Qax a,hi⟩)
theorem OR.mono{L L' sl o}(h:OR D ρ lv L sl o)(e)(m:∀i,sl.has i->o.live->L'[i]? = L[i]?):OR D (ρ++e) lv L' sl o:=by
 cases o with
 |cells cs=>
  have⟨i,vs,d,l,g⟩:=h
  exact⟨i,vs,d,by rw[m i (.inl d) trivial];exact l,g.more e⟩
 |acc ty t xs w=>
  have⟨d,l,g⟩:=h;refine⟨d,l,?_⟩
  cases r:sl.k with
  |none=>grind
  |some i=>
   rw[r]at g;have⟨p,A,z,y⟩:=g
   exact⟨p,A,z,by rw[m i (.inl r) trivial];exact y⟩
 |siter s Q=>
  have⟨i,d,l⟩:=h
  exact⟨i,d,by rw[m i (.inl d) trivial];exact l⟩
 |mp ty t es=>
  have⟨i,ms,d,l,u,g⟩:=h
  exact⟨i,ms,d,l,u,by rw[m i (.inl d) trivial];exact g⟩
 |mit t last es=>
  have⟨i,K,B,d,l,g,u⟩:=h
  exact⟨i,K,B,d,l,by rw[m i (.inl d) trivial];exact g,u⟩
 |bld ty b=>
  have⟨i,a,c,d,l,g,u⟩:=h
  exact⟨i,a,c,d,by rw[m i (.inl d) trivial];exact l,g,VR.more e u⟩
 |gone=>simp[OR]
 |rig=>exact h
 |deep ty q xs U=>
  have⟨d,g⟩:=h;refine⟨d,?_⟩
  cases r:sl.k with
  |none=>grind
  |some i=>
   rw[r]at g;have⟨p,A,fps,z,y,J,I,G,E,C⟩:=g;refine⟨p,A,fps,z,by rw[m i (.inl r) trivial];exact y,J,I,G,λn x w c O N M=>(E n x w c O N M).mono e λj R=>m j (.inr ?_) trivial,C⟩
   grind[List.mem_flatten]
def OR.at{L sl o i}(h:OR D ρ lv L sl o)(d:o.live)(g:sl.k=some i):∃a,L[i]? = some (some a):=by
 cases o with
 |cells cs=>
  grind[OR]
 |acc ty t xs w=>
  grind[OR]
 |siter s e=>
  grind[OR]
 |mp ty t es=>
  grind[OR]
 |mit t last es=>
  grind[OR]
 |bld ty b=>
  grind[OR]
 |gone=>exact d.elim
 |rig=>grind[OR]
 |deep ty q xs j=>
  grind[OR]
def OR.lt{L sl o i}(h:OR D ρ lv L sl o)(b:o.live)(d:sl.k=some i):i<L.length:=by
 have⟨a,e⟩:=h.at b d
 grind
def TRr.at(g:TRr D F ρ ts σ){s i o sl}(d:fnd ts.o s=some o)(e:o.live)(b:ρ[s]? = some sl)(hk:sl.has i):∃a,σ.H.L[i]? = some (some a):=by
 rcases hk with hk|hk
 have⟨q,h,j⟩:=g.ob s o d;rw[b]at h;cases h;exact j.at e hk;exact(g.fpl s o sl i d e b hk).2
def TRr.lt(h:TRr D F ρ ts σ){s i o sl}(d:fnd ts.o s=some o)(e:o.live)(b:ρ[s]? = some sl)(g:sl.has i):i<σ.H.L.length:=by
 have⟨a,j⟩:=h.at d e b g
 grind
def Slot.y85{sl:Slot}(h:sl.fp=[]){i}(hk:sl.has i):sl.k=some i:=by
 rcases hk with hk|hk
 exact hk
 grind
def TRr.new(l:TRr D F ρ ts σ)(to)(sl)(H')(Z:H'.lv=F.lv)(hE:H'.E=F.E)(hlen:σ.H.L.length<=H'.L.length)(hL:∀i,i<σ.H.L.length->H'.L[i]? = σ.H.L[i]?)
  (U:∀i,sl.k=some i->σ.H.L.length<=i) (h3:OR D (ρ++[sl]) F.lv H'.L sl to) (J:sl.fp=[]:=by rfl):TRr D F (ρ++[sl]) (ts.new D to) {σ with H:=H'}:=by
 have u:(ρ++[sl])[ts.nx]? = some sl:=by rw[<-l.nx];simp
 have N:∀s o sl',fnd ts.o s=some o->ρ[s]? = some sl'->∀i,sl'.has i->o.live->i<σ.H.L.length:=λs o sl' G p i hi R=>l.lt G R p hi
 have m:∀s o,ts.nx≠s->fnd (ts.new D to).o s=some o->fnd ts.o s=some o:=λs o Y h=>by
  simp_all[TS.new,yzc]
 have b:∀s o sl',fnd ts.o s=some o->(ρ++[sl])[s]? = some sl'->ρ[s]? = some sl':=λs o sl' G h=>by
  have⟨q,n,y⟩:=l.ob s o G
  grind
 refine⟨by simp[TS.new,l.nx],l.nt,λj x X =>?_,λs o G =>?_,λs I o o' e z i n y K l2 w O C Q =>?_,λs o e i n K w C =>?_,Z,hE,l.e0,l.d.more _,λi hi =>?_,λj sl X=>lookup_append (l.pin j sl X),λs o e i n K w C =>?_,λi s v n y=>(l.g i s v n y).more _⟩;have⟨v,n,y⟩:=l.tm j x X;exact⟨v,n,y.more _⟩;by_cases p:ts.nx=s
 simp_all[TS.new,yzc]
 have⟨q,n,y⟩:=l.ob s o (m s o p G);exact⟨q,lookup_append n,y.mono _ λi hi R=>hL i (l.lt (m s o p G) R n hi)⟩;by_cases p:ts.nx=s <;> by_cases A:ts.nx=I
 rw[<-p,<-A];subst p;rw[u]at w;cases w;have M:=m I o' A y;have:=N I o' z M (b I o' z M O) i Q l2;have:=U i (Slot.y85 J C);omega;subst A;rw[u]at O;cases O;have M:=m s o p n;have:=N s o e M (b s o e M w) i C K;have:=U i (Slot.y85 J Q);omega;have B:=m s o p n;have W:=m I o' A y
 exact l.inj s I o o' e z i B W K l2 (b s o e B w) (b I o' z W O) C Q;by_cases p:ts.nx=s;subst p;rw[u]at w;cases w;intro G;have:=(l.out i G).1;have:=U i (Slot.y85 J C);omega;have B:=m s o p n;exact l.mine s o e i B K (b s o e B w) C;have⟨n,y⟩:=l.out i hi
 grind
 by_cases p:ts.nx=s
 grind
 have B:=m s o p n;have r:=b s o e B w;have⟨Y,a,ha⟩:=l.fpl s o e i B K r C
 grind
def z0f8{L:List (Option yzm)}{i j:Nat}(h:∃a,L[j]? = some (some a))(b):∃a,(L.set i (some b))[j]? = some (some a):=by
 grind
def TRr.upd(b:TRr D F ρ ts σ){s i G sl}(Z:fnd ts.o s=some G)(hl:G.live)(W:ρ[s]? = some sl)(hk:sl.k=some i)(to)(N)
  (h3:OR D ρ F.lv (σ.H.L.set i (some N)) sl to):TRr D F ρ (ts.set D s to) {σ with H:={σ.H with L:=σ.H.L.set i (some N)}}:=by
 have U:∀m o,s≠m->fnd (ts.set D s to).o m=some o->fnd ts.o m=some o:=λm o C h=>by
  simp_all[TS.set,yzc]
 have a:∀m o,fnd (ts.set D s to).o m=some o->o.live->∃o',fnd ts.o m=some o'∧o'.live:=λm o h l=>by
  grind
 refine⟨b.nx,b.nt,b.tm,λm o ho =>?_,λw Y z o2 n O i' u J A l2 x r2 B k2 =>?_,λw z n K u A x B =>?_,b.lv,b.E,b.e0,b.d,λj I =>?_,b.pin,λw z n K u A x B =>?_,b.g⟩;by_cases he:s=m
 simp_all[TS.set,yzc]
 have M:=U m o he ho;have⟨q,u,J⟩:=b.ob m o M;refine⟨q,u,?_⟩;have:=J.mono (L':=σ.H.L.set i (some N)) [] λj I X =>?_
 simpa using this
 have C:i≠j:=λe=>by
  subst e;exact he (b.inj s m G o sl q i Z M hl X W u (.inl hk) I)
 grind
 have⟨p,y,r⟩:=a w z u A;have⟨Q,q2,R⟩:=a Y o2 J l2;exact b.inj w Y p Q n O i' y q2 r R x r2 B k2;have⟨p,y,r⟩:=a w z u A;exact b.mine w p n K y r x B;have⟨u,J⟩:=b.out j I;refine⟨by simpa using u,?_⟩;have C:i≠j:=λe=>by subst e;exact b.mine s G sl i Z hl W (.inl hk) I
 grind
 have⟨p,y,r⟩:=a w z u A;have M:=b.fpl w p n K y r x B
 grind
def TRr.move(b:TRr D F ρ ts σ){s i K sl}(O:fnd ts.o s=some K)(U:K.live)(Q:ρ[s]? = some sl)(hk:sl.k=some i)(to)(ao)(sl')(h5:sl'.k=some i)
  (h6:OR D (ρ++[sl']) F.lv (σ.H.L.set i (some ao)) sl' to) (W:∀x,x∈sl'.fp->x∈sl.fp:=by exact λ_ h=>by cases h):TRr D F (ρ++[sl']) ((ts.new D to).set D s .gone) {σ with H:={σ.H with L:=σ.H.L.set i (some ao)}}:=by
 have y:∀x,sl'.has x->sl.has x:=λx h=>h.elim (λh=>.inl (by rw[<-h,h5,hk])) λh=>.inr (W x h)
 have p:(ρ++[sl'])[ts.nx]? = some sl':=by rw[<-b.nx];simp
 have r:∀m o,o.live->fnd ((ts.new D to).set D s .gone).o m=some o->s≠m∧((ts.nx=m∧o=to)∨(ts.nx≠m∧fnd ts.o m=some o)):=λm o w h=>by
  by_cases he:s=m;subst he;simp[TS.set,yzc,Qbn]at h;subst h;exact w.elim;simp[TS.set,TS.new,yzc,Qbr he]at h;by_cases hn:ts.nx=m
  simp_all
  grind
 have a:∀s o l,fnd ts.o s=some o->(ρ++[sl'])[s]? = some l->ρ[s]? = some l:=λs o l N h=>by
  have⟨q,n,A⟩:=b.ob s o N
  grind
 refine⟨by simp[TS.new,TS.set,b.nx],b.nt,λj x M =>?_,λm o N =>?_,λB s2 C o2 l Z i' n A G l2 u r2 I k2 =>?_,λB C l X n G u I =>?_,b.lv,b.E,b.e0,b.d.more _,λj M =>?_,λj sl M=>lookup_append (b.pin j sl M),λB C l X n G u I =>?_,λi s v n A=>(b.g i s v n A).more _⟩;have⟨v,n,A⟩:=b.tm j x M;exact⟨v,n,A.more _⟩;by_cases w:o.live
 rcases(r m o w N).2 with ⟨hn,rfl⟩|⟨hn,R⟩
 grind
 have⟨q,n,A⟩:=b.ob m o R;refine⟨q,lookup_append n,A.mono [sl'] λj M h4 =>?_⟩
 have h3:i≠j:=λe=>by
  subst e;exact(r m o w N).1 (b.inj s m K o sl q i O R U h4 Q n (.inl hk) M)
 grind
 have hg:o = .gone:=by cases o <;> first|rfl|exact(w trivial).elim
 subst hg;by_cases he:s=m
 grind[OR]
 simp[TS.set,TS.new,yzc,Qbr he]at N;by_cases hn:ts.nx=m
 grind
 rw[Qbr hn]at N;have⟨q,n,A⟩:=b.ob m _ N
 grind[OR]
 have⟨n1,Y⟩:=r B C G n;have⟨n2,c2⟩:=r s2 o2 l2 A
 rcases Y with ⟨J,rfl⟩|⟨J,z⟩ <;> rcases c2 with ⟨e2,rfl⟩|⟨e2,q2⟩
 rw[<-J,<-e2];subst J;rw[p]at u;cases u;exact(n2 (b.inj s s2 K o2 sl Z i' O q2 U l2 Q (a _ _ _ q2 r2) (y _ I) k2)).elim;subst e2;rw[p]at r2;cases r2;exact(n1 (b.inj s B K C sl l i' O z U G Q (a _ _ _ z u) (y _ k2) I)).elim;exact b.inj B s2 C o2 l Z i' z q2 G l2 (a _ _ _ z u) (a _ _ _ q2 r2) I k2;have⟨n1,Y⟩:=r B C G n
 rcases Y with ⟨J,rfl⟩|⟨J,z⟩
 subst J;rw[p]at u;cases u;exact b.mine s K sl X O U Q (y _ I);exact b.mine B C l X z G (a _ _ _ z u) I;have⟨n,A⟩:=b.out j M;refine⟨by simpa using n,?_⟩;have h3:i≠j:=λe=>by subst e;exact b.mine s K sl i O U Q (.inl hk) M
 grind
 have⟨n1,Y⟩:=r B C G n
 rcases Y with ⟨J,rfl⟩|⟨J,z⟩
 subst J;rw[p]at u;cases u;have R:=b.fpl s K sl X O U Q (W _ I)
 grind
 have R:=b.fpl B C l X z G (a _ _ _ z u) I;exact⟨R.1,z0f8 R.2 ao⟩
def TRr.drop(a:TRr D F ρ ts σ)(s)(y:s<ts.nx):TRr D F ρ (ts.set D s .gone) σ:=by
 have e:∀k o,o.live->fnd (ts.set D s .gone).o k=some o->fnd ts.o k=some o:=λk o z h=>by
  simp[TS.set,yzc]at h;split at h;cases h;exact z.elim;exact h
 refine⟨a.nx,a.nt,a.tm,λk o n =>?_,λj u l w b q x m A i r=>a.inj j u l w b q x (e _ _ i m) (e _ _ r A) i r,λj l b p m i=>a.mine j l b p (e _ _ i m) i,a.lv,a.E,a.e0,a.d,a.out,a.pin,λj l b p m i=>a.fpl j l b p (e _ _ i m) i,a.g⟩;simp[TS.set,yzc]at n;split at n;rename_i B;cases n;have:s<ρ.length:=by rw[a.nx];exact y
 simp_all[OR]
 exact a.ob k o n
mutual
def VR.ren{s w:Nat}{sl sl':Slot}(p:ρ[s]? = some sl)(o:ρ[w]? = some sl')(l:sl'.v=sl.v):∀{x:TV D.T}{v:V},VR D ρ lv x v->VR D ρ lv (TV.ren D s w x) v
 |.own j,v,h=>by
  simp only[TV.ren];split;rename_i r;subst r;simp only[VR]at h ⊢;have⟨q,d,e,y⟩:=h
  rw[p]at d;cases d
  exact⟨sl',o,by rw[l];exact e,y⟩
  exact h
 |.dp j i g,v,h=>by
  simp only[TV.ren];split;rename_i r;subst r;simp only[VR]at h ⊢;have⟨q,z,u,m,d,e⟩:=h
  rw[p]at d;cases d
  exact⟨sl',z,u,m,o,by rw[l];exact e⟩
  exact h
 |.bsl q cs,v,h=>by simp only[TV.ren,VR]at h ⊢;have⟨vs,d,e⟩:=h;exact⟨vs,d,VRL.ren p o l e⟩
 |.agg cs,v,h=>by simp only[TV.ren,VR]at h ⊢;have⟨vs,d,e⟩:=h;exact⟨vs,d,VRL.ren p o l e⟩
 |.tup cs,v,h=>by simp only[TV.ren,VR]at h ⊢;have⟨vs,d,e⟩:=h;exact⟨vs,d,VRL.ren p o l e⟩
 |.any,v,h=>by simpa only[TV.ren]using h
 |.bool b,v,h=>by simpa only[TV.ren]using h
 |.int k n,v,h=>by simpa only[TV.ren]using h
 |.str b,v,h=>by simpa only[TV.ren]using h
 |.nilp,v,h=>by simpa only[TV.ren]using h
 |.nils,v,h=>by simpa only[TV.ren]using h
 |.mapn,v,h=>by simpa only[TV.ren]using h
 |.nilf,v,h=>by simpa only[TV.ren]using h
 |.nili,v,h=>by simpa only[TV.ren]using h
 |.sl t xs A,v,h=>by simpa only[TV.ren]using h
 |.ptr j g,v,h=>by simpa only[TV.ren]using h
 |.bp j g,v,h=>by simpa only[TV.ren]using h
 |.osl j lo,v,h=>by simpa only[TV.ren]using h
 |.map j,v,h=>by simpa only[TV.ren]using h
 |.mc t es,v,h=>by simpa only[TV.ren]using h
 |.ref cs g,v,h=>by simpa only[TV.ren]using h
 |.ap j t i x g,v,h=>by simpa only[TV.ren]using h
 |.fn f a b,v,h=>by simpa only[TV.ren]using h
 |.iface t x,v,h=>by simpa only[TV.ren]using h
def VRL.ren{s a:Nat}{sl sl':Slot}(e:ρ[s]? = some sl)(d:ρ[a]? = some sl')(b:sl'.v=sl.v):∀{cs:List (TV D.T)}{vs:List V},VRL D ρ lv cs vs->VRL D ρ lv (TV.zyg D s a cs) vs
 |[],vs,h=>by simpa only[TV.zyg]using h
 |c::cs,vs,h=>by simp only[TV.zyg,VRL]at h ⊢;have⟨v,r,j,i,g⟩:=h;exact⟨v,r,j,VR.ren e d b i,VRL.ren e d b g⟩
end
def z02k{ρ ρ'}{g:List (Option Nat)}{f}{i s:Nat}{v}(j:∀a b,f (.own a) = .own b->∀u,VR D ρ lv (.own a) u->VR D ρ' lv (.own b) u)(e:∀a,g[i]? = some (some a)->VR D ρ lv (.own a) v)(h:(g.map (gmap D f))[i]? = some (some s)):VR D ρ' lv (.own s) v:=by
 rw[Qan,Qaf]at h;have⟨o,k,d⟩:=h
 cases o with
 |none=>cases d
 |some a=>
  grind[gmap]
def TRr.zf2(z:TRr D F ρ ts σ)(f)(Y:∀x v,VR D ρ F.lv x v->VR D ρ F.lv (f x) v):TRr D F ρ (ts.zf2 D f) σ:=by
 have l:∀o:TO D.T,(TO.map D f o).live->o.live:=λo h=>by cases o <;> first|exact h|trivial
 have C:∀s o,fnd (ts.zf2 D f).o s=some o->∃o',fnd ts.o s=some o'∧o=TO.map D f o':=λs o h=>by
  simp[TS.zf2]at h;rw[zo5 (TO.map D f),Qaf]at h
  grind
 refine⟨z.nx,z.nt,λj x hj =>?_,λs o ho =>?_,λI H Q o2 A U i G Z R l2 =>?_,λI Q A i G R =>?_,z.lv,z.E,z.e0,z.d.imp _ (λxs vs k=>VRL.of (by simp[k.length]) λj c v K W=>by
  rw[Qan,Qaf]at K;obtain⟨c0,h7,rfl⟩:=K
  exact Y _ _ (k.y63 h7 W)),z.out,z.pin,λI Q A i G R =>?_,λi s v G Z=>z02k (λN s' e u hu=>by grind) (λN e=>z.g i N v e Z) G⟩
 simp[TS.zf2]at hj;rw[zo5 f,Qaf]at hj;obtain⟨y,hy,rfl⟩:=hj;have⟨v,G,Z⟩:=z.tm j y hy
 grind
 obtain⟨o',G,rfl⟩:=C s o ho;have⟨sl,k1,r⟩:=z.ob s o' G;refine⟨sl,k1,?_⟩
 cases o' with
 |cells cs=>
  simp[OR]at r ⊢;have⟨i,vs,J,O,X⟩:=r;refine⟨i,vs,J,O,.of (by simp[X.length]) λj c v K W =>?_⟩;rw[Qan,Qaf]at K;obtain⟨c',h8,rfl⟩:=K
  exact Y _ _ (X.y63 h8 W)
 |acc ty t xs w=>exact r
 |siter s h9=>exact r
 |rig=>exact r
 |mp ty t es=>exact r
 |mit t last es=>exact r
 |bld ty b=>
  cases b with
  |none=>exact r
  |some q=>
   simp only[OR]at r;have⟨i,a,c,J,O,X,q4⟩:=r;have h5:VR D ρ F.lv (f (.own q)) c:=Y _ _ q4;simp[TO.map];split;rename_i s' h6;rw[h6]at h5;simp only[OR];exact⟨i,a,c,J,O,X,h5⟩
   simp[OR]
 |gone=>exact r
 |deep ty q xs hh=>
  cases hh with
  |none=>exact r
  |some p=>
   have⟨n,c,N⟩:=p;simp[TO.map];split;rename_i I ha;simp only[OR]at r ⊢;refine⟨r.1,?_⟩;have k3:=r.2
   cases hk:sl.k with
   |none=>grind
   |some j=>
    rw[hk]at k3;have⟨h3,cp,fps,a1,a2,a3,a4,a5,a6,a7⟩:=k3;refine⟨h3,cp,fps,a1,a2,a3,a4,a5,λm x w b e1 e2 e3 =>?_,λn' f' s' e =>?_⟩;have⟨vs,cs,b1,b2,b3,b4,b5⟩:=a6 m x w b e1 e2 e3;refine⟨vs,cs,b1,b2,b3,b4,λf p u d g1 g2 g3 =>?_⟩;have:=b5 f p u d g1 g2 g3;unfold z4j at this ⊢;simp at this ⊢;split at this;rename_i H M;split at M;rename_i K;cases M;rw[Qbq K];have⟨d1,d2,hb,U,d3,d4⟩:=this
    have h5:=Y (.own N) u (by grind[VR])
    grind[VR]
    cases M
    simp_all[Qbr]
    simp[Qbs]at e;obtain⟨rfl,rfl,rfl⟩:=e;exact a7 n c N rfl
   simp[OR]
 obtain⟨B,J,rfl⟩:=C I Q G;obtain⟨h4,O,rfl⟩:=C H o2 Z;exact z.inj I H B h4 A U i J O (l _ R) (l _ l2);obtain⟨B,J,rfl⟩:=C I Q G;exact z.mine I B A i J (l _ R);obtain⟨B,J,rfl⟩:=C I Q G;exact z.fpl I B A i J (l _ R)
theorem TRr.put(a:TRr D F ρ ts σ){b x v e}(h:ts.put D b x=some e)(l:VR D ρ F.lv x v):TRr D F ρ e (σ.put b v):=by
 cases b with
 |none=>simp[TS.put,Qbn]at h;subst h;exact a
 |some d=>
  simp only[TS.put]at h;split at h;rename_i m;cases h;refine⟨a.nx,by simp[St.put,a.nt],λj y i =>?_,a.ob,a.inj,a.mine,a.lv,a.E,a.e0,a.d,a.out,a.pin,a.fpl,a.g⟩;rw[yzc]at i;simp[St.put];split at i;rename_i k;cases i;subst k;exact⟨v,by rw[Qaq (by rw[a.nt];exact m)],l⟩;rename_i k;have⟨u,o,n⟩:=a.tm j y i
  grind
  cases h
def TRr.tell(a:TRr D F ρ ts σ){d x v}(h:σ.t[d]? = some v)(e:VR D ρ F.lv x v):TRr D F ρ {ts with t:=(d,x)::ts.t} σ:=by
 refine⟨a.nx,a.nt,λj y b =>?_,a.ob,a.inj,a.mine,a.lv,a.E,a.e0,a.d,a.out,a.pin,a.fpl,a.g⟩;rw[yzc]at b;split at b
 grind
 exact a.tm j y b
end
section
variable {P:Program}{D:Dat}
def y8b:∀{l cs z},zcr D l cs = .ok z->∀(j) (p),HL.nth l z j=some p->∃c,cs[j]? = some c∧zlh D p.1 c = .ok p.2
 |[],cs,z,h,j,p,a=>by simp[HL.nth]at a
 |t::l,[],z,h,j,p,a=>by simp[zcr]at h
 |t::l,c::cs,z,h,j,p,a=>by
  simp[zcr]at h;split at h;rename_i y e;split at h;rename_i d b;cases h
  cases j with
  |zero=>simp[HL.nth,Qbn]at a;grind
  |succ j=>
   have⟨k,i,g⟩:=y8b b j p a
   grind
  cases h;cases h;cases h;cases h
theorem yx6{t x y}(h:zlh D t (D.leaf t x) = .ok y):y=x:=by
 cases t with
 |bool=>grind[Dat.leaf,zlh]
 |int k=>simp_all[Dat.leaf,zlh]
 |str=>grind[Dat.leaf,zlh]
 |nat=>simp[zlh]at h
 |st i=>simp[zlh]at h
 |sl t=>
  simp_all[Dat.leaf,zlh,zgp,FR.of]
end
theorem zgs:∀(l:List (List Nat)) (n) (c a b),l[n]? = some c->c.Perm (a++b)->l.flatten.Perm (a++(l.set n b).flatten)
 |[],n,c,a,b,h,_=>by simp at h
 |x::l,0,c,a,b,h,d=>by
  grind
 |x::l,n+1,c,a,b,h,d=>by
  refine((zgs l n c a b (by simpa using h) d).append_left x).trans ?_
  grind
section
variable {P:Program}{D:Dat}{F:Fr}{ρ:List Slot}{ts:TS D.T}{σ:St}{lv:Nat}{L:List (Option yzm)}
def zsx(D:Dat)(ρ:List Slot)(lv:Nat)(L:List (Option yzm))(q f:Nat)(hole:Option (Nat×Nat))(p:(t:DTy)×t.S D.T)(u:V):Prop :=
 match (match hole with|some (a,c)=>(if a=f then some c else none)|none=>none)with
 |some c=>(D.ow q f).isSome=true∧u.leaf=true∧∃sl,ρ[c]? = some sl∧u=sl.v
 |none=>DO D lv L (omOf (D.ow q f)) p.1 p.2 u []
def zss{q:Nat}:∀{l:List DTy}{cs:List (TV D.T)}{vs:List V}{f0:Nat}{r:HL D.T l×Option (Nat×Nat)},yd6 D q l cs f0 = .ok r->VRL D ρ lv cs vs ->
  cs.length=l.length∧(∀g c,r.2=some (g,c)->f0<=g∧g<f0+l.length)∧∀(f:Nat) (p:(t:DTy)×t.S D.T) (u:V),HL.nth l r.1 f=some p->vs[f]? = some u->zsx D ρ lv L q (f0+f) r.2 p u
 |[],[],vs,f0,r,h,o=>by
  cases h
  exact⟨rfl,λg c e=>(by cases e),λf p u b=>(by simp[HL.nth]at b)⟩
 |[],c::cs,vs,f0,r,h,o=>by cases h
 |t::l,[],vs,f0,r,h,o=>by cases h
 |t::l,c::cs,vs,f0,r,h,o=>by
  simp only[VRL]at o;obtain⟨v,M,rfl,i,w⟩:=o;unfold yd6 at h;split at h;rename_i j;split at h;rename_i x J;split at h;rename_i n k;cases h;have⟨A,s,z⟩:=zss k w;refine⟨by simp[A],λg y e=>by have:=s g y e;simp only[List.length_cons];omega,λf p u b d =>?_⟩
  cases f with
  |zero=>
   simp only[HL.nth,Qbn]at b;simp only[Qbv,Qbn]at d;subst b;subst d;unfold zsx
   have m:(match n.2 with|some (C,c)=>(if C=f0+0 then some c else none)|none=>none)=none:=by
    cases B:n.2 with
    |none=>rfl
    |some g=>have:=s g.1 g.2 B;simp only;rw[Qbr (by omega)]
   simp only[m];rw[Nat.add_zero,j]
   exact .dat (zoa J i)
  |succ f=>
   have:=z f p u (by simpa[HL.nth]using b) (by simpa using d);rw[show f0+(f+1)=f0+1+f by omega];exact this
  cases h;cases h;cases h;cases h;rename_i ty j;split at h;rename_i n k;have⟨A,s,z⟩:=zss k w
  have m:(match n.2 with|some (C,c)=>(if C=f0+0 then some c else none)|none=>none)=none:=by
   cases B:n.2 with
   |none=>rfl
   |some g=>have:=s g.1 g.2 B;simp only;rw[Qbr (by omega)]
  split at h;rename_i x a;cases h;refine⟨by simp[A],λg y e=>by have:=s g y e;simp only[List.length_cons];omega,λf p u b d =>?_⟩
  cases f with
  |zero=>
   simp only[HL.nth,Qbn]at b;simp only[Qbv,Qbn]at d;subst b;subst d;unfold zsx;simp only[m];rw[Nat.add_zero,j];unfold z07l at a;split at a;injection a with a;cases a;simp only[VR]at i;subst i;exact .nil (.nil _) (.inl rfl);injection a with a;injection a with _ a;cases a
   cases a
  |succ f=>
   have:=z f p u (by simpa[HL.nth]using b) (by simpa using d);rw[show f0+(f+1)=f0+1+f by omega];exact this
  rename_i x y a;split at h;rename_i E;cases h;refine⟨by simp[A],λg N e=>(by injection e with e;injection e with I G;simp only[List.length_cons];omega),λf p u b d =>?_⟩
  cases f with
  |zero=>
   simp only[HL.nth,Qbn]at b;simp only[Qbv,Qbn]at d;subst b;subst d;unfold zsx;simp only[Nat.add_zero,if_true];unfold z07l at a;split at a;injection a with a;injection a with _ a;cases a;injection a with a;injection a with _ a;cases a;simp only[VR]at i;have⟨sl,I,G,K⟩:=i;exact⟨by rw[j];rfl,K,sl,I,G⟩
   cases a
  |succ f=>
   have:=z f p u (by simpa[HL.nth]using b) (by simpa using d);rw[show f0+(f+1)=f0+1+f by omega];unfold zsx at this ⊢;rw[E]at this;simp only at this ⊢;rw[Qbr (by omega)];exact this
  cases h;cases h;cases h;cases h
def z079{q n x hole i a}(hD:D.Ok P)(hi:i.toNat=n)(j:a.length=(D.fl q).length)(h:∀(f:Nat) (p:(t:DTy)×t.S D.T) (u:V),HL.nth (D.fl q) x f=some p->a[f]? = some u->zsx D ρ lv L q f hole p u) :
  EO D ρ lv L q (hole.map λp=>(i,p.1,p.2)) n (D.make q x) (.agg a) []:=by
 have d:([]:List Nat)=(List.replicate (D.fl q).length ([]:List Nat)).flatten:=by
  grind[List.flatten_eq_nil_iff]
 refine⟨a,List.replicate (D.fl q).length [],rfl,j,by simp,d,λf p u b e l r =>?_⟩;rw[hD.getMake]at e
 have k:b=[]:=by
  grind
 subst k;have:=h f p u e l;unfold zsx at this
 cases hole with
 |none=>exact this
 |some g=>
  have⟨m,c⟩:=g;simp[z4j]at this ⊢;by_cases o:m=f
  simp_all
  simp_all
def EO.ygx{q n x w c}(h:EO D ρ lv L q none n x w c)(a)(A:∀d j i,a=some (d,j,i)->d.toNat≠n):EO D ρ lv L q a n x w c:=by
 have⟨vs,cs,z,y,s,r,o⟩:=h;refine⟨vs,cs,z,y,s,r,λf p u b m l k =>?_⟩;have:=o f p u b m l k
 have e:z4j a n f=none:=by
  cases a with
  |none=>rfl
  |some g=>have⟨d,j,i⟩:=g;simp[z4j];grind
 rw[e];exact this
end
section
variable {P:Program}{D:Dat}{F:Fr}{ρ:List Slot}{ts:TS D.T}{σ:St}{lv:Nat}
def yxb{H f op v}(h:pv P H f op=some v):ox P H f op=some (v,H):=by
 cases op
 case call c=>
  grind[pv,ox,zf9]
 all_goals first
  |(unfold ox;simp[h,Qbk];done)
  |(simp[pv]at h;done)
def ztz(H:Heap)(a:H.lv=F.lv)(b:H.E=F.E):H=⟨F.lv,H.L,F.E⟩:=by cases H;grind
def TRr.yaz(a:TRr D F ρ ts σ)(i)(o):σ.H.set F.lv i o={σ.H with L:=σ.H.L.set i (some o)}:=by
 unfold Heap.set;rw[Qbq a.lv.symm]
variable (hD:D.Ok P)
include hD
theorem TRr.yho(a:TRr D F ρ ts σ){cs vs}(h:VRL D ρ F.lv cs vs) :
  TRr D F (ρ++[⟨.any,some σ.H.L.length,[],[]⟩]) (ts.new D (.cells cs)) {σ with H:=σ.H.push (.cells vs)}∧VR D (ρ++[⟨.any,some σ.H.L.length,[],[]⟩]) F.lv (.ptr ts.nx 0) (.ptr σ.H.lv σ.H.L.length 0):=by
 refine⟨a.new _ _ _ a.lv a.E (by simp[Heap.push]) (λi hi=>by grind[Heap.push]) (λi hi=>by grind) ?_,?_⟩;simp only[OR];exact⟨σ.H.L.length,vs,rfl,by simp[Heap.push],h.more _⟩;exact⟨⟨.any,some σ.H.L.length,[],[]⟩,σ.H.L.length,by rw[<-a.nx];simp,rfl,by rw[a.lv]⟩
omit hD in
theorem DR.one{t x v}(h:DR D t x v)(a:∀i,t ≠ .st i)(b:t ≠ .nat):v.cells=[v]∧v.leaf=true∧(∀c,ze9 v [c]=c)∧∀c:V,c.leaf=true->fits v [c]=true:=by
 cases h with
 |st=>exact(a _ rfl).elim
 |enc=>exact(a _ rfl).elim
 |nat=>exact(b rfl).elim
 |_=>exact⟨rfl,rfl,λ_=>rfl,λc d=>d⟩
theorem DR.ze9{t y z w g x a}(n:DR D t y w)(p:VR D ρ lv x g)(l:x.yzo=true)(r:a+x.cells.length<=(D.tv t y).cells.length)
  (m:asD D t (match D.tv t y with| .agg b=>.agg (zm9 b a x.cells)|_=>x) = .ok z) (q:t ≠ .nat) :
  DR D t z (Go.Ab.ze9 w (z0m w.cells a g.cells))∧fits w (z0m w.cells a g.cells)=true∧a+g.cells.length<=w.cells.length:=by
 have u:=VR.yta (ρ:=ρ) (lv:=lv) hD n;have h:=p.cells l;have hlen:=h.length;have o:=u.length;refine⟨?_,?_,by omega⟩
 all_goals
  by_cases j:∃i,t = .st i;obtain⟨i,rfl⟩:=j;obtain⟨A,rfl,C,B⟩:=DR.agg hD n
  first
   |rfl
   |(simp[Dat.tv]at m
     refine zli (ρ:=ρ) (lv:=lv) hD m ?_;simp only[VR]
     exact⟨_,rfl,VRL.z0m (by grind[Dat.tv,TV.cells]) h a⟩)
  have k:=λi e=>j ⟨i,e⟩
  have d:(match D.tv t y with| .agg b=>TV.agg (zm9 b a x.cells)|_=>x)=x:=by
   cases t with
   |st i=>grind
   |_=>rfl
  rw[d]at m;have s:=zli hD m p;have⟨M,K,J,I⟩:=n.one k q;have⟨b1,b2,G,E⟩:=s.one k q;have:z0m [w] 0 [g]=[g]:=rfl
  grind
theorem yyk(O:TRr D F ρ ts σ){s j ty q a i xs h sl g B}{fps:List (List Nat)}(ho:fnd ts.o s=some (.deep ty q xs h))(Q:ρ[s]? = some sl)(hk:sl.k=some j)
  (q1:sl.ws.length=xs.length) (e1:sl.v = .hs F.lv j g 0 sl.ws.length false) (e2:σ.H.L[j]? = some (some (.arr g ty (D.len (.st q)) sl.ws B))) (e3:fps.length=xs.length) (e4:sl.fp=fps.flatten) (e5:sl.fp.Nodup)
  (e6:∀(n:Nat) (x:D.T q) (w:V) (c:List Nat),xs[n]? = some x->sl.ws[n]? = some w->fps[n]? = some c->EO D ρ F.lv σ.H.L q h n x w c) (hh:h=none∨∃E,h=some (i,a,E)) {y} (p1:0<=i) (p2:xs[i.toNat]? = some y) (h7:(D.ow q a).isSome=true)
  {c l} (hc:ρ[c]? = some l) (h9:l.v.leaf=true) {vs} {cs:List (List Nat)}(b1:sl.ws[i.toNat]? = some (.agg vs)) (b2:vs.length=(D.fl q).length) (b3:cs.length=(D.fl q).length) (b4:fps[i.toNat]? = some cs.flatten) (h6:a<(D.fl q).length)
  (b5:∀(f:Nat) (p:(t:DTy)×t.S D.T) (u:V) (b:List Nat),HL.nth (D.fl q) (D.get q y) f=some p->vs[f]? = some u->cs[f]? = some b->f≠a->DO D F.lv σ.H.L (omOf (D.ow q f)) p.1 p.2 u b) :
  TRr D F (ρ++[⟨sl.v,some j,sl.ws.set i.toNat (.agg (vs.set a l.v)),(fps.set i.toNat (cs.set a []).flatten).flatten⟩]) (ts.yah D s (.deep ty q xs (some (i,a,c)))) {σ with H:={σ.H with L:=σ.H.L.set j (some (.arr g ty (D.len (.st q)) (sl.ws.set i.toNat (.agg (vs.set a l.v))) B))}}:=by
 have h8:=(Qaa.1 p2).1;have W:=(Qaa.1 e2).1;have r:sl.fp.Perm ((cs[a]'(by omega))++(fps.set i.toNat (cs.set a []).flatten).flatten):=by grind[zgs]
 have Z:=(List.nodup_append.1 (r.nodup_iff.1 e5)).2.1;have z:∀n,n∈(fps.set i.toNat (cs.set a []).flatten).flatten->n∈sl.fp:=λn h=>r.mem_iff.2 (List.mem_append_right _ h)
 let d:=sl.ws.set i.toNat (.agg (vs.set a l.v))
 let sl':Slot:=⟨sl.v,some j,d,(fps.set i.toNat (cs.set a []).flatten).flatten⟩
 have h4:∀n∈sl.fp,(σ.H.L.set j (some (.arr g ty (D.len (.st q)) d B)))[n]? = σ.H.L[n]? := λn N=>by
  rw[Qam (λe=>(O.fpl s _ sl n ho trivial Q N).1 (by rw[hk,e]))]
 have X:OR D (ρ++[sl']) F.lv (σ.H.L.set j (some (.arr g ty (D.len (.st q)) d B))) sl' (.deep ty q xs (some (i,a,c))):=by
  simp only[OR];refine⟨by simp[sl',d,q1],g,B,fps.set i.toNat (cs.set a []).flatten,by simp[sl',d,e1],by simp[sl',W],by simpa using e3,rfl,Z,λm x w' E M A C =>?_,λn' J s' e =>?_⟩;have h3:=λn N=>h4 n (z n (List.mem_flatten.2 ⟨E,Qax C,N⟩))
  refine EO.mono (L:=σ.H.L) [sl'] ?_ h3;by_cases I:i.toNat=m;subst I;rw[p2]at M;cases M;rw[Qaq (by omega)]at C;cases C;simp[sl',d]at A;rw[Qaq (by omega)]at A;cases A;refine⟨vs.set a l.v,cs.set a [],rfl,by simpa using b2,by simpa using b3,rfl,λJ p' u' b' r1 G K =>?_⟩;by_cases h2:a=J;subst h2
  rw[show z4j (some (i,a,c)) i.toNat a=some c by simp[z4j]];rw[Qaq (by omega)]at G K;injection G with G;cases K;grind
  grind[z4j]
  simp[sl',d]at A;rw[Qam I]at A C;have:=e6 m x w' E M A C
  have Y:EO D ρ F.lv σ.H.L q none m x w' E:=by
   rcases hh with rfl|⟨c2,rfl⟩
   exact this;have⟨R,h5,d1,d2,d3,d4,d5⟩:=this;refine⟨R,h5,d1,d2,d3,d4,λJ p' u' b' r1 G K =>?_⟩
   grind[z4j]
  exact Y.ygx _ λn' J s' e=>(by grind)
  grind
 have I:=O.move ho trivial Q hk (.deep ty q xs (some (i,a,c))) (.arr g ty (D.len (.st q)) d B) sl' rfl X z;exact I.zf2 (TV.ren D s ts.nx) λx v U=>VR.ren (lookup_append Q) (sl':=sl') (by rw[<-O.nx];simp) rfl U
theorem z05q(G:TRr D F ρ ts σ){s j ty q i xs sl b z}{fps:List (List Nat)}(R:fnd ts.o s=some (.deep ty q xs none))(I:ρ[s]? = some sl)(U:sl.k=some j)
  (q1:sl.ws.length=xs.length) (e1:sl.v = .hs F.lv j b 0 sl.ws.length false) (e2:σ.H.L[j]? = some (some (.arr b ty (D.len (.st q)) sl.ws z))) (e3:fps.length=xs.length) (e4:sl.fp=fps.flatten) (e5:sl.fp.Nodup)
  (e6:∀(n:Nat) (x:D.T q) (w:V) (c:List Nat),xs[n]? = some x->sl.ws[n]? = some w->fps[n]? = some c->EO D ρ F.lv σ.H.L q none n x w c) (p1:0<=i) (h2:i.toNat<xs.length) {x hole A} (hl:A.length=(D.fl q).length)
  (B:∀(f:Nat) (p:(t:DTy)×t.S D.T) (u:V),HL.nth (D.fl q) x f=some p->A[f]? = some u->zsx D ρ F.lv σ.H.L q f hole p u) :
  TRr D F (ρ++[⟨sl.v,some j,sl.ws.set i.toNat (.agg A),(fps.set i.toNat []).flatten⟩]) (ts.yah D s (.deep ty q (xs.set i.toNat (D.make q x)) (hole.map λp=>(i,p.1,p.2)))) {σ with H:={σ.H with L:=σ.H.L.set j (some (.arr b ty (D.len (.st q)) (sl.ws.set i.toNat (.agg A)) z))}}:=by
 have N:=(Qaa.1 e2).1;have b4:fps[i.toNat]? = some (fps[i.toNat]'(by omega)):=Qab (by omega);have d:sl.fp.Perm ((fps[i.toNat]'(by omega))++(fps.set i.toNat []).flatten):=by grind[zgs]
 have M:=(List.nodup_append.1 (d.nodup_iff.1 e5)).2.1;have g:∀n,n∈(fps.set i.toNat []).flatten->n∈sl.fp:=λn h=>d.mem_iff.2 (List.mem_append_right _ h)
 let a:=sl.ws.set i.toNat (.agg A)
 let sl':Slot:=⟨sl.v,some j,a,(fps.set i.toNat []).flatten⟩
 have Q:∀n∈sl.fp,(σ.H.L.set j (some (.arr b ty (D.len (.st q)) a z)))[n]? = σ.H.L[n]? := λn E=>by
  rw[Qam (λe=>(G.fpl s _ sl n R trivial I E).1 (by rw[U,e]))]
 have K:OR D (ρ++[sl']) F.lv (σ.H.L.set j (some (.arr b ty (D.len (.st q)) a z))) sl' (.deep ty q (xs.set i.toNat (D.make q x)) (hole.map λp=>(i,p.1,p.2))):=by
  simp only[OR];refine⟨by simp[sl',a,q1],b,z,fps.set i.toNat [],by simp[sl',a,e1],by simp[sl',N],by simpa using e3,rfl,M,λm Y Z X y r l =>?_,λn' f' W e =>?_⟩;have O:=λn E=>Q n (g n (List.mem_flatten.2 ⟨X,Qax l,E⟩))
  refine EO.mono (L:=σ.H.L) [sl'] ?_ O;simp[sl',a]at r;by_cases C:i.toNat=m;subst C;rw[Qaq (by omega)]at y r l;injection y with y;injection r with r;injection l with l;subst y;subst r;subst l;exact z079 hD rfl hl B;rw[Qam C]at y r l
  exact(e6 m Y Z X y r l).ygx _ λn' f' W e=>(by
   grind[Qaf])
  grind[Qaf]
 have C:=G.move R trivial I U (.deep ty q (xs.set i.toNat (D.make q x)) (hole.map λp=>(i,p.1,p.2))) (.arr b ty (D.len (.st q)) a z) sl' rfl K g;exact C.zf2 (TV.ren D s ts.nx) λx v J=>VR.ren (lookup_append I) (sl':=sl') (by rw[<-G.nx];simp) rfl J
theorem ym7{R}(K:TRr D F ρ ts σ){t s ty q a:Nat}{i xs Y x va vx k kf}{r:R}(h:ytg D ts ty q xs Y s i a x k kf=some r)(ho:fnd ts.o s=some (.deep ty q xs Y))
  (ha:VR D ρ F.lv (.dp s i a) va) (J:VR D ρ F.lv x vx) (hs:x.yzo=true) (A:(vx.yzo&&(P.info? t).isSome&&vx.cells.length==P.cellsOf t)=true) :
  (∃z l v H' ρ',zgl P σ.H t va vx=some (v,H')∧VR D ρ' F.lv z v∧TRr D F ρ' l {σ with H:=H'}∧k z l=some r)∨∃s,kf s=some r:=by
 simp only[VR]at ha;obtain⟨sl,E,d,m,h1,g1,g2,g3,rfl⟩:=ha;have⟨sl',k1,k2⟩:=K.ob s _ ho;rw[h1]at k1;cases k1;simp only[OR]at k2;have⟨q1,q3⟩:=k2
 have base:∀{y:D.T q},xs[i.toNat]? = some y->∃(j g:Nat) (C:Option Nat) (fps:List (List Nat)),sl.k=some j∧sl.v = .hs F.lv j g 0 sl.ws.length false∧σ.H.L[j]? = some (some (.arr g ty (D.len (.st q)) sl.ws C))∧fps.length=xs.length∧sl.fp=fps.flatten∧sl.fp.Nodup ∧
   (∀(n:Nat) (x:D.T q) (w:V) (c:List Nat),xs[n]? = some x->sl.ws[n]? = some w->fps[n]? = some c->EO D ρ F.lv σ.H.L q Y n x w c)∧E=j∧d=g:=λ{y} B=>by
  cases W:sl.k with
  |none=>grind
  |some j=>
   rw[W]at q3;have⟨g,C,fps,Z,N,e3,e4,e5,M,e7⟩:=q3;have h5:=g1
   rw[Z]at h5;injection h5 with _ a1 a4 _ a5
   exact⟨j,g,C,fps,rfl,Z,N,e3,e4,e5,M,a1.symm,a4.symm⟩
 unfold ytg at h;split at h;rename_i c;simp[VR]at J;obtain⟨e,c1,rfl,c3⟩:=J;have h2:e.v.cells=[e.v]:=by cases hv:e.v <;> first|rfl|(rw[hv]at c3;simp[V.leaf]at c3)
 split at h;rename_i he hb h7;have h6:=Nat.le_of_ble_eq_true h7
 have core:(Y=none∨∃c',Y=some (i,a,c'))->∀{y:D.T q},ix xs i=some y->k .any (ts.yah D s (.deep ty q xs (some (i,a,c))))=some r->∃z l v H' ρ',zgl P σ.H t (.ap F.lv E d i.toNat a) e.v=some (v,H')∧VR D ρ' F.lv z v∧TRr D F ρ' l {σ with H:=H'}∧k z l=some r:=λh4 {y} X hd=>by
  have⟨p1,B⟩:=zm4 X;obtain⟨j,g,C,fps,W,Z,N,e3,e4,e5,M,rfl,rfl⟩:=base B;have h3:=(Qaa.1 B).1;have G:sl.ws[i.toNat]? = some (sl.ws[i.toNat]'(by omega)):=Qab (by omega);have U:fps[i.toNat]? = some (fps[i.toNat]'(by omega)):=Qab (by omega);have⟨vs,cs,b1,b2,b3,b4,b5⟩:=M i.toNat y _ _ B G U;rw[b1]at G;rw[b4]at U
  have O:z0m vs a e.v.cells=vs.set a e.v:=by
   rw[h2];unfold z0m;rw[List.set_eq_take_append_cons_drop,Qbq (by omega)];simp
  refine⟨.any,_,.any,σ.H.set F.lv E (.arr d ty (D.len (.st q)) (sl.ws.set i.toNat (.agg (vs.set a e.v))) C),ρ++[⟨sl.v,some E,sl.ws.set i.toNat (.agg (vs.set a e.v)),(fps.set i.toNat (cs.set a []).flatten).flatten⟩],?_,by simp[VR],?_,hd⟩;unfold zgl;rw[Qbq A];simp only[K.get N,if_true,G];rw[Qbq ⟨by rw[h2];show a+1<=vs.length;omega,rfl⟩]
  show some (V.any,σ.H.set F.lv E (.arr d ty (D.len (.st q)) (sl.ws.set i.toNat (.agg (z0m vs a e.v.cells))) C))=_;rw[O];rw[K.yaz];refine yyk hD K ho h1 W q1 Z N e3 e4 e5 M h4 p1 B (by rw[hb];rfl) c1 c3 G b2 b3 U h6 λf p u b t1 t2 t3 hg =>?_
  have:=b5 f p u b t1 t2 t3
  have hf:z4j Y i.toNat f=none:=by
   rcases h4 with rfl|⟨c',rfl⟩
   rfl
   grind[z4j]
  grind
 split at h;have⟨y,X,h⟩:=z3f h
 grind
 rename_i p;have⟨n,f',c'⟩:=p;split at h;rename_i Q;have Q:=Qaj Q;subst Q;have⟨_,hs,h⟩:=z3f h
 have hc:n=i:=by
  grind[zmb]
 subst hc;have⟨y,X,h⟩:=z3f h;exact .inl (core (.inr ⟨c',rfl⟩) X h)
 grind
 cases h;rename_i cells;simp[VR]at J;obtain⟨I,rfl,J⟩:=J;split at h;split at h;split at h;rename_i rr h9;have⟨y,X,h⟩:=z3f h;have⟨p1,B⟩:=zm4 X;obtain⟨j,g,C,fps,W,Z,N,e3,e4,e5,M,rfl,rfl⟩:=base B;have h3:=(Qaa.1 B).1;have⟨a1,a2,a3⟩:=zss (L:=σ.H.L) h9 J;have G:sl.ws[i.toNat]? = some (sl.ws[i.toNat]'(by omega)):=Qab (by omega)
 have⟨vs,cs,b1,b2,b3,b4,b5⟩:=M i.toNat y _ _ B G (Qab (show i.toNat<fps.length by omega));rw[b1]at G;have h8:I.length=(D.fl q).length:=by rw[<-J.length];exact a1
 have O:z0m vs 0 I=I:=by
  grind[z0m]
 refine .inl ⟨.any,_,.any,σ.H.set F.lv E (.arr d ty (D.len (.st q)) (sl.ws.set i.toNat (.agg I)) C),ρ++[⟨sl.v,some E,sl.ws.set i.toNat (.agg I),(fps.set i.toNat []).flatten⟩],?_,by simp[VR],?_,h⟩;unfold zgl;rw[Qbq A];simp only[K.get N,if_true,G];rw[Qbq ⟨by show 0+I.length<=vs.length;omega,rfl⟩]
 show some (V.any,σ.H.set F.lv E (.arr d ty (D.len (.st q)) (sl.ws.set i.toNat (.agg (z0m vs 0 I))) C))=_;rw[O];rw[K.yaz]
 exact z05q hD K ho h1 W q1 Z N e3 e4 e5 M p1 h3 h8 λf p u t1 t2=>by
  have:=a3 f p u t1 t2
  grind
 exact .inr ⟨_,h⟩;cases h
 grind
 cases h;cases h
theorem yqz{R}(C:TRr D F ρ ts σ){t a x va E k kf}{r:R}(h:yhv P D ts t a x k kf=some r)(X:VR D ρ F.lv a va)(hx:VR D ρ F.lv x E) :
  (∃z hb v H' ρ',zgl P σ.H t va E=some (v,H')∧VR D ρ' F.lv z v∧TRr D F ρ' hb {σ with H:=H'}∧k z hb=some r)∨∃s,kf s=some r:=by
 unfold yhv at h;split at h;rename_i hc;simp[Qag,Qbg]at hc;have⟨⟨c1,c2⟩,c3⟩:=hc;have l:=hx.cells c1
 have A:(E.yzo&&(P.info? t).isSome&&E.cells.length==P.cellsOf t)=true:=by
  simp[Qag,Qbg];exact⟨⟨hx.yzo c1,c2⟩,by rw[<-l.length];exact c3⟩
 split at h;rename_i s g;simp only[VR]at X;obtain⟨sl,i,G,Y,rfl⟩:=X;split at h;rename_i cs I;split at h;rename_i o;left;have⟨sl',N,M⟩:=C.ob s _ I;rw[G]at N;cases N;simp only[OR]at M;have⟨i',vs,U,q2,K⟩:=M;rw[Y]at U;cases U;have J:=(Qaa.1 q2).1;refine⟨.any,_,.any,σ.H.set F.lv i (.cells (z0m vs g E.cells)),ρ,?_,by simp[VR],?_,h⟩;unfold zgl;rw[Qbq A]
 simp only[C.get q2];rw[Qbq (by rw[<-l.length,<-K.length];exact o)];rw[C.yaz];exact C.upd I trivial G Y _ _ (by simp only[OR];exact⟨i,_,Y,by simp[J],K.z0m l g⟩);cases h;cases h;rename_i s τ i y g;simp only[VR]at X;have⟨sl,w,G,Y,h3,h4,h5⟩:=X;split at h;rename_i ty τ' xs I;split at h;rename_i o;have⟨sl',N,M⟩:=C.ob s _ I;rw[G]at N;cases N;simp only[OR]at M
 have⟨U,q2,K⟩:=M;obtain⟨rfl,hl,o⟩:=o;split at h;rename_i z hz;left;have⟨d1,d2,d3⟩:=DR.ze9 hD h4 hx c1 o hz hl
 cases Z:sl.k with
 |none=>
  rw[Z]at K
  rcases K with ⟨e1,W⟩|⟨e1,W⟩
  grind
  grind
 |some j=>
  rw[Z]at K h5;have⟨B,O,e1,W⟩:=K;obtain⟨hi,n,e3,rfl⟩:=h5
  rw[e1]at e3;injection e3 with _ _ e3 _ e4;subst e3;subst e4
  have J:=(Qaa.1 W).1;have hit:=(Qaa.1 h3).1
  let d:=sl.ws.set i.toNat (Go.Ab.ze9 w (z0m w.cells g E.cells))
  let sl':Slot:=⟨sl.v,some j,d,[]⟩
  have h7:OR D (ρ++[sl']) F.lv (σ.H.L.set j (some (.arr B ty (D.len τ) d O))) sl' (.acc ty τ (xs.set i.toNat z) true):=by
   grind[OR]
  have hm:=C.move I trivial G Z (.acc ty τ (xs.set i.toNat z) true) (.arr B ty (D.len τ) d O) sl' rfl h7;refine⟨.any,_,.any,σ.H.set F.lv j (.arr B ty (D.len τ) d O),ρ++[sl'],?_,by simp only[VR],?_,h⟩;unfold zgl;rw[Qbq A];simp only[C.get W,if_true,h3]
  grind
  rw[C.yaz];have:=hm.zf2 (TV.ren D s ts.nx) λx v h6=>VR.ren (lookup_append G) (sl':=sl') (by rw[<-C.nx];simp) rfl h6
  exact this
 exact .inr ⟨_,h⟩;cases h;cases h;cases h;rename_i s i g;simp only[VR]at X;obtain⟨sl,j',hi,m,G,g1,g2,g3,rfl⟩:=X;split at h;rename_i ty q xs hh I;split at h;rename_i o;have⟨h9,o⟩:=o;have⟨y,hy,h⟩:=z3f h;have⟨sl',N,M⟩:=C.ob s _ I
 rw[G]at N;cases N
 simp only[OR]at M;have⟨U,K⟩:=M;have⟨p1,p2⟩:=zm4 hy;have J:i.toNat<xs.length:=(Qaa.1 p2).1;split at h
 ·rename_i z hz;left
  cases Z:sl.k with
  |none=>grind
  |some j=>
  rw[Z]at K;have⟨B,O,fps,e1,W,e3,e4,e5,e6,e7⟩:=K
  rw[e1]at g1;injection g1 with _ g1 g4 _ g5;subst g1;subst g4
  have hw:sl.ws[i.toNat]? = some (sl.ws[i.toNat]'(by omega)):=Qab (by omega);have hg:fps[i.toNat]? = some (fps[i.toNat]'(by omega)):=Qab (by omega);have⟨vs,cs,b1,b2,b3,b4,b5⟩:=e6 i.toNat y _ _ p2 hw hg;have hlen:=l.length;have hr:=(Qaa.1 W).1
  let w':V:=.agg (z0m vs g E.cells)
  let d:=sl.ws.set i.toNat w'
  let sl':Slot:=⟨sl.v,some j,d,sl.fp⟩
  have hp:(z0m vs g E.cells).length=vs.length:=by
   unfold z0m;simp only[Qap,List.length_take,List.length_drop];omega
  have h7:OR D (ρ++[sl']) F.lv (σ.H.L.set j (some (.arr B ty (D.len (.st q)) d O))) sl' (.deep ty q (xs.set i.toNat (D.make q z)) hh):=by
   have hv:∀n∈sl.fp,(σ.H.L.set j (some (.arr B ty (D.len (.st q)) d O)))[n]? = σ.H.L[n]? := λn hn=>by
    rw[Qam (λe=>(C.fpl s _ sl n I trivial G hn).1 (by rw[Z,e]))]
   simp only[OR];refine⟨by simp[sl',d,U],B,O,fps,by simp[sl',d,e1],by simp[sl',hr],by simpa using e3,e4,e5,λa x' u' c' r1 r2 r3 =>?_,λn f s' e=>by grind⟩;have ht:∀n∈c',(σ.H.L.set j (some (.arr B ty (D.len (.st q)) d O)))[n]? = σ.H.L[n]? := λn hn=>hv n (by rw[e4];exact List.mem_flatten.2 ⟨c',Qax r3,hn⟩)
   simp only[sl',d]at r2;by_cases hs:i.toNat=a;subst hs;rw[Qaq J]at r1;rw[Qaq (by omega)]at r2;injection r1 with r1;injection r2 with r2;subst r1;subst r2
   rw[hg]at r3;cases r3
   refine EO.mono (L:=σ.H.L) [sl'] ⟨_,cs,rfl,by rw[hp];exact b2,b3,b4,λf p u b t1 t2 t3 =>?_⟩ ht;rw[hD.getMake]at t1;have⟨c,u1,u2⟩:=y8b hz f p t1;have hf:=(HL.zic _ _ _ _ t1).1;by_cases k4:g<=f∧f<g+x.cells.length
   have hj:D.ow q f=none:=by
    have:=Qat.1 h9 (f-g) (List.mem_range.2 (by omega))
    simp_all
   have hq:z4j hh i.toNat f=none:=by
    cases k5:z4j hh i.toNat f with
    |none=>rfl
    |some s'=>
     have⟨pf,he,_⟩:=HL.zn7 (D.fl q) (D.get q y) f hf
     grind
   have⟨pf,he,_⟩:=HL.zn7 (D.fl q) (D.get q y) f hf;have Q:=b5 f pf _ b he (Qab (show f<vs.length by omega)) t3;rw[hq]at Q ⊢;simp only at Q ⊢;rw[hj]at Q ⊢;have hu:b=[]:=by cases Q;rfl
   subst hu
   have v1:x.cells[f-g]? = some c:=by
    grind[zm9,zgi,Qav]
   have v2:E.cells[f-g]? = some u:=by
    grind[z0m]
   exact .dat (zoa u2 (l.y63 v1 v2))
   have v1:(D.leaves (D.fl q) (D.get q y))[f]? = some c:=by
    unfold zm9 at u1;by_cases h8:f<g;rw[Qay,Qal (by simp only[List.length_take,zgi];omega),Qaw,Qbq h8]at u1;exact u1;rw[Qav (by simp only[Qap,List.length_take,zgi];omega),Qba]at u1;rw[<-u1];congr 1;simp only[Qap,List.length_take,zgi];omega
   have v2:vs[f]? = some u:=by
    unfold z0m at t2;by_cases h8:f<g;rw[Qay,Qal (by simp only[List.length_take];omega),Qaw,Qbq h8]at t2;exact t2;rw[Qav (by grind),Qba]at t2;rw[<-t2];congr 1;simp only[Qap,List.length_take];omega
   rw[ziu,Qaf]at v1;have⟨py,v3,v4⟩:=v1
   have k3:py.1=p.1:=by
    grind[HL.zic]
   grind[yx6]
   grind[EO.mono]
  have hm:=C.move I trivial G Z (.deep ty q (xs.set i.toNat (D.make q z)) hh) (.arr B ty (D.len (.st q)) d O) sl' rfl h7 (λ_ h=>h);refine⟨.any,_,.any,σ.H.set F.lv j (.arr B ty (D.len (.st q)) d O),ρ++[sl'],?_,by simp only[VR],?_,h⟩;unfold zgl;rw[Qbq A];simp only[C.get W,if_true,hw];rw[Qbq ⟨by simp_all,by rw[b1];rfl⟩];rw[b1];rfl;rw[C.yaz]
  have:=hm.zf2 (TV.ren D s ts.nx) λx v h6=>VR.ren (lookup_append G) (sl':=sl') (by rw[<-C.nx];simp) rfl h6
  exact this
 exact .inr ⟨_,h⟩;cases h;exact ym7 hD C h I (by simp only[VR];grind) hx c1 A;cases h;rename_i s;simp only[VR]at X;obtain⟨sl,i,G,Y,rfl⟩:=X;split at h;rename_i ty b q I;left;have⟨sl',N,M⟩:=C.ob s _ I
 rw[G]at N;cases N
 simp only[OR]at M;have⟨i',u,c,U,q2,K,q4⟩:=M
 rw[Y]at U;cases U
 have J:=(Qaa.1 q2).1
 have hd:E.cells=[E]:=by
  have h3:=hx;simp only[VR]at h3;have⟨_,_,_,h4⟩:=h3
  cases E <;> first|rfl|(simp[V.leaf]at h4)
 refine⟨.any,_,.any,σ.H.set F.lv i (.arr 0 ty 2 [.agg [u,E]] (some 1)),ρ,?_,by simp only[VR],?_,h⟩;unfold zgl;rw[Qbq A];simp only[C.get q2,if_true,Qbv];rw[Qbq (by rw[hd];exact⟨by simp[V.cells],rfl⟩),hd];rfl;rw[C.yaz];exact C.upd I trivial G Y _ _ (by simp only[OR];exact⟨i,u,E,Y,by simp[J],K,hx⟩);cases h;cases h;cases h
def DRL(D:Dat)(t:DTy)(xs:List (t.S D.T))(ws:List V):Prop:=ws.length=xs.length∧∀(j:Nat) (x) (w),xs[j]? = some x->ws[j]? = some w->DR D t x w
omit hD in
theorem DRL.append{t xs d ws e}(h:DRL D t xs ws)(k:DRL D t d e):DRL D t (xs++d) (ws++e):=by
 refine⟨by simp[h.1,k.1],λj x w b a =>?_⟩;rw[Qaz]at b a;rw[h.1]at a;split at b;rw[Qbq ‹_›]at a;exact h.2 j x w b a;rw[Qbr ‹_›]at a;exact k.2 _ x w b a
omit hD in
theorem DRL.nil(t):DRL D t ([]:List (t.S D.T)) []:=⟨rfl,λj x w a=>by simp at a⟩
omit hD in
theorem z00s(p:TRr D F ρ ts σ){τ x i g}(h:tSrc D ts τ x=some g)(a:VR D ρ F.lv x i):∃l,zqe σ.H (D.len τ) i=some l∧DRL D τ g l:=by
 unfold tSrc at h;split at h;cases h;simp[VR]at a;subst a;exact⟨[],rfl,DRL.nil _⟩;rename_i t xs J;obtain⟨rfl,rfl⟩:=zad h;simp[VR]at a;have⟨a,_⟩:=a
 cases a with
 |nil=>exact⟨[],rfl,DRL.nil _⟩
 |sl _ _ ws full y A=>exact⟨ws,by simp[zqe,zeo],y,A⟩
 rename_i s;split at h;rename_i ty t xs w u;obtain⟨rfl,rfl⟩:=zad h;simp[VR]at a;obtain⟨sl,C,rfl,e⟩:=a;have⟨sl',o,n⟩:=p.ob s _ u;rw[C]at o;cases o;simp only[OR]at n;have⟨r,q,m⟩:=n;refine⟨sl.ws,?_,r,q⟩
 cases z:sl.k with
 |none=>
  grind[zqe,zeo]
 |some j=>
  rw[z]at m;have⟨I,K,G,E⟩:=m;rw[G];simp[zqe,zeo,p.get E]
 cases h;rename_i s;split at h;cases h;simp[VR]at a;subst a;refine⟨s.map λb=>.int .u8 b.toNat,by simp[zqe,Dat.len],?_,λj x w a d =>?_⟩;rw[List.length_map];show s.length=(kzk s).length;rw[kzk,List.length_map];replace a:(s.map λb=>((b.toNat:Nat):Int))[j]? = some x:=a;rw[Qan]at a d
 cases B:s[j]? with
 |none=>grind
 |some b=>
  rw[B]at a d;injection a with a;injection d with d;subst a;subst d;exact .int .u8 _
 cases h;cases h
omit hD in
theorem zny(a:TRr D F ρ ts σ){τ e v xs l ws n w}(g:DRL D τ xs ws)(o:DRL D τ l n)(b:xs.length+l.length<=zi7)
  (j:(v = .nils∧ws=[])∨((v = .sl (D.len τ) ws true∧τ ≠ .int .u8)∧(w=true->ws=[]))) :
  ∃m H' sl',z3o σ.H e (D.len τ) v n=some (m,H')∧m.leaf=true∧sl'.v=m∧TRr D F (ρ++[sl']) (ts.new D (.acc e τ (xs++l) w)) {σ with H:=H'}∧(∀i,sl'.k=some i->i=σ.H.L.length)∧∀i,sl'.k≠some i->H'.L[i]? = σ.H.L[i]? := by
 have d:=g.append o
 cases n with
 |nil=>
  have p:=Qao (by rw[<-o.1];rfl);subst p;refine⟨v,σ.H,⟨v,none,ws,[]⟩,?_,?_,rfl,?_,(λi h=>by cases h),λi _=>rfl⟩
  rcases j with ⟨rfl,_⟩|⟨⟨rfl,_⟩,_⟩ <;> simp[z3o]
  rcases j with ⟨rfl,_⟩|⟨⟨rfl,_⟩,_⟩ <;> rfl
  have:=a.new (.acc e τ (xs++[]) w) ⟨v,none,ws,[]⟩ σ.H a.lv a.E (Qbp _) (λ_ _=>rfl) (by simp) (by simp[List.append_nil];exact⟨g.1,g.2,j⟩)
  exact this
 |cons y r=>
  have hlen:ws.length+(y::r).length<=zi7:=by rw[g.1,o.1];exact b
  refine⟨.hs F.lv σ.H.L.length 0 0 (ws++y::r).length false,σ.H.push (.arr 0 e (D.len τ) (ws++y::r) none),⟨.hs F.lv σ.H.L.length 0 0 (ws++y::r).length false,some σ.H.L.length,ws++y::r,[]⟩,?_,rfl,rfl,?_,(λi h=>by grind),λi h =>?_⟩
  rcases j with ⟨rfl,rfl⟩|⟨⟨rfl,_⟩,_⟩
  simp only[z3o];rw[Qbq (by simpa using hlen)];simp[a.lv];simp only[z3o,if_true];rw[Qbq (by simpa using hlen)];simp[a.lv]
  exact a.new _ _ _ a.lv a.E (by simp[Heap.push]) (λi hi=>by grind[Heap.push]) (λi hi=>by grind)
   (by simp only[OR];exact⟨d.1,d.2,0,none,rfl,by simp[Heap.push]⟩)
  grind[Heap.push]
theorem z0a2{q e:Nat}{x hole h ws xs fps L L'}(sl')(k:ws.length=xs.length)(s:fps.length=xs.length)(m:h.length=(D.fl q).length)
  (g:∀(f:Nat) (p:(t:DTy)×t.S D.T) (u:V),HL.nth (D.fl q) x f=some p->h[f]? = some u->zsx D ρ lv L q f hole p u) (o:∀i∈fps.flatten,L'[i]? = L[i]?)
  (r:∀(n:Nat) (x:D.T q) (w:V) (c:List Nat),xs[n]? = some x->ws[n]? = some w->fps[n]? = some c->EO D ρ lv L q none n x w c) :
  ∀(n) (y) (w) (c),(xs++[D.make q x])[n]? = some y->(ws++[.agg h])[n]? = some w->(fps++[[]])[n]? = some c->EO D (ρ++[sl']) lv L' q (hole.map λp=>((xs.length:Int),p.1,p.2)) n y w c:=λn y w c d b a=>by
 rw[Qaz]at d b a;by_cases l:n<xs.length;rw[Qbq l]at d;rw[Qbq (by omega)]at b a
 exact EO.mono (L:=L) [sl'] ((r n y w c d b a).ygx _ λA B z e=>(by
  grind[Qaf])) λi hi=>o i (List.mem_flatten.2 ⟨c,Qax a,hi⟩)
 have j:n=xs.length:=by
  grind
 subst j;rw[k,Nat.sub_self]at b;rw[s,Nat.sub_self]at a;simp at d b a;subst d;subst b;subst a;exact EO.mono (L:=L) [sl'] (z079 hD (by simp) m g) (by simp)
theorem yi0{R}(g:TRr D F ρ ts σ){t u q s cells vs vx k kf}{r:R}(h:yjn P D ts t u s q cells k kf=some r)(X:VR D ρ F.lv s vs)(K:VR D ρ F.lv (.bsl q [.agg cells]) vx) :
  (∃z O v H' ρ',hAppend P σ.H t u vs vx=some (v,H')∧VR D ρ' F.lv z v∧TRr D F ρ' O {σ with H:=H'}∧k z O=some r)∨∃s,kf s=some r:=by
 simp only[VR,VRL]at K;obtain⟨h8,rfl,w0,r0,rfl,⟨d,rfl,K⟩,rfl⟩:=K;unfold yjn at h;split at h;rename_i e du hu h9;split at h;rename_i i hi;split at h;rename_i z hz;split at h;rename_i hc;simp[Qar]at hc;obtain⟨⟨⟨⟨c1,c2⟩,c3⟩,c4⟩,c5⟩:=hc
 have y:∀b H',z3o σ.H e (D.len (.st q)) vs [.agg d]=some (b,H')->hAppend P σ.H t u vs (.sl (D.len (.st q)) [.agg d] true)=some (b,H'):=λb H' ha=>by
  simp_all[hAppend,zqe,zeo]
 have own:∀(sl':Slot) (b:V),sl'.v=b->b.leaf=true->VR D (ρ++[sl']) F.lv (.own ts.nx) b:=λsl' b I h2=>by
  simp[VR];exact⟨sl',by rw[<-g.nx];simp,I.symm,h2⟩
 split at h;rename_i G h4;obtain⟨a1,a2,a3⟩:=zss (L:=σ.H.L) h4 K;have Q:d.length=(D.fl q).length:=by rw[<-K.length];exact a1
 have m:∀(f:Nat) (p:(t:DTy)×t.S D.T) (u:V),HL.nth (D.fl q) G.1 f=some p->d[f]? = some u->zsx D ρ F.lv σ.H.L q f G.2 p u:=λf p u t1 t2=>by
  simp_all
 have fresh:1<=zi7->(vs = .nils∨vs = .sl (D.len (.st q)) [] true)->∃b H' sl',z3o σ.H e (D.len (.st q)) vs [.agg d]=some (b,H')∧b.leaf=true∧sl'.v=b∧TRr D F (ρ++[sl']) (ts.new D (.deep e q ([]++[D.make q G.1]) (G.2.map λp=>((([]:List (D.T q)).length:Int),p.1,p.2)))) {σ with H:=H'}:=λa W=>by
  refine⟨.hs F.lv σ.H.L.length 0 0 1 false,σ.H.push (.arr 0 e (D.len (.st q)) [.agg d] none),⟨.hs F.lv σ.H.L.length 0 0 1 false,some σ.H.L.length,[.agg d],[]⟩,?_,rfl,rfl,?_⟩
  rcases W with rfl|rfl
  simp only[z3o];rw[Qbq (by simpa using a)];simp[g.lv];simp only[z3o,if_true];rw[Qbq (by simpa using a)];simp[g.lv];refine g.new _ _ _ g.lv g.E (by simp[Heap.push]) (λi hi=>by grind[Heap.push]) (λi hi=>by grind) ?_;simp only[OR];refine⟨rfl,0,none,[[]],rfl,by simp[Heap.push],rfl,rfl,List.nodup_nil,?_,λn f s' e =>?_⟩
  exact z0a2 hD (e:=e) (xs:=[]) (ws:=[]) (fps:=[]) (L:=σ.H.L) _ rfl rfl Q m (by simp) (λn x w c h=>by simp at h)
  grind[Qaf]
 split at h;obtain⟨zs,A,h⟩:=z3f h;obtain⟨a,rfl⟩:=y80 A;simp[VR]at X;subst X;obtain⟨b,H',sl',b1,b2,b3,b4⟩:=fresh (by simpa using a) (.inl rfl)
 grind
 rename_i s;split at h;rename_i M J N hh ho;split at h;rename_i he;subst he;split at h;split at h;rename_i xs hl;obtain⟨zs,A,h⟩:=z3f h;obtain⟨a,rfl⟩:=y80 A;obtain⟨C,B⟩:=zad hl;injection C with C;subst C;replace B:=B.symm;subst B;simp[VR]at X;obtain⟨sl,I,rfl,h7⟩:=X;obtain⟨sl',k1,k2⟩:=g.ob s _ ho;rw[I]at k1;cases k1;simp only[OR]at k2;obtain⟨Z,U⟩:=k2
 have h3:∀o,s<(ts.new D o).nx:=λo=>by
  have:=(Qaa.1 I).1;simp[TS.new];rw[<-g.nx];omega
 cases Y:sl.k with
 |none=>
  rw[Y]at U;obtain⟨rfl,W,_,_⟩:=U;obtain⟨b,H',sl',b1,b2,b3,b4⟩:=fresh a W
  exact .inl ⟨_,_,b,H',_,y _ _ b1,own sl' b b3 b2,b4.drop s (h3 _),h⟩
 |some j=>
  rw[Y]at U;obtain⟨l,cp,fps,e1,e2,e3,e4,e5,e6,e7⟩:=U;have h5:=(Qaa.1 e2).1;have hlen:sl.ws.length+[V.agg d].length<=zi7:=by rw[Z];exact a
  let sl':Slot:=⟨.hs F.lv j (l+1) 0 (sl.ws++[V.agg d]).length false,some j,sl.ws++[V.agg d],sl.fp⟩
  have h6:∀n∈sl.fp,(σ.H.L.set j (some (.arr (l+1) M (D.len (.st J)) (sl.ws++[V.agg d]) none)))[n]? = σ.H.L[n]? := λn hn=>by
   rw[Qam (λe=>(g.fpl s _ sl n ho trivial I hn).1 (by rw[Y,e]))]
  have hm:=g.move ho trivial I Y (.deep M J (N++[D.make J G.1]) (G.2.map λp=>((N.length:Int),p.1,p.2))) (.arr (l+1) M (D.len (.st J)) (sl.ws++[V.agg d]) none) sl' rfl
   (by
     simp only[OR];refine⟨by simp[sl',Z],l+1,none,fps++[[]],rfl,by simp[sl',h5],by simp[e3],by simp[sl',e4],e5,?_,λn f s' e =>?_⟩;exact z0a2 hD (e:=M) (L:=σ.H.L) sl' Z e3 Q m (λn hn=>h6 n (by rw[e4];exact hn)) e6
     grind[Qaf]) (λ_ h=>h)
  refine .inl ⟨_,_,sl'.v,σ.H.set F.lv j (.arr (l+1) M (D.len (.st J)) (sl.ws++[V.agg d]) none),_,y _ _ ?_,own sl' sl'.v rfl rfl,by rw[g.yaz];exact hm,h⟩;rw[e1];simp[z3o,g.get e2,true_and]
  grind
 cases h
 grind
 cases h;cases h;cases h;exact .inr ⟨_,h⟩;cases h;cases h;cases h;cases h;cases h
omit hD in
theorem y57{R}(p:TRr D F ρ ts σ){t u s x vs X k}{r:R}(h:yr5 P D ts t u s x k=some r)(n:VR D ρ F.lv s vs)(hx:VR D ρ F.lv x X) :
  ∃z I v H' ρ',hAppend P σ.H t u vs X=some (v,H')∧VR D ρ' F.lv z v∧TRr D F ρ' I {σ with H:=H'}∧k z I=some r ∧
   ((∀q,s ≠ .own q)->∃sl' o,ρ'=ρ++[sl']∧I=ts.new D o∧o.live∧(∀i,sl'.k=some i->i=σ.H.L.length)∧∀i,sl'.k≠some i->H'.L[i]? = σ.H.L[i]?):=by
 unfold yr5 at h;split at h;rename_i e du hu hb;split at h;rename_i i τ hi hτ;split at h;rename_i z hz;split at h;rename_i hc;simp[Qar]at hc;have⟨⟨⟨⟨c1,c2⟩,c3⟩,c4⟩,c5⟩:=hc;split at h;rename_i ys xs w hj h4 a;have⟨zs,h3,h⟩:=z3f h;obtain⟨b,rfl⟩:=y80 h3;have⟨J,h6,m⟩:=z00s p h4 hx
 have g:∀d H',z3o σ.H e (D.len τ) vs J=some (d,H')->hAppend P σ.H t u vs X=some (d,H'):=λd H' ha=>by
  unfold hAppend;rw[hu,hb];simp only[hi,hz];rw[<-c5,h6];simp only;rw[Qbq (by simp[Qar];exact⟨⟨⟨c1,by omega⟩,c3⟩,by omega⟩)];exact ha
 have own:∀(sl':Slot) (d:V),sl'.v=d->d.leaf=true->VR D (ρ++[sl']) F.lv (.own ts.nx) d:=λsl' d M h2=>by
  simp[VR];exact⟨sl',by rw[<-p.nx];simp,M.symm,h2⟩
 unfold tDst at a;split at a;simp[Qbs]at a;obtain⟨rfl,rfl,rfl⟩:=a;simp[VR]at n;subst n;have⟨d,H',sl',G,E,C,B,K⟩:=zny (e:=e) p (w:=true) (DRL.nil τ) m b (.inl ⟨rfl,rfl⟩);exact⟨_,_,d,H',_,g _ _ G,own sl' d C E,B,h,λ_=>⟨sl',_,rfl,rfl,trivial,K⟩⟩;by_cases l:τ = .int .u8;rw[Qbq l]at a;cases a;rw[Qbr l,Qaf]at a
 have⟨N,y,a⟩:=a;simp[Qbs]at a;obtain⟨rfl,rfl,rfl⟩:=a;obtain⟨rfl,rfl⟩:=zad y;simp only[VR]at n;have⟨n,hf,_⟩:=n;obtain⟨ws,rfl⟩:=hf (by omega)
 cases n with
 |sl _ _ _ _ y W=>
  have⟨d,H',sl',G,E,C,B,K⟩:=zny (e:=e) p (w:=false) ⟨y,W⟩ m b (.inr ⟨⟨rfl,l⟩,by simp⟩);exact⟨_,_,d,H',_,g _ _ G,own sl' d C E,B,h,λ_=>⟨sl',_,rfl,rfl,trivial,K⟩⟩
 by_cases l:τ = .int .u8;rw[Qbq l]at a;cases a;rw[Qbr l,Qaf]at a;have⟨N,y,a⟩:=a;simp[Qbs]at a;obtain⟨rfl,rfl,rfl⟩:=a;obtain⟨rfl,rfl⟩:=zad y;simp only[VR]at n;have⟨n,hf,h9⟩:=n;obtain⟨ws,rfl⟩:=hf (by omega);have h5:=h9 trivial
 cases n with
 |sl _ _ _ _ y W=>
  have⟨d,H',sl',G,E,C,B,K⟩:=zny (e:=e) p (w:=true) ⟨y,W⟩ m b (.inr ⟨⟨rfl,l⟩,λ_=>Qao (by rw[y,h5];rfl)⟩);exact⟨_,_,d,H',_,g _ _ G,own sl' d C E,B,h,λ_=>⟨sl',_,rfl,rfl,trivial,K⟩⟩
 rename_i s;split at a;rename_i U t' N w' ho;split at a;rename_i he;subst he;rw[Qaf]at a;have⟨hg,y,a⟩:=a;simp[Qbs]at a;obtain⟨rfl,rfl,rfl⟩:=a;obtain⟨rfl,rfl⟩:=zad y;simp[VR]at n;obtain⟨sl,M,rfl,hd⟩:=n;have⟨sl',k1,k2⟩:=p.ob s _ ho;rw[M]at k1;cases k1;simp only[OR]at k2;have⟨Y,q2,Q⟩:=k2
 have h7:∀o,s<(ts.new D o).nx:=λo=>by
  have:=(Qaa.1 M).1;simp[TS.new];rw[<-p.nx];omega
 cases Z:sl.k with
 |none=>
  rw[Z]at Q;have⟨d,H',sl',G,E,C,B,K⟩:=zny (e:=U) p (w:=w') ⟨Y,q2⟩ m b Q
  exact⟨_,_,d,H',_,g _ _ G,own sl' d C E,B.drop s (h7 _),h,λq=>(q s rfl).elim⟩
 |some j=>
  rw[Z]at Q;have⟨A,cp,e1,e2⟩:=Q;have h8:=(Qaa.1 e2).1;have O:=DRL.append ⟨Y,q2⟩ m;have hlen:sl.ws.length+J.length<=zi7:=by rw[Y,m.1];exact b
  let sl':Slot:=⟨.hs F.lv j (A+1) 0 (sl.ws++J).length false,some j,sl.ws++J,[]⟩
  have hm:=p.move ho trivial M Z (.acc U _ (_++ys) w') (.arr (A+1) U (D.len t') (sl.ws++J) none) sl' rfl
   (by simp only[OR];exact⟨O.1,O.2,A+1,none,rfl,by simp[sl',h8]⟩)
  refine⟨_,_,sl'.v,σ.H.set F.lv j (.arr (A+1) U (D.len t') (sl.ws++J) none),_,g _ _ ?_,own sl' sl'.v rfl rfl,by rw[p.yaz];exact hm,h,λq=>(q s rfl).elim⟩;rw[e1];simp only[z3o,p.get e2,true_and];rw[Qbq hlen];simp[sl']
 cases a;cases a;cases a;cases h;cases h;cases h;cases h;cases h
omit hD in
theorem z09m(a:TRr D F ρ ts σ){t τ}:VR D (ρ++[⟨.any,some σ.H.L.length,[],[]⟩]) F.lv (TV.map ts.nx:TV D.T) (.map σ.H.lv σ.H.L.length)∧TRr D F (ρ++[⟨.any,some σ.H.L.length,[],[]⟩]) (ts.new D (.mp t τ [])) {σ with H:=σ.H.push (.map [])}:=by
 refine⟨?_,?_⟩;simp only[VR];exact⟨⟨.any,some σ.H.L.length,[],[]⟩,σ.H.L.length,by rw[<-a.nx];simp,rfl,by rw[a.lv]⟩
 exact a.new _ _ _ a.lv a.E (by simp[Heap.push]) (λi hi=>by grind[Heap.push]) (λi hi=>by grind)
  (by exact⟨σ.H.L.length,[],rfl,rfl,(by simp),(by simp[Heap.push])⟩)
omit hD in
theorem yih{R}(g:TRr D F ρ ts σ){t d b k}{r:R}(h:yid P D ts t d k=some r)(o:∀z,d=some z->∃v,b=some v∧VR D ρ F.lv z v)(m:d=none->b=none) :
  ∃z a v H' ρ',y0s P σ.H t b=some (v,H')∧VR D ρ' F.lv z v∧TRr D F ρ' a {σ with H:=H'}∧k z a=some r:=by
 unfold yid at h;split at h;rename_i p e s;split at h;rename_i τ l;have⟨j,i⟩:=z09m g (t:=t) (τ:=τ);exact⟨_,_,_,_,_,by rw[m rfl];rfl,j,i,h⟩;rename_i τ q n l;have⟨j,i⟩:=z09m g (t:=t) (τ:=τ);have⟨v,w,u⟩:=o _ rfl
 grind[VR,y0s]
 cases h;cases h
theorem y5o{R}(g:TRr D F ρ ts σ){t m d x u w a k}{r:R}(h:yfy P D ts t m d x k=some r)(J:VR D ρ F.lv m u)(K:VR D ρ F.lv d w)(U:VR D ρ F.lv x a) :
  ∃z b v H' ρ',ziq P σ.H t u w a=some (v,H')∧VR D ρ' F.lv z v∧TRr D F ρ' b {σ with H:=H'}∧k z b=some r:=by
 unfold yfy at h;split at h;rename_i W e q s Y;simp[VR]at K;subst K;split at h;rename_i ty τ es o I;split at h;rename_i y Q;simp only[VR]at J;obtain⟨sl,i,M,j,rfl⟩:=J;have⟨sl',G,C⟩:=g.ob _ _ I;rw[M]at G;cases G;simp only[OR]at C;have⟨i',ms,B,O,N,A⟩:=C;rw[j]at B;cases B;have X:=zli hD Q U;have n:=(Qaa.1 A).1
 have l:=z01j (P:=P) (f:=λx:τ.S D.T×V=>x.2) (lv:=σ.H.lv) (E:=σ.H.E) Y o A s (y,a) rfl;refine⟨.any,_,.any,{σ.H with L:=σ.H.L.set i (some (.map ((ze4 ms s (y,a)).map λp=>(.str p.1,p.2.2))))},ρ,?_,by simp[VR],?_,h⟩;rw[<-g.lv];exact l
 exact g.upd I trivial M j (.mp ty τ (ze4 es s y)) (.map ((ze4 ms s (y,a)).map λp=>(.str p.1,p.2.2))) (by
  simp only[OR];refine⟨i,ze4 ms s (y,a),j,?_,λp Z =>?_,by simp[n]⟩;rw[O];exact z0a7 Prod.fst s (y,a) ms
  rcases z0aa Z with h|h
  rw[h];exact X
  exact N p h)
 cases h;cases h;cases h
omit hD in
theorem yxt{R}(e:TRr D F ρ ts σ){b x n k}{r:R}(h:z06y D ts x b k=some r)(u:VR D ρ F.lv x n) :
  ∃z g v H' ρ',yoo σ.H n b=some (v,H')∧VR D ρ' F.lv z v∧TRr D F ρ' g {σ with H:=H'}∧k z g=some r:=by
 unfold z06y at h;split at h;rename_i s;simp only[VR]at u;obtain⟨sl,i,A,y,rfl⟩:=u;split at h;rename_i l a w;have⟨sl',q,p⟩:=e.ob s _ w;rw[A]at q;cases q;simp[OR]at p;have⟨C,o,j⟩:=p;rw[y]at o;cases o;have B:=(Qaa.1 j).1;rw[yfq]at h;split at h;rename_i m;have d:=Qac m
 refine⟨_,_,.tup [.bool true,.int .i64 a,.int .i32 (zel l a).1],σ.H.set F.lv i (.siter l (a+(zel l a).2)),ρ,?_,?_,?_,h⟩;simp only[yoo,e.get j];rw[Qbq d];simp only[VR,VRL];exact⟨_,rfl,_,_,rfl,rfl,_,_,rfl,rfl,_,_,rfl,rfl,rfl⟩;rw[e.yaz];exact e.upd w trivial A y _ _ (by grind[OR]);rename_i m;have d:=λh=>m (Qbm h)
 refine⟨_,_,.tup [.bool false],σ.H,ρ,?_,?_,e,h⟩;simp only[yoo,e.get j];rw[Qbr d];simp only[VR,VRL];grind;cases h;cases h
omit hD in
theorem DRL.take{t xs ws}(h:DRL D t xs ws)(n):DRL D t (xs.take n) (ws.take n):=by
 refine⟨by simp[h.1],λj x w a b =>?_⟩;rw[Qaw]at a b;split at a;rename_i d;rw[Qbq d]at b;exact h.2 j x w a b;cases a
omit hD in
theorem DRL.drop{t xs ws}(h:DRL D t xs ws)(n):DRL D t (xs.drop n) (ws.drop n):=by
 refine⟨by simp[h.1],λj x w a b =>?_⟩;rw[Qba]at a b;exact h.2 _ x w a b
omit hD in
theorem yh3{R}(E:TRr D F ρ ts σ){t x lo u g k w}{r:R}(h:tCut P D ts t x lo k w=some r)(B:VR D ρ F.lv x u)(i:VR D ρ F.lv lo g) :
  (∃z v,zkf P σ.H t u (some g) none none=some v∧VR D ρ F.lv z v∧k z=some r)∨w=some r:=by
 unfold tCut at h;split at h;rename_i s a;split at h;rename_i e ty τ xs K N;split at h;rename_i C;left;have⟨_,b,h⟩:=z3f h;unfold yvr at b;split at b;rename_i d;have⟨J,Y,X⟩:=d;simp[VR]at B i;subst i;obtain⟨sl,G,rfl,q⟩:=B;have⟨sl',A,y⟩:=E.ob s _ N;rw[G]at A;cases A;simp only[OR]at y;have⟨Q,O,l⟩:=y
 cases m:sl.k with
 |none=>
  rw[m]at l
  rcases l with ⟨_,o⟩|⟨_,o⟩
  grind
  grind
 |some j=>
  rw[m]at l;have⟨p,U,I,o⟩:=l;have M:=y7b (P:=P) (n:=sl.ws.length) K C.1 C.2 (E.get o) (a:=a) J (by omega);refine⟨_,_,by rw[I];exact M,?_,h⟩;simp only[VR];refine⟨sl,j,p,G,m,I,J,by omega,?_⟩;split;exact .inl rfl
  grind
 cases b;cases h;cases h;exact .inr h
omit hD in
theorem yxk{R}(p:TRr D F ρ ts σ){t d s O vs k}{r:R}(h:z07i P D ts t d s k=some r)(W:VR D ρ F.lv d O)(Y:VR D ρ F.lv s vs) :
  ∃z w v H' ρ',y7i P σ.H t O vs=some (v,H')∧VR D ρ' F.lv z v∧TRr D F ρ' w {σ with H:=H'}∧k z w=some r:=by
 unfold z07i at h;split at h;rename_i s a s' b;split at h;rename_i J;subst J;split at h;rename_i e ty τ xs hu Z;split at h;rename_i hc;have⟨C,l,h⟩:=z3f h;unfold y60 at l;split at l;rename_i hb;injection l with l;have⟨b1,b2,b3,b4⟩:=hb;simp only[VR]at W Y;have⟨sl,j,i,d1,d2,d3,d4,d5,d6⟩:=W;have⟨h3,j1,h1,f1,f2,f3,f4,f5,f6⟩:=Y;rw[d1]at f1;cases f1;rw[d2]at f2;cases f2;rw[d3]at f3;cases f3
 have⟨sl',X,U⟩:=p.ob s _ Z;rw[d1]at X;cases X;simp only[OR]at U;have⟨B,E,Q⟩:=U;rw[d2]at Q;have⟨h2,u,e1,e2⟩:=Q;rw[d3]at e1;cases e1;have M:=(Qaa.1 e2).1
 have N:vs = .hs F.lv j i b.toNat (sl.ws.length-b.toNat) false:=by
  grind
 subst N
 let n:=min (sl.ws.length-b.toNat) (sl.ws.length-a.toNat)
 let g:=sl.ws.take a.toNat++((sl.ws.drop b.toNat).take n++sl.ws.drop (a.toNat+n))
 let sl':Slot:=⟨sl.v,some j,g,[]⟩
 have h4:g.length=sl.ws.length:=by grind
 have m:DRL D τ C g:=by
  rw[<-l];simp[g,n,B];exact(DRL.take ⟨B,E⟩ _).append (((DRL.drop ⟨B,E⟩ _).take _).append (DRL.drop ⟨B,E⟩ _))
 have K:OR D (ρ++[sl']) F.lv (σ.H.L.set j (some (.arr i ty (D.len τ) g u))) sl' (.acc ty τ C true):=by
  simp only[OR];refine⟨m.1,m.2,i,u,?_,by simp[sl',M]⟩
  grind
 have hm:=p.move Z trivial d1 d2 (.acc ty τ C true) (.arr i ty (D.len τ) g u) sl' rfl K;have o:=hm.zf2 (TV.ren D s ts.nx) λx v G=>VR.ren (lookup_append d1) (sl':=sl') (by rw[<-p.nx];simp) rfl G
 have A:=p.get e2
 rcases d6 with d6|⟨d6,sz,rfl⟩
 subst d6;refine⟨.any,_,.int .i64 (min (sl.ws.length-b.toNat) (sl.ws.length-a.toNat):Nat),σ.H.set F.lv j (.arr i ty (D.len τ) g u),ρ++[sl'],?_,by simp[VR],?_,h⟩;simp only[y7i,hu,A];rw[Qbq hc.2,Qbq ⟨trivial,trivial,trivial⟩,Qbq ⟨trivial,hc.1⟩];rw[p.yaz];exact o;have hn:n=0:=by simp[n];omega
 have I:g=sl.ws:=by
  simp[g,hn,List.take_append_drop]
 have y:σ.H.L.set j (some (.arr i ty (D.len τ) g u))=σ.H.L:=by
  rw[I];refine List.ext_getElem? λq =>?_
  rw[Qbc];split
  grind
  rfl
 rw[y]at o;refine⟨.any,_,.int .i64 0,σ.H,ρ++[sl'],?_,by simp[VR],o,h⟩
 simp_all[y7i]
 cases l;cases h;cases h;cases h;cases h
theorem yp3{R}(a:TRr D F ρ ts σ){op k q}{r:R}(h:tOp P D ts op k q=some r) :
  (∃z b v H' ρ',ox P σ.H σ.ev op=some (v,H')∧VR D ρ' F.lv z v∧TRr D F ρ' b {σ with H:=H'}∧k z b=some r)∨∃s,q s=some r:=by
 have pure:∀{op:Op},tP P D ts op (λv=>k v ts) q=some r->(∃z b v H' ρ',ox P σ.H σ.ev op=some (v,H')∧VR D ρ' F.lv z v∧TRr D F ρ' b {σ with H:=H'}∧k z b=some r)∨∃s,q s=some r:=λ{op} h=>by
  rcases yhh hD a h with ⟨x,v,g,e,n⟩|h
  exact .inl ⟨x,ts,v,σ.H,ρ,yxb g,e,a,n⟩;exact .inr h
 unfold tOp at h;split at h;split at h;rename_i z B;split at h;rename_i l;left;have⟨v,g,e⟩:=zn1 (ρ:=ρ) (lv:=F.lv) B;have⟨n,A⟩:=a.yho hD (e.cells l);exact⟨_,_,_,_,_,by simp only[ox,yhe,g];rw[Qbq (e.yzo l)],A,n,h⟩;cases h;cases h;split at h;rename_i x j;split at h;rename_i l;left;have e:=a.ev j;have⟨n,A⟩:=a.yho hD (e.cells l)
 exact⟨_,_,_,_,_,by simp only[ox,hBox];rw[Qbq (e.yzo l)],A,n,h⟩;cases h;cases h;split at h;rename_i J j
 rcases yqz hD a h (a.ev J) (a.ev j)with ⟨z,b,v,H',ρ',g,e⟩|h
 grind[ox]
 exact .inr h;cases h;split at h;rename_i Q G;left;have⟨M,K⟩:=a.oev G;have⟨z,b,v,H',ρ',g,e⟩:=yih a h M K
 grind[ox]
 cases h;split at h;rename_i w y j;left;have⟨z,b,v,H',ρ',g,e⟩:=y5o hD a h (a.ev w) (a.ev y) (a.ev j)
 grind[ox]
 cases h;split at h;rename_i w y j;left;have⟨z,b,v,H',ρ',g,e⟩:=y5o hD a h (a.ev w) (a.ev y) (a.ev j)
 grind[ox]
 cases h;split at h;rename_i str j;split at h;rename_i C;left;have g:=a.ev j;simp[VR]at g;refine⟨_,_,.ptr σ.H.lv σ.H.L.length 0,σ.H.push (.siter str 0),ρ++[⟨.any,some σ.H.L.length,[],[]⟩],by simp[ox,yqg,g,C],?_,?_,h⟩;simp only[VR];exact⟨⟨.any,some σ.H.L.length,[],[]⟩,σ.H.L.length,by rw[<-a.nx];simp,rfl,by rw[a.lv]⟩
 exact a.new _ _ _ a.lv a.E (by simp[Heap.push]) (λi hi=>by grind[Heap.push]) (λi hi=>by grind)
  (by simp only[OR];exact⟨σ.H.L.length,rfl,by simp[Heap.push]⟩)
 cases h;cases h;split at h;rename_i hi;left;have⟨z,b,v,H',ρ',g,e⟩:=yxt a h (a.ev hi)
 grind[ox]
 cases h;split at h;rename_i c;split at h;rename_i s x t u p m o;split at h;rename_i l j
 rcases yi0 hD a h (a.ev l) (a.ev j)with ⟨z,b,v,H',ρ',g,e⟩|h
 grind[ox]
 exact .inr h;rename_i l j;left;have⟨z,b,v,H',ρ',g,e,O,N,_⟩:=y57 a h (a.ev l) (a.ev j)
 grind[ox]
 cases h;rename_i d s t u p m o;split at h;rename_i I l;left;have⟨z,b,v,H',ρ',g,e⟩:=yxk a h (a.ev I) (a.ev l)
 grind[ox]
 cases h;exact pure h;exact pure h
end
section
variable {P:Program}{D:Dat}{F:Fr}{ρ:List Slot}{ts:TS D.T}{σ:St}{lv:Nat}{L:List (Option yzm)}
def Slot.all(sl:Slot):List Nat:=sl.k.toList++sl.fp
def Slot.y2s{sl:Slot}{i}:i∈sl.all↔sl.has i:=by
 simp_all[Slot.all,Slot.has]
def y6m{t}(h:D.zrs t=true):∀i f,f<(D.fl i).length->t = .st i->D.ow i f=none:=λi f a e=>by
 simp_all[Dat.zrs,Dat.owns]
def z0eo{ty t xs sl}(h:OR D ρ lv L sl (.acc ty t xs true))(s:D.zrs t=true):DO D lv L (.own ty) (.sl t) xs sl.v sl.k.toList:=by
 simp only[OR]at h;have⟨z,I,l⟩:=h
 cases y:sl.k with
 |none=>
  rw[y]at l;have r:sl.ws=[]->xs=[]:=λe=>Qao (by rw[<-z,e];rfl)
  rcases l with ⟨d,a⟩|⟨⟨d,_⟩,a⟩
  have:=r a;subst this;rw[d];exact .nil (.nil _) (.inl rfl);have A:=a trivial;have:=r A;subst this;rw[d,A]
  exact .nil (.sl _ _ _ _ rfl (λj x w E=>by simp at E)) (.inr rfl)
 |some j=>
  rw[y]at l;have⟨M,N,d,a⟩:=l;rw[d]
  have B:([]:List Nat)=(List.replicate xs.length ([]:List Nat)).flatten:=by
   grind[List.flatten_eq_nil_iff]
  show DO D lv L (.own ty) (.sl t) xs _ (j::[]);rw[B];refine .own a z (by simp) λn x w c K J o =>?_
  rw[Qbi]at o;split at o;cases o;have g:=I n x w K J
  cases t with
  |st i=>
   cases g with
   |st _ _ vs C h=>
    have q:([]:List Nat)=(List.replicate (D.fl i).length ([]:List Nat)).flatten:=by
     grind[List.flatten_eq_nil_iff]
    rw[q];refine .el C (by simp) λf p u b b1 b2 m =>?_
    rw[Qbi]at m;split at m;rename_i G;cases m;rw[y6m s i f G rfl];exact .dat (h f p u b1 b2)
    cases m
   |enc=>exact .elf (y6m s) (.enc i x)
  |_=>exact .elf (λi f _ e=>by cases e) g
  cases o
def ys3{ty q xs sl}(h:OR D ρ lv L sl (.deep ty q xs none)):DO D lv L (.own ty) (.sl (.st q)) xs sl.v sl.all:=by
 have⟨i,a⟩:=h;unfold Slot.all
 cases e:sl.k with
 |none=>
  rw[e]at a;obtain⟨rfl,e2,d,_⟩:=a;rw[d]
  rcases e2 with e2|e2
  rw[e2];exact .nil (.nil _) (.inl rfl)
  rw[e2];exact .nil (.sl _ _ _ _ rfl (λj x w g=>by simp at g)) (.inr rfl)
 |some j=>
  rw[e]at a;have⟨G,K,fps,y,e2,d,s,J,r,I⟩:=a;rw[y,s];refine .own e2 i d λn x w c E C B =>?_
  obtain⟨vs,cs,rfl,b2,A,rfl,z⟩:=r n x w c E C B;exact .el b2 A λf p u b o m l=>z f p u b o m l
inductive VH (lv:Nat) (L:List (Option yzm)) (R:Nat->Prop):V->V->Prop where
 |keep (v:V):VH lv L R v v
 |hs (i ver ty sz n:Nat) (full:Bool) (xs ys:List V) (cp:Option Nat) (hR:R i) (hg:L[i]? = some (some (.arr ver ty sz xs cp))) (hn:ys.length=n)
  (h1:∀(j:Nat) (x y:V),xs[j]? = some x->ys[j]? = some y->x.cells.length=y.cells.length) (h2:∀(j:Nat) (x y:V) (t:Nat) (v u:V),xs[j]? = some x->ys[j]? = some y->x.cells[t]? = some v->y.cells[t]? = some u->VH lv L R v u) :
  VH lv L R (.hs lv i ver 0 n full) (.sl sz ys false)
def VH.rel{W g H H' R}(r:Good W g H)(C:H.lv=lv)(hL:H.L=L)(X:∀{x:V}{c:Value},Rel W g H x c->Rel W g H' x c)(s:∀i o,R i->H.get H.lv i=some o->¬Own g H' (o.blk g H.lv i)){v u}(h:VH lv L R v u):∀{c},Rel W g H v c->Rel W g H' u c:=by
 induction h with
 |keep v=>exact λh=>X h
 |hs i B ty q n full xs z cp hR h8 U J h2 O=>
  intro c Y
  have A:H.get H.lv i=some (.arr B ty q xs cp):=by
   unfold Heap.get;grind
  subst C
  cases Y with
  |hs _ _ _ _ _ _ a m E hd hv Z=>
   obtain⟨rfl,rfl,⟨I,G,h9⟩,h6⟩:=Z _ _ _ _ A;have⟨l,N,M,K,h3,k4,k5,w⟩:=y84 r A
   have get:∀j y,z[j]? = some y->∃x,xs[j]? = some x∧j<m:=λj y b=>by
    grind
   have cells:∀(j:Nat) (y:V) (t:Nat) (u:V),z[j]? = some y->y.cells[t]? = some u->∃x v,xs[j]? = some x∧x.cells[t]? = some v∧Rel W g H' u (l.getD (j * q+t) undef)∧(l.getD (j * q+t) undef).oneCell'=true∧j * q+t<l.size:=λj y t u b p=>by
    have⟨x,d,h7⟩:=get j y b;have hl:=J j x y d b;have h4:=w.1 _ _ d;have h5:=(Qaa.1 p).1;have k:x.cells[t]? = some (x.cells[t]'(by omega)):=Qab _;refine⟨x,_,d,k,O j x y t _ u d b k p (w.2.2 _ _ _ _ d k),w.2.1 _ _ _ _ d k,?_⟩;rw[K];exact ybd (by omega) (by omega)
   rw[<-U];refine .sl q z false (g.ab H.lv i) (0 * q) E (λj t=>l.getD (j * q+t) undef) (λQ=>s i _ hR A Q) M (by omega) (by simp) (λj y b =>?_) (λj y t u b p =>?_) (λj y t u b p =>?_) (λj y t u b p =>?_);have⟨x,d,_⟩:=get j y b;rw[<-J j x y d b];exact w.1 _ _ d;have⟨x,v,_,_,_,_,e⟩:=cells j y t u b p;have:=cell_of N e
   grind
   have⟨x,v,_,_,_,e,_⟩:=cells j y t u b p;exact e;have⟨x,v,_,_,e,_,_⟩:=cells j y t u b p;exact e
def SeenH(lv:Nat)(L:List (Option yzm))(R:Nat->Prop):OM->V->V->Prop
 |.el,v,u=>v.cells.length=u.cells.length∧∀(j:Nat) (a b),v.cells[j]? = some a->u.cells[j]? = some b->VH lv L R a b
 |.dat,v,u=>VH lv L R v u
 |.own _,v,u=>VH lv L R v u
def DO.seeH{R:Nat->Prop}{m:OM}{t:DTy}{x:t.S D.T}{v:V}{N:List Nat}(h:DO D lv L m t x v N):(∀i∈N,R i)->∃u,DR D t x u∧SeenH lv L R m v u:=by
 induction h with
 |dat h=>exact λ_=>⟨_,h,.keep _⟩
 |nil h Z=>exact λ_=>⟨_,h,.keep _⟩
 | @own ty t xs j M X ws fps U O C W G=>
   intro E
   have⟨g,K,s⟩:=zmj (Q:=λn u=>∀(x:t.S D.T) (w:V),xs[n]? = some x->ws[n]? = some w->DR D t x u∧w.cells.length=u.cells.length∧∀(j:Nat) (a b:V),w.cells[j]? = some a->u.cells[j]? = some b->VH lv L R a b) xs.length λn z=>by
    have I:fps[n]? = some (fps[n]'(by omega)):=Qab (show n<fps.length by omega);have⟨u,J,r⟩:=G n _ _ _ (Qab z) (Qab (show n<ws.length by omega)) I (λi hi=>E i (Qai _ (List.mem_flatten.2 ⟨_,Qax I,hi⟩)));refine⟨u,λx w y d =>?_⟩
    rw[Qab z]at y;cases y
    rw[Qab (show n<ws.length by omega)]at d;cases d
    exact⟨J,r⟩
   refine⟨.sl (D.len t) g false,.sl t xs g false K λn x u y o =>?_,?_⟩;have z:=(Qaa.1 y).1;exact(s n u o x _ y (Qab (show n<ws.length by omega))).1;refine .hs j M ty (D.len t) ws.length false ws g X (E j Qak) U (by omega) (λn w u d o =>?_) λn w u c a b d o l k =>?_
   have z:=(Qaa.1 d).1;exact(s n u o _ w (Qab (show n<xs.length by omega)) d).2.1;have z:=(Qaa.1 d).1
   exact(s n u o _ w (Qab (show n<xs.length by omega)) d).2.2 c a b l k
 | @el i x vs cs O I h G=>
   intro E
   have⟨g,K,s⟩:=zmj (Q:=λf u=>∀(p:(t:DTy)×t.S D.T) (w:V),HL.nth (D.fl i) (D.get i x) f=some p->vs[f]? = some w->DR D p.1 p.2 u∧VH lv L R w u) (D.fl i).length λf C=>by
    have⟨p,q,_⟩:=HL.zn7 (D.fl i) (D.get i x) f C;have B:cs[f]? = some (cs[f]'(by omega)):=Qab (show f<cs.length by omega);have⟨u,J,r⟩:=G f p _ _ q (Qab (show f<vs.length by omega)) B (λi hi=>E i (List.mem_flatten.2 ⟨_,Qax B,hi⟩));refine⟨u,λY w e d =>?_⟩
    rw[q]at e;injection e with e;subst e
    rw[Qab (show f<vs.length by omega)]at d;cases d
    refine⟨J,?_⟩
    cases A:D.ow i f with
    |none=>rw[A]at r;exact r
    |some ty=>rw[A]at r;exact r
   refine⟨.agg g,.st i x g K λf p u q o =>?_,?_⟩;have C:=(HL.zic _ _ _ _ q).1;exact(s f u o p _ q (Qab (show f<vs.length by omega))).1;refine⟨by show vs.length=g.length;omega,λf a b l k =>?_⟩;replace l:vs[f]? = some a:=l;replace k:g[f]? = some b:=k;have C:=(Qaa.1 l).1;have⟨p,q,_⟩:=HL.zn7 (D.fl i) (D.get i x) f (by omega)
   exact(s f b k p a q l).2
 |elf H h=>exact λ_=>⟨_,h,rfl,λj a b l k=>by rw[l]at k;cases k;exact .keep _⟩
def ycf(L:List (Option yzm))(all:List Nat)(a:List (Nat×yzm)):List (Option yzm):=(List.range L.length).map λk=>if k∈all then none else match a.find? (λp=>p.1==k)with|some p=>some p.2|none=>(L[k]?).join
def y3f(L)(all)(a):(ycf L all a).length=L.length:=by simp[ycf]
def y2q{L all a k}(b:k<L.length):(ycf L all a)[k]? = some (if k∈all then none else match a.find? (λp=>p.1==k)with|some p=>some p.2|none=>(L[k]?).join):=by
 grind[ycf]
def z042{σ:St}{all:List Nat}{v r:V}(hd:σ.d=[])(hv:VH σ.H.lv σ.H.L (· ∈ all) v r){J j:List (Nat×yzm)}(h5:(J.map (·.1)).Nodup)(C:FOL v r J j)(h4:∀p∈J,σ.H.L[p.1]? = some (some p.2)∧p.1∉all)
  {t':List V} (ht:FVL v r σ.t t') :
  znz σ ⟨t',⟨σ.H.lv,ycf σ.H.L all j,σ.H.E⟩,[],σ.e0⟩∧(∀k∈j,(ycf σ.H.L all j)[k.1]? = some (some k.2))∧∀n,n<σ.H.L.length->n∉all->(∀p∈J,p.1≠n)->(ycf σ.H.L all j)[n]? = σ.H.L[n]? := by
 have h9:(j.map (·.1)).Nodup:=by rw[C.map];exact h5
 have G:∀k∈j,j.find? (λp=>p.1==k.1)=some k:=λk u=>by
  cases z:j.find? (λp=>p.1==k.1)with
  |none=>rw[List.find?_eq_none]at z;have:=z k u;simp at this
  |some q=>
   have K:=List.find?_some z;have Z:=List.mem_of_find?_eq_some z;simp at K;have⟨a,ha⟩:=List.mem_iff_getElem?.1 u;have⟨b,X⟩:=List.mem_iff_getElem?.1 Z;have N:(j.map (·.1))[a]? = some k.1:=by simp[ha]
   have he:(j.map (·.1))[b]? = some k.1:=by simp[X,K]
   have s:=(Qaa.1 N).1;have:=(List.getElem?_inj s h9).1 (N.trans he.symm);subst this;rw[ha]at X;exact X.symm
 have y:∀k∈j,∃o,σ.H.L[k.1]? = some (some o)∧k.1∉all∧FO v r o k.2:=λk u=>by
  have⟨o,ho,U⟩:=C.mem k u;exact⟨o,(h4 _ ho).1,(h4 _ ho).2,U⟩
 refine⟨?_,λk u =>?_,λn hn h8 h7 =>?_⟩;refine yii (v:=v) (r:=r) (y3f _ _ _) (λm o' w =>?_) ht hd λW g hG hg U c hc =>?_
 have s:m<σ.H.L.length:=by have:=(Qaa.1 w).1;rw[y3f]at this;exact this
 rw[y2q s]at w;injection w with w;split at w;cases w;split at w;rename_i p B;injection w with w;have x:=List.find?_some B;simp at x;have⟨o,I,_,Y⟩:=y p (List.mem_of_find?_eq_some B);exact⟨o,by rw[<-x];exact I,by rw[<-w];exact Y⟩;refine⟨o',?_,.inl rfl⟩;rw[Qab s]at w ⊢;simp at w;rw[w];refine VH.rel hG rfl rfl U (λi o hi Q ⟨l,A,o',h,h6⟩ =>?_) hv hc
 have O:∃o,σ.H.get l A=some o∧o'.blk g l A=o.blk g l A∧¬(l=σ.H.lv∧A∈all):=by
  unfold Heap.get at h ⊢;dsimp only at h ⊢;by_cases R:l=σ.H.lv;rw[Qbq R]at h ⊢
  cases z:(ycf σ.H.L all j)[A]? with
  |none=>rw[z]at h;simp at h
  |some q=>
   have s:A<σ.H.L.length:=by have:=(Qaa.1 z).1;rw[y3f]at this;exact this
   rw[y2q s]at h;simp only[Option.join_some]at h;split at h;cases h;rename_i M;split at h;rename_i p B;injection h with h;have x:=List.find?_some B;simp at x;have⟨o,I,_,Y⟩:=y p (List.mem_of_find?_eq_some B);rw[x]at I;exact⟨o,by rw[I];rfl,by rw[<-h];exact Y.blk g l A,λe=>M e.2⟩;exact⟨o',h,rfl,λe=>M e.2⟩
  rw[Qbr R]at h ⊢;exact⟨o',h,rfl,λe=>R e.1⟩
 have⟨o2,w1,w2,w3⟩:=O;have⟨e1,e2⟩:=hG.inj _ _ _ _ _ _ w1 Q (by rw[<-w2];exact h6);exact w3 ⟨e1,by rw[e2];exact hi⟩;have⟨o,I,h2,_⟩:=y k u;have s:=(Qaa.1 I).1;rw[y2q s,Qbr h2,G k u];rw[y2q hn,Qbr h8]
 have:j.find? (λp=>p.1==n)=none:=by
  rw[List.find?_eq_none];intro p B;have:p.1∈J.map (·.1):=by rw[<-C.map];exact List.mem_map_of_mem B
  have⟨q,z,hh⟩:=Qbb.1 this;have:=h7 q z;simp;omega
 rw[this,Qab hn];rfl
end
section
variable {P:Program}{D:Dat}{F:Fr}{ρ:List Slot}{ts:TS D.T}{σ:St}{lv:Nat}
mutual
def z02y{s:Nat}{m:Bool}{z:TV D.T}{v0 r:V}(l:∀v,VR D ρ lv (match m with|true=>TV.map s|false=>TV.own s) v->v=v0)(g:VR D ρ lv z r):∀{x:TV D.T}{v:V},VR D ρ lv x v->∃A,FV v0 r v A∧VR D ρ lv (TV.frz D s m z x) A
 |.own j,v,h=>by
  cases m with
  |true=>exact⟨v,.keep _,by simpa only[TV.frz]using h⟩
  |false=>
   simp only[TV.frz];split;rename_i y;subst y;obtain rfl:=l v h;exact⟨r,.it,g⟩
   exact⟨v,.keep _,h⟩
 |.map j,v,h=>by
  cases m with
  |false=>exact⟨v,.keep _,by simpa only[TV.frz]using h⟩
  |true=>
   simp only[TV.frz];split;rename_i y;subst y;obtain rfl:=l v h;exact⟨r,.it,g⟩
   exact⟨v,.keep _,h⟩
 |.agg cs,v,h=>by
  simp only[TV.frz,VR]at h ⊢;obtain⟨vs,rfl,w⟩:=h;have⟨e,u,p⟩:=y8g l g w
  exact⟨.agg e,.agg' u,e,rfl,p⟩
 |.tup cs,v,h=>by
  simp only[TV.frz,VR]at h ⊢;obtain⟨vs,rfl,w⟩:=h;have⟨e,u,p⟩:=y8g l g w
  exact⟨.tup e,.tup' u,e,rfl,p⟩
 |.dp j i d,v,h=>⟨v,.keep _,by simpa only[TV.frz]using h⟩
 |.bsl q cs,v,h=>⟨v,.keep _,by simp only[TV.frz,VR]⟩
 |.any,v,h=>⟨v,.keep _,by simpa only[TV.frz]using h⟩
 |.bool b,v,h=>⟨v,.keep _,by simpa only[TV.frz]using h⟩
 |.int k n,v,h=>⟨v,.keep _,by simpa only[TV.frz]using h⟩
 |.str b,v,h=>⟨v,.keep _,by simpa only[TV.frz]using h⟩
 |.nilp,v,h=>⟨v,.keep _,by simpa only[TV.frz]using h⟩
 |.nils,v,h=>⟨v,.keep _,by simpa only[TV.frz]using h⟩
 |.mapn,v,h=>⟨v,.keep _,by simpa only[TV.frz]using h⟩
 |.nilf,v,h=>⟨v,.keep _,by simpa only[TV.frz]using h⟩
 |.nili,v,h=>⟨v,.keep _,by simpa only[TV.frz]using h⟩
 |.sl o B C,v,h=>⟨v,.keep _,by simpa only[TV.frz]using h⟩
 |.ptr j d,v,h=>⟨v,.keep _,by simpa only[TV.frz]using h⟩
 |.bp j d,v,h=>⟨v,.keep _,by simpa only[TV.frz]using h⟩
 |.osl j lo,v,h=>⟨v,.keep _,by simpa only[TV.frz]using h⟩
 |.mc o es,v,h=>⟨v,.keep _,by simpa only[TV.frz]using h⟩
 |.ref cs d,v,h=>⟨v,.keep _,by simpa only[TV.frz]using h⟩
 |.ap j o i x d,v,h=>⟨v,.keep _,by simpa only[TV.frz]using h⟩
 |.fn f a b,v,h=>⟨v,.keep _,by simpa only[TV.frz]using h⟩
 |.iface o x,v,h=>⟨v,.keep _,by simpa only[TV.frz]using h⟩
def y8g{s:Nat}{m:Bool}{z:TV D.T}{v0 r:V}(e:∀v,VR D ρ lv (match m with|true=>TV.map s|false=>TV.own s) v->v=v0)(d:VR D ρ lv z r):∀{cs:List (TV D.T)}{vs:List V},VRL D ρ lv cs vs->∃a,FVL v0 r vs a∧VRL D ρ lv (TV.yuo D s m z cs) a
 |[],vs,h=>by simp only[TV.yuo,VRL]at h ⊢;subst h;exact⟨[],.nil,rfl⟩
 |c::cs,vs,h=>by
  simp only[TV.yuo,VRL]at h ⊢;obtain⟨v,q,rfl,i,g⟩:=h;have⟨b,k,j⟩:=z02y e d i;have⟨a,b1,b2⟩:=y8g e d g;exact⟨b::a,.cons k b1,b,a,rfl,j,b2⟩
end
def yvs(s)(m)(z):∀cs:List (TV D.T),TV.yuo D s m z cs=cs.map (TV.frz D s m z)
 |[]=>rfl
 |c::cs=>by simp[TV.yuo,yvs s m z cs]
def y9p{s m z v0 r}(g:∀v,VR D ρ lv (match m with|true=>TV.map s|false=>TV.own s) v->v=v0)(e:VR D ρ lv z r)(f:Nat->Option (TV D.T)):∀(l) (k),(∀j x v,f (k+j)=some x->l[j]? = some v->VR D ρ lv x v) ->
  ∃a,FVL v0 r l a∧∀j x v,f (k+j)=some x->a[j]? = some v->VR D ρ lv (TV.frz D s m z x) v
 |[],k,h=>⟨[],.nil,λj x v _ b=>by simp at b⟩
 |u::l,k,h=>by
  have⟨a,i,p⟩:=y9p g e f l (k+1) λj x v d b=>h (j+1) x v (by grind) (by simpa using b)
  cases o:f k with
  |none=>
   refine⟨u::a,.cons (.keep _) i,λj x v d b =>?_⟩
   cases j with
   |zero=>grind
   |succ j=>grind
  |some y=>
   have⟨n,b1,b2⟩:=z02y g e (h 0 y u (by simpa using o) rfl);refine⟨n::a,.cons b1 i,λj x v d b =>?_⟩
   cases j with
   |zero=>simp_all
   |succ j=>grind
def y9s(hR:TRr D F ρ ts σ){s:Nat}{m:Bool}{z:TV D.T}{v0 r:V}(hz:∀q,z ≠ .own q)(h1:∀v,VR D ρ F.lv (match m with|true=>TV.map s|false=>TV.own s) v->v=v0)(hr:VR D ρ F.lv z r):∀n:Nat,∃C g:List (Nat×yzm),FOL v0 r C g∧(C.map (·.1)).Nodup ∧
  (∀p∈C,σ.H.L[p.1]? = some (some p.2)∧∃b o sl',b<n∧b≠s∧fnd ts.o b=some o∧o.live∧ρ[b]? = some sl'∧sl'.k=some p.1) ∧
  ∀b o sl' i,b<n->b≠s->fnd ts.o b=some o->o.live->ρ[b]? = some sl'->sl'.k=some i->∃J,(i,J)∈g∧∀L',L'[i]? = some (some J)->(∀j∈sl'.fp,L'[j]? = σ.H.L[j]?)->OR D ρ F.lv L' sl' (TO.map D (TV.frz D s m z) o)
 |0=>⟨[],[],.refl _,by simp,by simp,λb o sl' i h=>by omega⟩
 |n+1=>by
  have⟨C,g,a1,a2,a3,a4⟩:=y9s hR hz h1 hr n
  have skip:(∀o sl' i,n≠s->fnd ts.o n=some o->o.live->ρ[n]? = some sl'->sl'.k=some i->False)->∃C g:List (Nat×yzm),FOL v0 r C g∧(C.map (·.1)).Nodup ∧
    (∀p∈C,σ.H.L[p.1]? = some (some p.2)∧∃b o sl',b<n+1∧b≠s∧fnd ts.o b=some o∧o.live∧ρ[b]? = some sl'∧sl'.k=some p.1) ∧
    ∀b o sl' i,b<n+1->b≠s->fnd ts.o b=some o->o.live->ρ[b]? = some sl'->sl'.k=some i->∃J,(i,J)∈g∧∀L',L'[i]? = some (some J)->(∀j∈sl'.fp,L'[j]? = σ.H.L[j]?)->OR D ρ F.lv L' sl' (TO.map D (TV.frz D s m z) o):=λhc=>
   ⟨C,g,a1,a2,λp hp=>by have⟨b1,b,o,sl',b2,b3⟩:=a3 p hp;exact⟨b1,b,o,sl',by omega,b3⟩,λb o sl' i c1 c2 X c4 U R=>by
     by_cases e:b=n;subst e;exact(hc o sl' i c2 X c4 U R).elim
     exact a4 b o sl' i (by omega) c2 X c4 U R⟩
  by_cases h5:n=s;exact skip λo sl' i hd=>(hd h5).elim
  ·cases O:fnd ts.o n with
   |none=>exact skip λo sl' i _ h=>by rw[O]at h;cases h
   |some o=>
    have⟨sl',k1,A⟩:=hR.ob n o O;by_cases W:o.live
    ·cases x:sl'.k with
     |none=>exact skip λo' I i _ h h6 h2 h3=>by rw[k1]at h2;cases h2;rw[x]at h3;cases h3
     |some i=>
      have⟨a,N⟩:=A.at W x
      have M:i∉C.map (·.1):=λhm=>by
       have⟨p,hp,h9⟩:=Qbb.1 hm;have⟨b1,b,o',I,b2,b3,b4,b5,b6,b7⟩:=a3 p hp;have:=hR.inj n b o o' sl' I i O b4 W b5 k1 b6 (.inl x) (.inl (by rw[b7,h9]));omega
      have step:∀a':yzm,FO v0 r a a'->(∀L':List (Option yzm),L'[i]? = some (some a')->(∀j∈sl'.fp,L'[j]? = σ.H.L[j]?)->OR D ρ F.lv L' sl' (TO.map D (TV.frz D s m z) o))->∃C g:List (Nat×yzm),FOL v0 r C g∧(C.map (·.1)).Nodup ∧
        (∀p∈C,σ.H.L[p.1]? = some (some p.2)∧∃b o sl',b<n+1∧b≠s∧fnd ts.o b=some o∧o.live∧ρ[b]? = some sl'∧sl'.k=some p.1) ∧
        ∀b o sl' i,b<n+1->b≠s->fnd ts.o b=some o->o.live->ρ[b]? = some sl'->sl'.k=some i->∃J,(i,J)∈g∧∀L',L'[i]? = some (some J)->(∀j∈sl'.fp,L'[j]? = σ.H.L[j]?)->OR D ρ F.lv L' sl' (TO.map D (TV.frz D s m z) o):=λa' he hb=>
       ⟨(i,a)::C,(i,a')::g,.cons he a1,by simp only[List.map_cons,List.nodup_cons];exact⟨M,a2⟩,λp hp=>by
         rcases Qbf.1 hp with rfl|hp
         exact⟨N,n,o,sl',by omega,h5,O,W,k1,x⟩
         have⟨b1,b,o,sl',b2,b3⟩:=a3 p hp;exact⟨b1,b,o,sl',by omega,b3⟩,λb o2 I i2 c1 c2 X c4 U R=>by
         by_cases e:b=n;subst e
         rw[O]at X;cases X
         rw[k1]at U;cases U
         rw[x]at R;cases R
         exact⟨a',Qak,hb⟩;have⟨J,d1,d2⟩:=a4 b o2 I i2 (by omega) c2 X c4 U R
         exact⟨J,Qai _ d1,d2⟩⟩
      cases o with
      |cells cs=>
       simp only[OR]at A;have⟨i',vs,B,y,G⟩:=A
       rw[x]at B;cases B
       rw[N]at y;injection y with y;cases y
       have⟨us,f1,f2⟩:=y8g h1 hr G;rw[yvs]at f2
       exact step (.cells us) (.inr ⟨vs,us,rfl,rfl,f1⟩) λL' d w=>by simp only[TO.map,OR];exact⟨i,us,x,d,f2⟩
      |acc K t' h4 w'=>
       have:=A;refine step a (.inl rfl) λL' d w =>?_
       simp only[OR,x]at A;simp only[TO.map,OR,x];have⟨B,y,h8,cp,G,Q⟩:=A;rw[N]at Q
       exact⟨B,y,h8,cp,G,d.trans Q⟩
      |rig=>simp only[OR]at A;rw[A.1]at x;cases x
      |siter l hg=>
       refine step a (.inl rfl) λL' d w =>?_
       simp only[OR]at A;simp only[TO.map,OR];have⟨i',B,y⟩:=A
       rw[x]at B;cases B
       rw[N]at y
       exact⟨i,x,d.trans y⟩
      |mp K t' hf=>
       refine step a (.inl rfl) λL' d w =>?_
       simp only[OR]at A;simp only[TO.map,OR];have⟨i',ms,B,e0,G,y⟩:=A
       rw[x]at B;cases B
       rw[N]at y
       exact⟨i,ms,x,e0,G,d.trans y⟩
      |mit t' last hf=>
       refine step a (.inl rfl) λL' d w =>?_
       simp only[OR]at A;simp only[TO.map,OR];have⟨i',fs,h7,B,e0,y,G⟩:=A
       rw[x]at B;cases B
       rw[N]at y
       exact⟨i,fs,h7,x,e0,d.trans y,G⟩
      |bld K b'=>
       refine step a (.inl rfl) λL' d w =>?_
       simp only[OR]at A;have⟨i',u,c,B,y,G,Q⟩:=A
       rw[x]at B;cases B
       rw[N]at y
       cases b' with
       |none=>simp only[TO.map,OR];exact⟨i,u,c,x,d.trans y,G,Q⟩
       |some q=>
        cases m with
        |true=>simp only[TO.map,TV.frz,OR];exact⟨i,u,c,x,d.trans y,G,Q⟩
        |false=>
         simp only[TO.map,TV.frz];by_cases Z:q=s
         ·rw[Qbq Z];cases z <;> simp only[OR]
          case own Y=>exact(hz Y rfl).elim
         rw[Qbr Z];simp only[OR];exact⟨i,u,c,x,d.trans y,G,Q⟩
      |gone=>exact W.elim
      |deep K Y h4 h'=>
       have E:∀L':List (Option yzm),L'[i]? = some (some a)->(∀j∈sl'.fp,L'[j]? = σ.H.L[j]?)->OR D ρ F.lv L' sl' (.deep K Y h4 h'):=λL' d w=>by
        have:=A.mono (L':=L') [] λj hj _=>by
         rcases hj with hj|hj
         rw[x]at hj;cases hj;exact d.trans N.symm
         exact w j hj
        simpa using this
       refine step a (.inl rfl) λL' d w =>?_
       cases h' with
       |none=>exact E L' d w
       |some p=>
        have⟨n',c',s0⟩:=p;simp only[TO.map]
        cases m with
        |true=>simp only[TV.frz];exact E L' d w
        |false=>
         simp only[TV.frz];by_cases Z:s0=s
         ·rw[Qbq Z];cases z <;> simp only[OR]
          case own Y=>exact(hz Y rfl).elim
         rw[Qbr Z];exact E L' d w
    exact skip λo' I i _ h h6=>by rw[O]at h;cases h;exact(W h6).elim
def yhi(w:TRr D F ρ ts σ){s:Nat}{m:Bool}{z:TV D.T}(hz:∀q,z ≠ .own q){v0 r:V}{sl:Slot}(k1:ρ[s]? = some sl)(h8:ts.d=[]){Z:List (Nat×yzm)}
  (a4:∀b o sl' i,b<ts.nx->b≠s->fnd ts.o b=some o->o.live->ρ[b]? = some sl'->sl'.k=some i->∃ao,(i,ao)∈Z∧∀L',L'[i]? = some (some ao)->(∀j∈sl'.fp,L'[j]? = σ.H.L[j]?)->OR D ρ F.lv L' sl' (TO.map D (TV.frz D s m z) o))
  {M:List V} (c1:FVL v0 r σ.t M) (c2:∀j x v,fnd ts.t (0+j)=some x->M[j]? = some v->VR D ρ F.lv (TV.frz D s m z x) v) {L':List (Option yzm)}(d1:∀p'∈Z,L'[p'.1]? = some (some p'.2)) (d3:L'.length=σ.H.L.length) (d4:∀i,F.out i->L'[i]? = σ.H.L[i]?) (d5:∀b o sl' i,b≠s->fnd ts.o b=some o->o.live->ρ[b]? = some sl'->i∈sl'.fp->L'[i]? = σ.H.L[i]?) :
  TRr D F ρ {ts.zf2 D (TV.frz D s m z)with o:=(s,TO.gone)::(ts.zf2 D (TV.frz D s m z)).o} ⟨M,⟨F.lv,L',σ.H.E⟩,[],σ.e0⟩:=by
 have W:∀b o,fnd ((s,TO.gone)::(ts.zf2 D (TV.frz D s m z)).o) b=some o->(b=s∧o = .gone)∨(b≠s∧∃o',fnd ts.o b=some o'∧o=TO.map D (TV.frz D s m z) o'):=λb o h=>by
  rw[yzc]at h;split at h
  rename_i e;injection h with h;exact .inl ⟨e.symm,h.symm⟩
  rename_i e;simp only[TS.zf2]at h;rw[zo5 (TO.map D (TV.frz D s m z)),Qaf]at h;have⟨o',n,A⟩:=h;exact .inr ⟨λe'=>e e'.symm,o',n,A.symm⟩
 have O:∀o:TO D.T,(TO.map D (TV.frz D s m z) o).live->o.live:=λo h=>by cases o <;> first|exact h|trivial
 have K:∀b o,fnd ((s,TO.gone)::(ts.zf2 D (TV.frz D s m z)).o) b=some o->o.live->b≠s∧∃o',fnd ts.o b=some o'∧o'.live∧o=TO.map D (TV.frz D s m z) o':=λb o h R=>by
  rcases W b o h with ⟨_,rfl⟩|⟨n,o',A,rfl⟩
  exact R.elim;exact⟨n,o',A,O o' R,rfl⟩
 refine⟨w.nx,c1.length.symm.trans w.nt,λj x Y =>?_,λb o h =>?_,λG s2 U o2 B h5 i n A X l2 Q r2 =>?_,λG U B i n X Q =>?_,rfl,w.E,w.e0,(by simp only[TS.zf2,h8,List.map_nil];rfl),λi hi =>?_,w.pin,λG U B i n X Q k1 =>?_,λi G v n A=>z02k (f:=TV.frz D s m z) (λs0 b e u hu=>by
  cases m with
  |true=>simp only[TV.frz,TV.own.injEq]at e;subst e;exact hu
  |false=>
   simp only[TV.frz]at e;split at e;exact(hz _ e).elim
   simp only[TV.own.injEq]at e;subst e;exact hu) (λs0 e=>w.g i s0 v e A) n⟩
 simp only[TS.zf2]at Y;rw[zo5 (TV.frz D s m z),Qaf]at Y;obtain⟨y,hy,rfl⟩:=Y;have⟨u,J,e2⟩:=w.tm j y hy;have h3:j<M.length:=by rw[<-c1.length];exact(Qaa.1 J).1
 exact⟨M[j],Qab h3,c2 j y _ (by simpa using hy) (Qab h3)⟩
 rcases W b o h with ⟨rfl,rfl⟩|⟨n,o',A,rfl⟩
 exact⟨sl,k1,by simp only[OR]⟩;have⟨sl',m1,p⟩:=w.ob b o' A;refine⟨sl',m1,?_⟩;by_cases R:o'.live
 cases I:sl'.k with
 |some i=>
  have⟨ao,n1,n2⟩:=a4 b o' sl' i (by rw[<-w.nx];exact(Qaa.1 m1).1) n A R m1 I
  exact n2 L' (d1 _ n1) λj Y=>d5 b o' sl' j n A R m1 Y
 |none=>
  cases o' with
  |cells cs=>simp only[OR]at p;have⟨i,_,e,_⟩:=p;rw[I]at e;cases e
  |acc N ha h4 w'=>simp only[OR,I]at p;simp only[TO.map,OR,I];exact p
  |siter l hb=>simp only[OR]at p;have⟨i,e,_⟩:=p;rw[I]at e;cases e
  |rig=>exact p
  |mp N M h9=>simp only[OR]at p;have⟨i,_,e,_⟩:=p;rw[I]at e;cases e
  |mit M last h9=>simp only[OR]at p;have⟨i,_,_,e,_⟩:=p;rw[I]at e;cases e
  |bld N b'=>simp only[OR]at p;have⟨i,_,_,e,_⟩:=p;rw[I]at e;cases e
  |gone=>simp only[TO.map,OR]
  |deep N q' h4 h'=>
   simp only[OR,I]at p;obtain⟨J,e2,e3,e4,rfl⟩:=p;simp only[TO.map,OR,I];exact⟨J,e2,e3,e4,trivial⟩
 cases o' with
 |gone=>simp only[TO.map,OR]
 |_=>exact(R trivial).elim
 have⟨_,C,J,f1,_⟩:=K G U n X;have⟨_,h6,e2,f2,_⟩:=K s2 o2 A l2;exact w.inj G s2 C h6 B h5 i J e2 f1 f2 Q r2;have⟨_,C,J,f1,_⟩:=K G U n X;exact w.mine G C B i J f1 Q;have⟨n,A⟩:=w.out i hi;exact⟨by show i<L'.length;rw[d3];exact n,(d4 i hi).trans A⟩;have⟨h7,C,J,f1,_⟩:=K G U n X;have hq:=w.fpl G C B i J f1 Q k1
 exact⟨hq.1,by show ∃a,L'[i]? = _;rw[d5 G C B i h7 J f1 Q k1];exact hq.2⟩
def y7k(hD:D.Ok P){s:Nat}{h4:TS D.T}(b:TRr D F ρ ts σ)(h:ts.freeze D s=some h4):∃τ,znz σ τ∧TRr D F ρ h4 τ:=by
 unfold TS.freeze at h;split at h;rename_i ty t xs w O U;cases h;have h2:σ.d=[]:=by have:=b.d;rw[O]at this;exact this
 have⟨sl,J,k2⟩:=b.ob s _ U;have hf:=k2;simp only[OR]at k2;have⟨q1,q2,Q⟩:=k2;have he:s<ρ.length:=(Qaa.1 J).1
 have hr:VR D ρ F.lv (.sl t xs 0) (.sl (D.len t) sl.ws false):=by
  simp only[VR];exact⟨.sl t xs sl.ws false q1 q2,by omega,by omega⟩
 have⟨os,h5,a1,a2,X,a4⟩:=y9s b (s:=s) (m:=false) (z:=.sl t xs 0) (v0:=sl.v) (λq h=>by cases h) (λv h=>by
  simp only[VR]at h;have⟨q,B,K,_⟩:=h;rw[J]at B;cases B;exact K) hr ts.nx
 have h7:zd7 F.lv σ.H.L [⟨ty,D.len t,sl.v,sl.ws,w⟩] os:=by
  refine⟨⟨[sl.k],rfl,λj k a hj ha =>?_,λi j n hi hj =>?_,λp G=>⟨(X p G).1,λj hj =>?_⟩⟩,a2⟩
  cases j with
  |zero=>
   simp at hj ha;subst hj;subst ha
   cases hk:sl.k with
   |none=>rw[hk]at Q;exact Q.imp id λq=>⟨q.1.1,q.2⟩
   |some i=>rw[hk]at Q;have⟨h3,cp,B,K⟩:=Q;exact⟨h3,cp,B,K⟩
  |succ j=>simp at hj
  cases i <;> cases j <;> simp at hi hj <;> rfl
  have⟨_,g,o,sl',b2,Y,N,M,C,I⟩:=X p G
  cases j with
  |zero=>
   simp at hj
   exact Y (b.inj g s o _ sl' sl p.1 N U M trivial C J (.inl I) (.inl hj))
  |succ j=>simp at hj
 have⟨t',c1,c2⟩:=y9p (s:=s) (m:=false) (z:=.sl t xs 0) (v0:=sl.v) (λv h=>by
  simp only[VR]at h;have⟨q,B,K,_⟩:=h;rw[J]at B;cases B;exact K) hr (fnd ts.t) σ.t 0 λj x v hx hv=>by
  have⟨u,B,K⟩:=b.tm j x (by simpa using hx)
  rw[hv]at B;cases B;exact K
 have⟨L',⟨d1,d2⟩,d3,d4⟩:=h7.z02j (j:=0) rfl c1 a1 σ.H.E σ.e0
 have hσ:σ=⟨σ.t,⟨F.lv,σ.H.L,σ.H.E⟩,[],σ.e0⟩:=by
  have B:=b.lv;have K:=h2;have⟨t,⟨l,L,E⟩,d,e0⟩:=σ;simp only at B K;subst B;subst K;rfl
 rw[<-hσ]at d2;refine⟨_,d2,?_⟩
 have h1:∀g o sl' i,g≠s->fnd ts.o g=some o->o.live->ρ[g]? = some sl'->i∈sl'.fp->L'[i]? = σ.H.L[i]? := λg o' sl' i W y A r hi=>by
  have⟨f1,f2⟩:=b.fpl g o' sl' i y A r hi;refine d4 i (b.lt y A r (.inr hi)) (λp G e =>?_) λh3 n e =>?_
  have⟨_,s2,o2,Z,b2,Y,N,M,C,I⟩:=X p G;have:=b.inj s2 g o2 o' Z sl' i N y M A C r (.inl (by rw[I,e])) (.inr hi);subst this
  rw[r]at C;cases C
  exact f1 (by rw[I,e])
  cases hk:sl.k with
  |none=>rw[hk]at Q;rcases Q with ⟨q,_⟩|⟨⟨q,_⟩,_⟩ <;> (rw[e]at q;cases q)
  |some j=>
   rw[hk]at Q;have⟨h6,cp,q,_⟩:=Q
   rw[e]at q;injection q with _ q;subst q
   exact W (b.inj g s o' _ sl' sl i y U A trivial r J (.inr hi) (.inl hk))
 refine yhi b (λq h=>by cases h) J O a4 c1 c2 (λp' hc=>d1.accs.get (by exact hc)) d3 (λi hi =>?_) h1;refine d4 i (b.out i hi).1 (λp G e =>?_) λh3 n e =>?_
 have⟨_,g,o,sl',b2,Y,N,M,C,I⟩:=X p G;exact b.mine g o sl' i N M C (.inl (by rw[I,e])) hi
 cases hk:sl.k with
 |none=>rw[hk]at Q;rcases Q with ⟨q,_⟩|⟨⟨q,_⟩,_⟩ <;> (rw[e]at q;cases q)
 |some j=>
  rw[hk]at Q;have⟨h6,cp,q,_⟩:=Q
  rw[e]at q;injection q with _ q;subst q
  exact b.mine s _ sl i U trivial J (.inl hk) hi
 rename_i ty q xs O U;cases h;have h2:σ.d=[]:=by have:=b.d;rw[O]at this;exact this
 have⟨sl,J,k2⟩:=b.ob s _ U;have⟨u,u1,u2⟩:=(ys3 k2).seeH (R:=(· ∈ sl.all)) (λi hi=>hi)
 have hr:VR D ρ F.lv (.sl (.st q) xs 0) u:=by
  simp only[VR];exact⟨u1,by omega,by omega⟩
 have hit:∀v,VR D ρ F.lv (match false with|true=>TV.map s|false=>TV.own s:TV D.T) v->v=sl.v:=λv h=>by
  simp only[VR]at h;have⟨q,B,K,_⟩:=h;rw[J]at B;cases B;exact K
 have⟨os,h5,a1,a2,X,a4⟩:=y9s b (s:=s) (m:=false) (z:=.sl (.st q) xs 0) (v0:=sl.v) (λq h=>by cases h) hit hr ts.nx
 have⟨t',c1,c2⟩:=y9p (s:=s) (m:=false) (z:=.sl (.st q) xs 0) (v0:=sl.v) hit hr (fnd ts.t) σ.t 0 λj x v hx hv=>by
  have⟨u,B,K⟩:=b.tm j x (by simpa using hx)
  rw[hv]at B;cases B;exact K
 have hb:VH σ.H.lv σ.H.L (· ∈ sl.all) sl.v u:=by rw[b.lv];exact u2
 have⟨d1,d2,d3⟩:=z042 h2 hb a2 a1 (λp G=>⟨(X p G).1,λhm=>by
  have⟨_,g,o,sl',b2,Y,N,M,C,I⟩:=X p G
  exact Y (b.inj g s o _ sl' sl p.1 N U M trivial C J (.inl I) (Slot.y2s.1 hm))⟩) c1
 rw[b.lv]at d1;refine⟨_,d1,?_⟩
 have h1:∀g o sl' n,g≠s->fnd ts.o g=some o->o.live->ρ[g]? = some sl'->n∈sl'.fp->_:=λg o' sl' n W y A r hi=>by
  have⟨f1,f2⟩:=b.fpl g o' sl' n y A r hi;refine d3 n (b.lt y A r (.inr hi)) (λhm =>?_) λp G e =>?_
  exact W (b.inj g s o' _ sl' sl n y U A trivial r J (.inr hi) (Slot.y2s.1 hm));have⟨_,s2,o2,Z,b2,Y,N,M,C,I⟩:=X p G;have:=b.inj s2 g o2 o' Z sl' n N y M A C r (.inl (by rw[I,e])) (.inr hi);subst this
  rw[r]at C;cases C
  exact f1 (by rw[I,e])
 refine yhi b (λq h=>by cases h) J O a4 c1 c2 d2 (y3f _ _ _) (λn hn =>?_) h1;refine d3 n (b.out n hn).1 (λhm =>?_) λp G e =>?_
 exact b.mine s _ sl n U trivial J (Slot.y2s.1 hm) hn;have⟨_,g,o,sl',b2,Y,N,M,C,I⟩:=X p G;exact b.mine g o sl' n N M C (.inl (by rw[I,e])) hn
 ·rename_i ty t es O U;split at h
  case isFalse=>cases h
  rename_i hd;cases h;have h2:σ.d=[]:=by have:=b.d;rw[O]at this;exact this
  have⟨sl,J,k2⟩:=b.ob s _ U;simp only[OR]at k2;have⟨i,ms,q1,h9,q4,Q⟩:=k2;have q2:=hd;have hr:VR D ρ F.lv (.mc t es) (.mapc (es.map λp=>(.str p.1,yeh t p.2))):=by unfold VR;exact⟨q2,rfl⟩
  have hit:∀v,VR D ρ F.lv (match true with|true=>TV.map s|false=>TV.own s:TV D.T) v->v = .map F.lv i:=λv h=>by
   simp only[VR]at h;have⟨q,i',B,K,e3⟩:=h;rw[J]at B;cases B;rw[q1]at K;cases K;exact e3
  have⟨os,h5,a1,a2,X,a4⟩:=y9s b (s:=s) (m:=true) (z:=.mc t es) (λq h=>by cases h) hit hr ts.nx
  have⟨t',c1,c2⟩:=y9p (s:=s) (m:=true) (z:=.mc t es) hit hr (fnd ts.t) σ.t 0 λj x v hx hv=>by
   have⟨u,B,K⟩:=b.tm j x (by simpa using hx)
   rw[hv]at B;cases B;exact K
  rw[<-b.lv]at a1 c1
  have h8:σ.H.L[i]? = some (some (.map ((es.map λp=>((.str p.1:PV),yeh t p.2)).map λp=>(p.1.v,p.2.v)))):=by
   rw[Q,List.map_map,h9,List.map_map]
   congr 3
   exact List.map_congr_left λp G=>by show _=(V.str p.1,(yeh t p.2.1).v);rw[z0bn D q2,DR.flat q2 (q4 p G)]
  have⟨d1,d2,d3⟩:=z04y h8 h2 a2 a1 (λp G=>⟨(X p G).1,λe=>by
   have⟨_,g,o,sl',b2,Y,N,M,C,I⟩:=X p G
   exact Y (b.inj g s o _ sl' sl p.1 N U M trivial C J (.inl I) (.inl (by rw[e];exact q1)))⟩) c1
  rw[b.lv]at d1;refine⟨_,d1,?_⟩
  have h1:∀g o sl' n,g≠s->fnd ts.o g=some o->o.live->ρ[g]? = some sl'->n∈sl'.fp->_:=λg o' sl' n W y A r hi=>by
   have⟨f1,f2⟩:=b.fpl g o' sl' n y A r hi;refine d3 n (b.lt y A r (.inr hi)) (λe =>?_) λp G e =>?_
   subst e;exact W (b.inj g s o' _ sl' sl n y U A trivial r J (.inr hi) (.inl q1));have⟨_,s2,o2,Z,b2,Y,N,M,C,I⟩:=X p G;have:=b.inj s2 g o2 o' Z sl' n N y M A C r (.inl (by rw[I,e])) (.inr hi);subst this
   rw[r]at C;cases C
   exact f1 (by rw[I,e])
  refine yhi b (λq h=>by cases h) J O a4 c1 c2 d2 (zmk _ _ _) (λn hn =>?_) h1;refine d3 n (b.out n hn).1 (λe =>?_) λp G e =>?_
  subst e;exact b.mine s _ sl n U trivial J (.inl q1) hn;have⟨_,g,o,sl',b2,Y,N,M,C,I⟩:=X p G;exact b.mine g o sl' n N M C (.inl (by rw[I,e])) hn
 cases h
end
section
variable {P:Program}{D:Dat}{F:Fr}{ρ:List Slot}{ts:TS D.T}{σ:St}{lv:Nat}
def zpk{α}:∀(a b:List (Nat×α)) (j),fnd (a++b) j=match fnd a j with|some x=>some x|none=>fnd b j
 |[],b,j=>rfl
 |(i,x)::a,b,j=>by
  rw[Qby,yzc,yzc];split;rfl;exact zpk a b j
def yjs{T}:∀(b) (n s) (o:TO T),fnd (yra b n) s=some o->∃a,s=n+a∧b[a]? = some o
 |[],n,s,o,h=>by cases h
 |t::r,n,s,o,h=>by
  simp[yra,yzc]at h;split at h
  rename_i e;injection h with h;simp_all
  have⟨a,g,d⟩:=yjs r (n+1) s o h;exact⟨a+1,by omega,by simpa using d⟩
def ydf{T}:∀(l) (s) (o:TO T),fnd (y8t l) s=some o->o = .gone∧s∈l
 |[],s,o,h=>by cases h
 |t::r,s,o,h=>by
  simp[y8t,yzc]at h;split at h
  rename_i e;injection h with h;grind
  have⟨b,a⟩:=ydf r s o h
  grind
def y8n{T}:∀(l) (s),fnd (y8t (T:=T) l) s=none->s∉l
 |[],s,h=>by simp
 |t::r,s,h=>by
  simp[y8t,yzc]at h;split at h;cases h;rename_i e;intro hm
  rcases Qbf.1 hm with rfl|hm
  exact e rfl;exact y8n r s h hm
def TRr.zxe(w:TRr D F ρ ts σ)(m:List Nat)(hold:∀s∈m,∃o sl,fnd ts.o s=some o∧o.live∧ρ[s]? = some sl)(news:List (TO D.T×Slot))(H':Heap)(h8:H'.lv=F.lv)(hE:H'.E=F.E)(hlen:σ.H.L.length<=H'.L.length)
  (hL:∀i,i<σ.H.L.length->(∀s∈m,∀sl,ρ[s]? = some sl->¬sl.has i)->H'.L[i]? = σ.H.L[i]?)
  (O:∀p∈news,∀i,p.2.has i->σ.H.L.length<=i∨∃s∈m,∃sl,ρ[s]? = some sl∧sl.has i)
  (h6:∀(a b:Nat) (p K:TO D.T×Slot) (i:Nat),news[a]? = some p->news[b]? = some K->p.2.has i->K.2.has i->a=b)
  (h7:∀p∈news,OR D (ρ++news.map (·.2)) F.lv H'.L p.2 p.1)
  (h9:∀p∈news,∀i∈p.2.fp,p.2.k≠some i∧∃a,H'.L[i]? = some (some a)) :
  TRr D F (ρ++news.map (·.2)) (ts.zxe m (news.map (·.1))) {σ with H:=H'}:=by
 have kinds:∀s o,fnd (ts.zxe m (news.map (·.1))).o s=some o->(∃a p,s=ts.nx+a∧news[a]? = some p∧p.1=o)∨(o = .gone∧s∈m)∨(s∉m∧fnd ts.o s=some o):=λs o h=>by
  simp only[TS.zxe]at h;rw[zpk]at h;split at h;rename_i o' U;cases h;have⟨a,n,r⟩:=yjs _ _ _ _ U;rw[Qan,Qaf]at r;have⟨p,h3,h4⟩:=r;exact .inl ⟨a,p,n,h3,h4⟩;rw[zpk]at h;split at h;rename_i o' U;cases h;exact .inr (.inl (ydf _ _ _ U));rename_i hn;exact .inr (.inr ⟨y8n _ _ hn,h⟩)
 have l:∀(a:Nat) (p:TO D.T×Slot),news[a]? = some p->(ρ++news.map (·.2))[ts.nx+a]? = some p.2:=λa p h=>by
  rw[<-w.nx,Qav (by omega),show ρ.length+a-ρ.length=a by omega,Qan,h];rfl
 have e:∀s o sl,fnd ts.o s=some o->(ρ++news.map (·.2))[s]? = some sl->ρ[s]? = some sl:=λs o sl I h=>by
  have⟨q,n,r⟩:=w.ob s o I;rw[lookup_append n]at h;rw[n,h]
 have apart:∀s o sl i,fnd ts.o s=some o->o.live->s∉m->ρ[s]? = some sl->sl.has i->∀A∈m,∀y,ρ[A]? = some y->¬y.has i:=λs o sl i I Q X hs hk A M y n r=>by
  have⟨Z,h5,J,N,W⟩:=hold A M
  rw[n]at W;cases W
  have:=w.inj s A o Z sl y i I J Q N hs n hk r;subst this;exact X M
 have mem:∀{a:Nat}{p:TO D.T×Slot},news[a]? = some p->p∈news:=λh=>Qax h
 have z:∀(a:Nat) (p:TO D.T×Slot) s o sl i,news[a]? = some p->p.2.has i->fnd ts.o s=some o->o.live->s∉m->ρ[s]? = some sl->sl.has i->False:=λa p s o sl i hp hi I Q X hs hk=>by
  rcases O p (mem hp) i hi with h|⟨A,M,y,n,r⟩
  have:=w.lt I Q hs hk;omega;exact apart s o sl i I Q X hs hk A M y n r
 refine⟨by simp[TS.zxe,w.nx],w.nt,λj x hj =>?_,λs o I =>?_,λs s' o o' sl sl' i n r G l2 B Y C k2 =>?_,λs o sl i n G B C =>?_,h8,hE,w.e0,w.d.more _,λi hi =>?_,λj sl hj=>lookup_append (w.pin j sl hj),λs o sl i n G B C =>?_,λi s v n r=>(w.g i s v n r).more _⟩;have⟨v,n,r⟩:=w.tm j x hj;exact⟨v,n,r.more _⟩
 rcases kinds s o I with ⟨a,p,rfl,r,rfl⟩|⟨rfl,n⟩|⟨n,r⟩
 exact⟨p.2,l a p r,h7 p (mem r)⟩;have⟨Z,sl,J,N,W⟩:=hold s n;exact⟨sl,lookup_append W,by simp only[OR]⟩;have⟨q,J,N⟩:=w.ob s o r;exact⟨q,lookup_append J,N.mono _ λi hi Q=>hL i (w.lt r Q J hi) (apart s o q i r Q n J hi)⟩
 rcases kinds s o n with ⟨a,p,rfl,u,rfl⟩|⟨rfl,R⟩|⟨R,u⟩
 rw[l a p u]at B;cases B
 rcases kinds s' o' r with ⟨b,K,rfl,b2,rfl⟩|⟨rfl,b1⟩|⟨b1,b2⟩
 rw[l b K b2]at Y;cases Y
 rw[h6 a b p K i u b2 C k2];exact l2.elim;exact(z a p s' o' sl' i u C b2 l2 b1 (e _ _ _ b2 Y) k2).elim;exact G.elim
 rcases kinds s' o' r with ⟨b,K,rfl,b2,rfl⟩|⟨rfl,b1⟩|⟨b1,b2⟩
 rw[l b K b2]at Y;cases Y
 exact(z b K s o sl i b2 k2 u G R (e _ _ _ u B) C).elim;exact l2.elim;exact w.inj s s' o o' sl sl' i u b2 G l2 (e _ _ _ u B) (e _ _ _ b2 Y) C k2
 rcases kinds s o n with ⟨a,p,rfl,u,rfl⟩|⟨rfl,R⟩|⟨R,u⟩
 rw[l a p u]at B;cases B
 intro I
 rcases O p (mem u) i C with h|⟨A,M,y,h3,h4⟩
 have:=(w.out i I).1;omega;have⟨Z,h5,J,N,W⟩:=hold A M;exact w.mine A Z y i J N h3 h4 I;exact G.elim;exact w.mine s o sl i u G (e _ _ _ u B) C;have⟨n,r⟩:=w.out i hi;refine⟨Qbd n hlen,(hL i n λA M y h3 h4 =>?_).trans r⟩;have⟨Z,h5,J,N,W⟩:=hold A M;exact w.mine A Z y i J N h3 h4 hi
 rcases kinds s o n with ⟨a,p,rfl,u,rfl⟩|⟨rfl,R⟩|⟨R,u⟩
 rw[l a p u]at B;cases B
 exact h9 p (mem u) i C;exact G.elim;have q1:=e _ _ _ u B;have hq:=w.fpl s o sl i u G q1 C;refine⟨hq.1,?_⟩;show ∃a,H'.L[i]? = _;rw[hL i (w.lt u G q1 (.inr C)) (apart s o sl i u G R q1 (.inr C))];exact hq.2
end
end Go.Ab
