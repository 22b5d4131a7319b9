/-
  THE TYPED MACHINE: operations on own objects.
-/
import Derived.Test.YthlmhmebajjkbaaGreatDoorLib4
set_option linter.defProp false
set_option linter.unusedSectionVars false
set_option linter.unusedSimpArgs false
set_option linter.unusedVariables false
namespace Go.Ab
open Go
section
variable {P:Program}{D:Dat}{F:Fr}{ρ:List Slot}{ts:TS D.T}{σ:St}{lv:Nat}
def DO.mono{L L':List (Option yz5)}{m:OM}{t:DTy}{x:t.S D.T}{v:V}{o:List Nat}(h:DO D lv L m t x v o)(j:∀i∈o,L'[i]? = L[i]?):DO D lv L' m t x v o:=by
 induction h with
 |dat h=>exact .dat h
 |nil h q=>exact .nil h q
 |own s e y A d=>
  exact .own (by rw[j _ Qak];exact s) e y λn x w c l k a=>d n x w c l k a λi g=>j i (Qai _ (List.mem_flatten.2 ⟨c,Qax a,g⟩))
 |el e z h d=>exact .el e z λf p u b l k a=>d f p u b l k a λi g=>j i (List.mem_flatten.2 ⟨b,Qax a,g⟩)
 |elf r h=>exact .elf r h
def EO.mono{L L':List (Option yz5)}{q:Nat}{h:Option (Int×Nat×Nat)}{n:Nat}{x:D.T q}{w:V}{c:List Nat}(e:List Slot)(l:EO D ρ lv L q h n x w c)(k:∀i∈c,L'[i]? = L[i]?):EO D (ρ++e) lv L' q h n x w c:=by
 obtain⟨vs,cs,y,r,o,rfl,m⟩:=l;refine⟨vs,cs,y,r,o,rfl,λf p u b g d a =>?_⟩;have:=m f p u b g d a;split at this
 ·rename_i s G;have⟨C,B,E,sl',A,z⟩:=this;exact⟨C,B,E,sl',lookup_append A,z⟩
 ·exact this.mono λi j=>k i (List.mem_flatten.2 ⟨b,Qax a,j⟩)
def OR.mono{L L':List (Option yz5)}{sl:Slot}{o:TO D.T}(h:OR D ρ lv L sl o)(e:List Slot)(m:∀i,sl.has i->o.live->L'[i]? = L[i]?):OR D (ρ++e) lv L' sl o:=by
 cases o with
 |cells cs=>
  simp only[OR]at h ⊢;have⟨i,vs,d,l,g⟩:=h
  exact⟨i,vs,d,by rw[m i (.inl d) trivial];exact l,g.more e⟩
 |acc ty t xs w=>
  simp only[OR]at h ⊢;have⟨d,l,g⟩:=h;refine⟨d,l,?_⟩
  cases p:sl.k with
  |none=>rw[p]at g;exact g
  |some i=>
   rw[p]at g;have⟨r,A,z,y⟩:=g
   exact⟨r,A,z,by rw[m i (.inl p) trivial];exact y⟩
 |siter s R=>
  simp only[OR]at h ⊢;have⟨i,d,l⟩:=h
  exact⟨i,d,by rw[m i (.inl d) trivial];exact l⟩
 |mp ty t es=>
  simp only[OR]at h ⊢;have⟨i,ms,d,l,u,g⟩:=h
  exact⟨i,ms,d,l,u,by rw[m i (.inl d) trivial];exact g⟩
 |mit t last es=>
  simp only[OR]at h ⊢;have⟨i,N,B,d,l,g,u⟩:=h
  exact⟨i,N,B,d,l,by rw[m i (.inl d) trivial];exact g,u⟩
 |bld ty b=>
  simp only[OR]at h ⊢;have⟨i,a,c,d,l,g,u⟩:=h
  exact⟨i,a,c,d,by rw[m i (.inl d) trivial];exact l,g,VR.more e u⟩
 |gone=>simp only[OR]
 |deep ty q xs U=>
  simp only[OR]at h ⊢;have⟨d,g⟩:=h;refine⟨d,?_⟩
  cases p:sl.k with
  |none=>rw[p]at g;exact g
  |some i=>
   rw[p]at g;have⟨r,A,fps,z,y,K,C,J,I,G⟩:=g;refine⟨r,A,fps,z,by rw[m i (.inl p) trivial];exact y,K,C,J,λn x w c Q O E=>(I n x w c Q O E).mono e λj M=>m j (.inr ?_) trivial,G⟩;rw[C];exact List.mem_flatten.2 ⟨c,Qax E,M⟩
def OR.at{L:List (Option yz5)}{sl:Slot}{o:TO D.T}{i:Nat}(h:OR D ρ lv L sl o)(r:o.live)(g:sl.k=some i):∃a,L[i]? = some (some a):=by
 cases o with
 |cells cs=>
  simp only[OR]at h;have⟨l,vs,d,e,j⟩:=h
  rw[g]at d;cases d
  exact⟨_,e⟩
 |acc ty t xs w=>
  simp only[OR]at h;have⟨d,e,j⟩:=h;rw[g]at j;have⟨n,u,p,m⟩:=j
  exact⟨_,m⟩
 |siter s y=>
  simp only[OR]at h;have⟨l,d,e⟩:=h
  rw[g]at d;cases d
  exact⟨_,e⟩
 |mp ty t es=>
  simp only[OR]at h;have⟨l,ms,d,_,_,e⟩:=h
  rw[g]at d;cases d
  exact⟨_,e⟩
 |mit t last es=>
  simp only[OR]at h;have⟨l,B,x,d,_,e,_⟩:=h
  rw[g]at d;cases d
  exact⟨_,e⟩
 |bld ty b=>
  simp only[OR]at h;have⟨l,a,c,d,e,j⟩:=h
  rw[g]at d;cases d
  exact⟨_,e⟩
 |gone=>exact r.elim
 |deep ty q xs A=>
  simp only[OR]at h;have⟨d,j⟩:=h;rw[g]at j;have⟨n,u,fps,p,m,z⟩:=j;exact⟨_,m⟩
def OR.lt{L:List (Option yz5)}{sl:Slot}{o:TO D.T}{i:Nat}(h:OR D ρ lv L sl o)(b:o.live)(d:sl.k=some i):i<L.length:=by
 have⟨a,e⟩:=h.at b d;exact(Qaa.1 e).1
def TRr.at(g:TRr D F ρ ts σ){s i:Nat}{o:TO D.T}{sl:Slot}(d:fnd ts.o s=some o)(e:o.live)(b:ρ[s]? = some sl)(hk:sl.has i):∃a,σ.H.L[i]? = some (some a):=by
 rcases hk with hk|hk
 ·have⟨q,h,j⟩:=g.ob s o d
  rw[b]at h;cases h
  exact j.at e hk
 ·exact(g.fpl s o sl i d e b hk).2
def TRr.lt(j:TRr D F ρ ts σ){s i:Nat}{o:TO D.T}{sl:Slot}(d:fnd ts.o s=some o)(e:o.live)(b:ρ[s]? = some sl)(g:sl.has i):i<σ.H.L.length:=by
 have⟨a,h⟩:=j.at d e b g;exact(Qaa.1 h).1
def Slot.yar{sl:Slot}(h:sl.fp=[]){i:Nat}(hk:sl.has i):sl.k=some i:=by
 rcases hk with hk|hk
 ·exact hk
 ·rw[h]at hk;cases hk
def TRr.new(m:TRr D F ρ ts σ)(to:TO D.T)(sl:Slot)(H':Heap)(h4:H'.lv=F.lv)(hE:H'.E=F.E)(hlen:σ.H.L.length<=H'.L.length)(W:∀i,i<σ.H.L.length->H'.L[i]? = σ.H.L[i]?)
  (Y:∀i,sl.k=some i->σ.H.L.length<=i) (h3:OR D (ρ++[sl]) F.lv H'.L sl to) (G:sl.fp=[]:=by rfl):TRr D F (ρ++[sl]) (ts.new D to) {σ with H:=H'}:=by
 have p:(ρ++[sl])[ts.nx]? = some sl:=by rw[<-m.nx];simp
 have Q:∀s o sl',fnd ts.o s=some o->ρ[s]? = some sl'->∀i,sl'.has i->o.live->i<σ.H.L.length:=λs o sl' A u i O X=>m.lt A X u O
 have n:∀s o,ts.nx≠s->fnd (ts.new D to).o s=some o->fnd ts.o s=some o:=λs o K h=>by
  simp only[TS.new,yzc,Qby K]at h;exact h
 have b:∀s o sl',fnd ts.o s=some o->(ρ++[sl])[s]? = some sl'->ρ[s]? = some sl':=λs o sl' A h=>by
  have⟨q,l,y⟩:=m.ob s o A;rw[lookup_append l]at h;rw[l,h]
 refine⟨by simp[TS.new,m.nx],m.nt,λj x Z =>?_,λs o A =>?_,λs J o o' e B i l y M l2 w R z U =>?_,λs o e i l M w z =>?_,h4,hE,m.e0,m.d.more _,λi O =>?_,λj sl Z=>lookup_append (m.pin j sl Z),λs o e i l M w z =>?_,λi s v l y=>(m.g i s v l y).more _⟩
 ·have⟨v,l,y⟩:=m.tm j x Z;exact⟨v,l,y.more _⟩
 ·by_cases u:ts.nx=s
  ·subst u;simp only[TS.new,yzc,if_true,Qbu]at A;subst A;exact⟨sl,p,h3⟩
  ·have⟨q,l,y⟩:=m.ob s o (n s o u A);exact⟨q,lookup_append l,y.mono _ λi O X=>W i (m.lt (n s o u A) X l O)⟩
 ·by_cases u:ts.nx=s <;> by_cases C:ts.nx=J
  ·rw[<-u,<-C]
  ·subst u
   rw[p]at w;cases w
   have N:=n J o' C y;have:=Q J o' B N (b J o' B N R) i U l2;have:=Y i (Slot.yar G z);omega
  ·subst C
   rw[p]at R;cases R
   have N:=n s o u l;have:=Q s o e N (b s o e N w) i z M;have:=Y i (Slot.yar G U);omega
  ·have I:=n s o u l;have q2:=n J o' C y;exact m.inj s J o o' e B i I q2 M l2 (b s o e I w) (b J o' B q2 R) z U
 ·by_cases u:ts.nx=s
  ·subst u
   rw[p]at w;cases w
   intro A;have:=(m.out i A).1;have:=Y i (Slot.yar G z);omega
  ·have I:=n s o u l;exact m.mine s o e i I M (b s o e I w) z
 ·have⟨l,y⟩:=m.out i O;exact⟨Qbj l hlen,(W i l).trans y⟩
 ·by_cases u:ts.nx=s
  ·subst u
   rw[p]at w;cases w
   rw[G]at z;cases z
  ·have I:=n s o u l;have r:=b s o e I w;have⟨K,a,ha⟩:=m.fpl s o e i I M r z;exact⟨K,a,by rw[W i (Qaa.1 ha).1];exact ha⟩
def ytc{L:List (Option yz5)}{i j:Nat}(h:∃a,L[j]? = some (some a))(d:yz5):∃a,(L.set i (some d))[j]? = some (some a):=by
 have⟨a,b⟩:=h;by_cases e:i=j
 ·subst e;exact⟨d,Qaq (Qaa.1 b).1⟩
 ·exact⟨a,by rw[Qam e];exact b⟩
def TRr.upd(b:TRr D F ρ ts σ){s i:Nat}{C:TO D.T}{sl:Slot}(R:fnd ts.o s=some C)(Y:C.live)(U:ρ[s]? = some sl)(hk:sl.k=some i)(to:TO D.T)(M:yz5)
  (h4:OR D ρ F.lv (σ.H.L.set i (some M)) sl to):TRr D F ρ (ts.set D s to) {σ with H:={σ.H with L:=σ.H.L.set i (some M)}}:=by
 have N:∀m o,s≠m->fnd (ts.set D s to).o m=some o->fnd ts.o m=some o:=λm o u h=>by
  simp only[TS.set,yzc,Qby u]at h;exact h
 have a:∀m o,fnd (ts.set D s to).o m=some o->o.live->∃o',fnd ts.o m=some o'∧o'.live:=λm o h l=>by
  by_cases y:s=m
  ·subst y;exact⟨C,R,Y⟩
  ·exact⟨o,N m o y h,l⟩
 refine⟨b.nx,b.nt,b.tm,λm o X =>?_,λx s2 B o2 n Z i' w K G l2 z r2 I k2 =>?_,λx B n Q w G z I =>?_,b.lv,b.E,b.e0,b.d,λj O =>?_,b.pin,λx B n Q w G z I =>?_,b.g⟩
 ·by_cases y:s=m
  ·subst y;simp only[TS.set,yzc,if_true,Qbu]at X;subst X;exact⟨sl,U,h4⟩
  ·have J:=N m o y X;have⟨q,w,K⟩:=b.ob m o J;refine⟨q,w,?_⟩;have:=K.mono (L':=σ.H.L.set i (some M)) [] λj O h5 =>?_
   ·simpa using this
   ·have u:i≠j:=λe=>by
     subst e;exact y (b.inj s m C o sl q i R J Y h5 U w (.inl hk) O)
    rw[Qam u]
 ·have⟨p,A,r⟩:=a x B w G;have⟨W,q2,h3⟩:=a s2 o2 K l2;exact b.inj x s2 p W n Z i' A q2 r h3 z r2 I k2
 ·have⟨p,A,r⟩:=a x B w G;exact b.mine x p n Q A r z I
 ·have⟨w,K⟩:=b.out j O;refine⟨by simpa using w,?_⟩;have u:i≠j:=λe=>by subst e;exact b.mine s C sl i R Y U (.inl hk) O
  show(σ.H.L.set i (some M))[j]? = _;rw[Qam u];exact K
 ·have⟨p,A,r⟩:=a x B w G;have J:=b.fpl x p n Q A r z I;exact⟨J.1,ytc J.2 M⟩
def TRr.move(b:TRr D F ρ ts σ){s i:Nat}{M:TO D.T}{sl:Slot}(Y:fnd ts.o s=some M)(Z:M.live)(N:ρ[s]? = some sl)(hk:sl.k=some i)(to:TO D.T)(ao:yz5)(sl':Slot)(h4:sl'.k=some i)
  (h6:OR D (ρ++[sl']) F.lv (σ.H.L.set i (some ao)) sl' to) (h5:∀x,x∈sl'.fp->x∈sl.fp:=by exact λ_ h=>by cases h):TRr D F (ρ++[sl']) ((ts.new D to).set D s .gone) {σ with H:={σ.H with L:=σ.H.L.set i (some ao)}}:=by
 have z:∀x,sl'.has x->sl.has x:=λx h=>h.elim (λh=>.inl (by rw[<-h,h4,hk])) λh=>.inr (h5 x h)
 have m:(ρ++[sl'])[ts.nx]? = some sl':=by rw[<-b.nx];simp
 have h8:s≠ts.nx:=λe=>by
  have:=(Qaa.1 N).1;rw[b.nx,e]at this;omega
 have r:∀p o,o.live->fnd ((ts.new D to).set D s .gone).o p=some o->s≠p∧((ts.nx=p∧o=to)∨(ts.nx≠p∧fnd ts.o p=some o)):=λp o y h=>by
  by_cases U:s=p
  ·subst U;simp only[TS.set,yzc,if_true,Qbu]at h;subst h;exact y.elim
  ·simp only[TS.set,TS.new,yzc,Qby U]at h;by_cases B:ts.nx=p
   ·rw[Qbx B]at h;injection h with h;exact⟨U,.inl ⟨B,h.symm⟩⟩
   ·rw[Qby B]at h;exact⟨U,.inr ⟨B,h⟩⟩
 have a:∀s o l,fnd ts.o s=some o->(ρ++[sl'])[s]? = some l->ρ[s]? = some l:=λs o l R h=>by
  have⟨q,n,w⟩:=b.ob s o R;rw[lookup_append n]at h;rw[n,h]
 refine⟨by simp[TS.new,TS.set,b.nx],b.nt,λj x Q =>?_,λp o R =>?_,λC s2 G o2 l h3 i' n w I l2 u r2 J k2 =>?_,λC G l W n I u J =>?_,b.lv,b.E,b.e0,b.d.more _,λj Q =>?_,λj sl Q=>lookup_append (b.pin j sl Q),λC G l W n I u J =>?_,λi s v n w=>(b.g i s v n w).more _⟩
 ·have⟨v,n,w⟩:=b.tm j x Q;exact⟨v,n,w.more _⟩
 ·by_cases y:o.live
  ·rcases(r p o y R).2 with ⟨B,rfl⟩|⟨B,O⟩
   ·subst B;exact⟨sl',m,h6⟩
   ·have⟨q,n,w⟩:=b.ob p o O;refine⟨q,lookup_append n,w.mono [sl'] λj Q h7 =>?_⟩
    have X:i≠j:=λe=>by
     subst e;exact(r p o y R).1 (b.inj s p M o sl q i Y O Z h7 N n (.inl hk) Q)
    rw[Qam X]
  ·have hg:o = .gone:=by cases o <;> first|rfl|exact(y trivial).elim
   subst hg;by_cases U:s=p
   ·subst U;exact⟨sl,lookup_append N,by simp only[OR]⟩
   ·simp only[TS.set,TS.new,yzc,Qby U]at R;by_cases B:ts.nx=p
    ·subst B;exact⟨sl',m,by simp only[OR]⟩
    ·rw[Qby B]at R;have⟨q,n,w⟩:=b.ob p _ R;exact⟨q,lookup_append n,by simp only[OR]⟩
 ·have⟨n1,c1⟩:=r C G I n;have⟨n2,c2⟩:=r s2 o2 l2 w
  rcases c1 with ⟨K,rfl⟩|⟨K,A⟩ <;> rcases c2 with ⟨e2,rfl⟩|⟨e2,q2⟩
  ·rw[<-K,<-e2]
  ·subst K
   rw[m]at u;cases u
   exact(n2 (b.inj s s2 M o2 sl h3 i' Y q2 Z l2 N (a _ _ _ q2 r2) (z _ J) k2)).elim
  ·subst e2
   rw[m]at r2;cases r2
   exact(n1 (b.inj s C M G sl l i' Y A Z I N (a _ _ _ A u) (z _ k2) J)).elim
  ·exact b.inj C s2 G o2 l h3 i' A q2 I l2 (a _ _ _ A u) (a _ _ _ q2 r2) J k2
 ·have⟨n1,c1⟩:=r C G I n
  rcases c1 with ⟨K,rfl⟩|⟨K,A⟩
  ·subst K
   rw[m]at u;cases u
   exact b.mine s M sl W Y Z N (z _ J)
  ·exact b.mine C G l W A I (a _ _ _ A u) J
 ·have⟨n,w⟩:=b.out j Q;refine⟨by simpa using n,?_⟩;have X:i≠j:=λe=>by subst e;exact b.mine s M sl i Y Z N (.inl hk) Q
  show(σ.H.L.set i (some ao))[j]? = _;rw[Qam X];exact w
 ·have⟨n1,c1⟩:=r C G I n
  rcases c1 with ⟨K,rfl⟩|⟨K,A⟩
  ·subst K
   rw[m]at u;cases u
   have O:=b.fpl s M sl W Y Z N (h5 _ J);exact⟨by rw[h4,<-hk];exact O.1,ytc O.2 ao⟩
  ·have O:=b.fpl C G l W A I (a _ _ _ A u) J;exact⟨O.1,ytc O.2 ao⟩
def TRr.drop(a:TRr D F ρ ts σ)(s:Nat)(y:s<ts.nx):TRr D F ρ (ts.set D s .gone) σ:=by
 have e:∀k o,o.live->fnd (ts.set D s .gone).o k=some o->fnd ts.o k=some o:=λk o z h=>by
  simp only[TS.set,yzc]at h;split at h
  ·cases h;exact z.elim
  ·exact h
 refine⟨a.nx,a.nt,a.tm,λk o n =>?_,λj u l w b q x m B i r=>a.inj j u l w b q x (e _ _ i m) (e _ _ r B) i r,λj l b p m i=>a.mine j l b p (e _ _ i m) i,a.lv,a.E,a.e0,a.d,a.out,a.pin,λj l b p m i=>a.fpl j l b p (e _ _ i m) i,a.g⟩;simp only[TS.set,yzc]at n;split at n
 ·rename_i A;cases n;subst A;have:s<ρ.length:=by rw[a.nx];exact y
  exact⟨ρ[s],Qab this,by simp only[OR]⟩
 ·exact a.ob k o n
mutual
def VR.ren{s w:Nat}{sl sl':Slot}(p:ρ[s]? = some sl)(o:ρ[w]? = some sl')(l:sl'.v=sl.v):∀{x:TV D.T}{v:V},VR D ρ lv x v->VR D ρ lv (TV.ren D s w x) v
 |.own j,v,h=>by
  simp only[TV.ren];split
  ·rename_i r;subst r;simp only[VR]at h ⊢;have⟨q,d,e,y⟩:=h
   rw[p]at d;cases d
   exact⟨sl',o,by rw[l];exact e,y⟩
  ·exact h
 |.dp j i g,v,h=>by
  simp only[TV.ren];split
  ·rename_i r;subst r;simp only[VR]at h ⊢;have⟨q,z,u,m,d,e⟩:=h
   rw[p]at d;cases d
   exact⟨sl',z,u,m,o,by rw[l];exact e⟩
  ·exact h
 |.bsl q cs,v,h=>by simp only[TV.ren,VR]at h ⊢;have⟨vs,d,e⟩:=h;exact⟨vs,d,VRL.ren p o l e⟩
 |.agg cs,v,h=>by simp only[TV.ren,VR]at h ⊢;have⟨vs,d,e⟩:=h;exact⟨vs,d,VRL.ren p o l e⟩
 |.tup cs,v,h=>by simp only[TV.ren,VR]at h ⊢;have⟨vs,d,e⟩:=h;exact⟨vs,d,VRL.ren p o l e⟩
 |.any,v,h=>by simpa only[TV.ren]using h
 |.bool b,v,h=>by simpa only[TV.ren]using h
 |.int k n,v,h=>by simpa only[TV.ren]using h
 |.str b,v,h=>by simpa only[TV.ren]using h
 |.nilp,v,h=>by simpa only[TV.ren]using h
 |.nils,v,h=>by simpa only[TV.ren]using h
 |.mapn,v,h=>by simpa only[TV.ren]using h
 |.nilf,v,h=>by simpa only[TV.ren]using h
 |.nili,v,h=>by simpa only[TV.ren]using h
 |.sl t xs B,v,h=>by simpa only[TV.ren]using h
 |.ptr j g,v,h=>by simpa only[TV.ren]using h
 |.bp j g,v,h=>by simpa only[TV.ren]using h
 |.osl j A,v,h=>by simpa only[TV.ren]using h
 |.map j,v,h=>by simpa only[TV.ren]using h
 |.mc t es,v,h=>by simpa only[TV.ren]using h
 |.ref cs g,v,h=>by simpa only[TV.ren]using h
 |.ap j t i x g,v,h=>by simpa only[TV.ren]using h
 |.fn f a b,v,h=>by simpa only[TV.ren]using h
 |.iface t x,v,h=>by simpa only[TV.ren]using h
def VRL.ren{s a:Nat}{sl sl':Slot}(e:ρ[s]? = some sl)(d:ρ[a]? = some sl')(b:sl'.v=sl.v):∀{cs:List (TV D.T)}{vs:List V},VRL D ρ lv cs vs->VRL D ρ lv (TV.zy6 D s a cs) vs
 |[],vs,h=>by simpa only[TV.zy6]using h
 |c::cs,vs,h=>by simp only[TV.zy6,VRL]at h ⊢;have⟨v,r,j,i,g⟩:=h;exact⟨v,r,j,VR.ren e d b i,VRL.ren e d b g⟩
end
def yvt{ρ ρ':List Slot}{g:List (Option Nat)}{f:TV D.T->TV D.T}{i s:Nat}{v:V}(k:∀a d,f (.own a) = .own d->∀u,VR D ρ lv (.own a) u->VR D ρ' lv (.own d) u)(j:∀a,g[i]? = some (some a)->VR D ρ lv (.own a) v)(h:(g.map (gmap D f))[i]? = some (some s)):VR D ρ' lv (.own s) v:=by
 rw[Qan,Qaf]at h;obtain⟨o,l,b⟩:=h
 cases o with
 |none=>cases b
 |some a=>
  simp only[gmap]at b;split at b
  ·rename_i d e;injection b with b;subst b;exact k a d e v (j a l)
  ·cases b
def TRr.zeb(z:TRr D F ρ ts σ)(f:TV D.T->TV D.T)(Q:∀x v,VR D ρ F.lv x v->VR D ρ F.lv (f x) v):TRr D F ρ (ts.zeb D f) σ:=by
 have l:∀o:TO D.T,(TO.map D f o).live->o.live:=λo h=>by cases o <;> first|exact h|trivial
 have I:∀s o,fnd (ts.zeb D f).o s=some o->∃o',fnd ts.o s=some o'∧o=TO.map D f o':=λs o h=>by
  simp only[TS.zeb]at h;rw[znf (TO.map D f),Qaf]at h;have⟨o',A,N⟩:=h;exact⟨o',A,N.symm⟩
 refine⟨z.nx,z.nt,λj x hj =>?_,λs o ho =>?_,λJ s2 Y o2 C O i A N Z l2 =>?_,λJ Y C i A Z =>?_,z.lv,z.E,z.e0,z.d.imp _ (λxs vs k=>VRL.of (by simp[k.length]) λj c v M hv=>by
  rw[Qan,Qaf]at M;obtain⟨c0,h9,rfl⟩:=M
  exact Q _ _ (k.y3q h9 hv)),z.out,z.pin,λJ Y C i A Z =>?_,λi s v A N=>yvt (λU s' e u hu=>by have:=Q _ _ hu;rwa[e]at this) (λU e=>z.g i U v e N) A⟩
 ·simp only[TS.zeb]at hj;rw[znf f,Qaf]at hj;obtain⟨y,hy,rfl⟩:=hj;have⟨v,A,N⟩:=z.tm j y hy;exact⟨v,A,Q _ _ N⟩
 ·obtain⟨o',A,rfl⟩:=I s o ho;have⟨sl,k1,r⟩:=z.ob s o' A;refine⟨sl,k1,?_⟩
  cases o' with
  |cells cs=>
   simp only[TO.map,OR]at r ⊢;have⟨i,vs,K,X,W⟩:=r;refine⟨i,vs,K,X,.of (by simp[W.length]) λj c v M hv =>?_⟩;rw[Qan,Qaf]at M;obtain⟨c',ha,rfl⟩:=M
   exact Q _ _ (W.y3q ha hv)
  |acc ty t xs w=>exact r
  |siter s hb=>exact r
  |mp ty t es=>exact r
  |mit t last es=>exact r
  |bld ty b=>
   cases b with
   |none=>exact r
   |some q=>
    simp only[OR]at r;have⟨i,a,c,K,X,W,q4⟩:=r;have R:VR D ρ F.lv (f (.own q)) c:=Q _ _ q4;simp only[TO.map];split
    ·rename_i s' h8;rw[h8]at R;simp only[OR];exact⟨i,a,c,K,X,W,R⟩
    ·simp only[OR]
  |gone=>exact r
  |deep ty q xs hh=>
   cases hh with
   |none=>exact r
   |some p=>
    have⟨n,c,U⟩:=p;simp only[TO.map];split
    ·rename_i J h7;simp only[OR]at r ⊢;refine⟨r.1,?_⟩;have k3:=r.2
     cases hk:sl.k with
     |none=>rw[hk]at k3;cases k3.2.2.2
     |some j=>
      rw[hk]at k3;have⟨h3,cp,fps,a1,a2,a3,a4,a5,a6,a7⟩:=k3;refine⟨h3,cp,fps,a1,a2,a3,a4,a5,λm x w b e1 e2 e3 =>?_,λn' f' s' e =>?_⟩
      ·have⟨vs,cs,b1,b2,b3,b4,b5⟩:=a6 m x w b e1 e2 e3;refine⟨vs,cs,b1,b2,b3,b4,λf p u d g1 g2 g3 =>?_⟩;have:=b5 f p u d g1 g2 g3;unfold z2a at this ⊢;simp only at this ⊢;split at this
       ·rename_i s2 B;split at B
        ·rename_i M;cases B;rw[Qbx M];have⟨d1,d2,H,O,d3,d4⟩:=this;have R:=Q (.own U) u (by simp only[VR];exact⟨O,d3,d4,H⟩);rw[h7]at R;simp only[VR]at R;have⟨h4,d5,d6,_⟩:=R;exact⟨d1,d2,H,h4,d5,d6⟩
        ·cases B
       ·rename_i B;split at B
        ·cases B
        ·rename_i M;rw[Qby M];exact this
      ·simp only[Qbu,Qbz]at e;obtain⟨rfl,rfl,rfl⟩:=e;exact a7 n c U rfl
    ·simp only[OR]
 ·obtain⟨G,K,rfl⟩:=I J Y A;obtain⟨h6,X,rfl⟩:=I s2 o2 N;exact z.inj J s2 G h6 C O i K X (l _ Z) (l _ l2)
 ·obtain⟨G,K,rfl⟩:=I J Y A;exact z.mine J G C i K (l _ Z)
 ·obtain⟨G,K,rfl⟩:=I J Y A;exact z.fpl J G C i K (l _ Z)
def TRr.put(a:TRr D F ρ ts σ){b:Option Nat}{x:TV D.T}{v:V}{e:TS D.T}(h:ts.put D b x=some e)(l:VR D ρ F.lv x v):TRr D F ρ e (σ.put b v):=by
 cases b with
 |none=>simp only[TS.put,Qbu]at h;subst h;exact a
 |some d=>
  simp only[TS.put]at h;split at h
  ·rename_i m;cases h;refine⟨a.nx,by simp[St.put,a.nt],λj y i =>?_,a.ob,a.inj,a.mine,a.lv,a.E,a.e0,a.d,a.out,a.pin,a.fpl,a.g⟩;rw[yzc]at i;simp only[St.put];split at i
   ·rename_i k;cases i;subst k;exact⟨v,by rw[Qaq (by rw[a.nt];exact m)],l⟩
   ·rename_i k;have⟨u,o,n⟩:=a.tm j y i;exact⟨u,by rw[Qam k];exact o,n⟩
  ·cases h
def TRr.tell(a:TRr D F ρ ts σ){d:Nat}{x:TV D.T}{v:V}(h:σ.t[d]? = some v)(e:VR D ρ F.lv x v):TRr D F ρ {ts with t:=(d,x)::ts.t} σ:=by
 refine⟨a.nx,a.nt,λj y b =>?_,a.ob,a.inj,a.mine,a.lv,a.E,a.e0,a.d,a.out,a.pin,a.fpl,a.g⟩;rw[yzc]at b;split at b
 ·rename_i i;cases b;subst i;exact⟨v,h,e⟩
 ·exact a.tm j y b
end
section
variable {P:Program}{D:Dat}
def y53:∀{l:List DTy}{cs:List (TV D.T)}{z:HL D.T l},zbn D l cs = .ok z->∀(j:Nat) (p:(t:DTy)×t.S D.T),HL.nth l z j=some p->∃c,cs[j]? = some c∧zl2 D p.1 c = .ok p.2
 |[],cs,z,h,j,p,a=>by simp[HL.nth]at a
 |t::l,[],z,h,j,p,a=>by simp[zbn]at h
 |t::l,c::cs,z,h,j,p,a=>by
  simp only[zbn]at h;split at h
  ·rename_i y d;split at h
   ·rename_i k b;cases h
    cases j with
    |zero=>simp only[HL.nth,Qbu]at a;subst a;exact⟨c,rfl,d⟩
    |succ j=>
     have⟨i,g,e⟩:=y53 b j p a;exact⟨i,by simpa using g,e⟩
   ·cases h
   ·cases h
  ·cases h
  ·cases h
def ypr{t:DTy}{x y:t.S D.T}(h:zl2 D t (D.leaf t x) = .ok y):y=x:=by
 cases t with
 |bool=>simp only[Dat.leaf,zl2]at h;injection h with h;exact h.symm
 |int k=>simp only[Dat.leaf,zl2,if_true]at h;injection h with h;exact h.symm
 |str=>simp only[Dat.leaf,zl2]at h;injection h with h;exact h.symm
 |nat=>simp[Dat.leaf,zl2]at h
 |st i=>simp[Dat.leaf,zl2]at h
 |sl t=>
  simp only[Dat.leaf,zl2,zf5,dite_true,FR.of]at h;injection h with h;exact h.symm
end
def zdh:∀(l:List (List Nat)) (n:Nat) (c a b:List Nat),l[n]? = some c->c.Perm (a++b)->l.flatten.Perm (a++(l.set n b).flatten)
 |[],n,c,a,b,h,_=>by simp at h
 |x::l,0,c,a,b,h,d=>by
  simp at h;subst h;simp only[List.set_cons_zero,List.flatten_cons,<-Qaz]
  exact d.append_right _
 |x::l,n+1,c,a,b,h,d=>by
  simp only[List.set_cons_succ,List.flatten_cons];refine((zdh l n c a b (by simpa using h) d).append_left x).trans ?_;rw[<-Qaz,<-Qaz];exact List.perm_append_comm.append_right _
section
variable {P:Program}{D:Dat}{F:Fr}{ρ:List Slot}{ts:TS D.T}{σ:St}{lv:Nat}{L:List (Option yz5)}
def zrx(D:Dat)(ρ:List Slot)(lv:Nat)(L:List (Option yz5))(q f:Nat)(hole:Option (Nat×Nat))(p:(t:DTy)×t.S D.T)(u:V):Prop :=
 match (match hole with|some (a,c)=>(if a=f then some c else none)|none=>none)with
 |some c=>(D.ow q f).isSome=true∧u.leaf=true∧∃sl,ρ[c]? = some sl∧u=sl.v
 |none=>DO D lv L (yxb (D.ow q f)) p.1 p.2 u []
def zp8{q:Nat}:∀{l:List DTy}{cs:List (TV D.T)}{vs:List V}{f0:Nat}{r:HL D.T l×Option (Nat×Nat)},yfw D q l cs f0 = .ok r->VRL D ρ lv cs vs ->
  cs.length=l.length∧(∀g c,r.2=some (g,c)->f0<=g∧g<f0+l.length)∧∀(f:Nat) (p:(t:DTy)×t.S D.T) (u:V),HL.nth l r.1 f=some p->vs[f]? = some u->zrx D ρ lv L q (f0+f) r.2 p u
 |[],[],vs,f0,r,h,o=>by
  cases h
  exact⟨rfl,λg c e=>(by cases e),λf p u b=>(by simp[HL.nth]at b)⟩
 |[],c::cs,vs,f0,r,h,o=>by cases h
 |t::l,[],vs,f0,r,h,o=>by cases h
 |t::l,c::cs,vs,f0,r,h,o=>by
  simp only[VRL]at o;obtain⟨v,M,rfl,i,w⟩:=o;unfold yfw at h;split at h
  ·rename_i j;split at h
   ·rename_i x J;split at h
    ·rename_i n k;cases h;have⟨A,s,z⟩:=zp8 k w;refine⟨by simp[A],λg y e=>by have:=s g y e;simp only[List.length_cons];omega,λf p u b d =>?_⟩
     cases f with
     |zero=>
      simp only[HL.nth,Qbu]at b;simp only[Qcd,Qbu]at d;subst b;subst d;unfold zrx
      have m:(match n.2 with|some (C,c)=>(if C=f0+0 then some c else none)|none=>none)=none:=by
       cases B:n.2 with
       |none=>rfl
       |some g=>have:=s g.1 g.2 B;simp only;rw[Qby (by omega)]
      simp only[m];rw[Nat.add_zero,j]
      exact .dat (znc J i)
     |succ f=>
      have:=z f p u (by simpa[HL.nth]using b) (by simpa using d);rw[show f0+(f+1)=f0+1+f by omega];exact this
    ·cases h
    ·cases h
   ·cases h
   ·cases h
  ·rename_i ty j;split at h
   ·rename_i n k;have⟨A,s,z⟩:=zp8 k w
    have m:(match n.2 with|some (C,c)=>(if C=f0+0 then some c else none)|none=>none)=none:=by
     cases B:n.2 with
     |none=>rfl
     |some g=>have:=s g.1 g.2 B;simp only;rw[Qby (by omega)]
    split at h
    ·rename_i x a;cases h;refine⟨by simp[A],λg y e=>by have:=s g y e;simp only[List.length_cons];omega,λf p u b d =>?_⟩
     cases f with
     |zero=>
      simp only[HL.nth,Qbu]at b;simp only[Qcd,Qbu]at d;subst b;subst d;unfold zrx;simp only[m];rw[Nat.add_zero,j];unfold z029 at a;split at a
      ·injection a with a;cases a;simp only[VR]at i;subst i;exact .nil (.nil _) (.inl rfl)
      ·injection a with a;injection a with _ a;cases a
      ·cases a
     |succ f=>
      have:=z f p u (by simpa[HL.nth]using b) (by simpa using d);rw[show f0+(f+1)=f0+1+f by omega];exact this
    ·rename_i x y a;split at h
     ·rename_i E;cases h;refine⟨by simp[A],λg N e=>(by injection e with e;injection e with I G;simp only[List.length_cons];omega),λf p u b d =>?_⟩
      cases f with
      |zero=>
       simp only[HL.nth,Qbu]at b;simp only[Qcd,Qbu]at d;subst b;subst d;unfold zrx;simp only[Nat.add_zero,if_true];unfold z029 at a;split at a
       ·injection a with a;injection a with _ a;cases a
       ·injection a with a;injection a with _ a;cases a;simp only[VR]at i;have⟨sl,I,G,K⟩:=i;exact⟨by rw[j];rfl,K,sl,I,G⟩
       ·cases a
      |succ f=>
       have:=z f p u (by simpa[HL.nth]using b) (by simpa using d);rw[show f0+(f+1)=f0+1+f by omega];unfold zrx at this ⊢;rw[E]at this;simp only at this ⊢;rw[Qby (by omega)];exact this
     ·cases h
    ·cases h
   ·cases h
   ·cases h
def z024{q n:Nat}{x:HL D.T (D.fl q)}{hole:Option (Nat×Nat)}{i:Int}{d:List V}(hD:D.Ok P)(r:i.toNat=n)(k:d.length=(D.fl q).length)(h:∀(f:Nat) (p:(t:DTy)×t.S D.T) (u:V),HL.nth (D.fl q) x f=some p->d[f]? = some u->zrx D ρ lv L q f hole p u) :
  EO D ρ lv L q (hole.map λp=>(i,p.1,p.2)) n (D.make q x) (.agg d) []:=by
 have m:([]:List Nat)=(List.replicate (D.fl q).length ([]:List Nat)).flatten:=by
  symm;rw[List.flatten_eq_nil_iff];intro l k;exact(List.mem_replicate.1 k).2
 refine⟨d,List.replicate (D.fl q).length [],rfl,k,by simp,m,λf p u b o w a =>?_⟩;rw[hD.getMake]at o
 have s:b=[]:=by
  rw[Qbo]at a;split at a
  ·injection a with a;exact a.symm
  ·cases a
 subst s;have:=h f p u o w;unfold zrx at this
 cases hole with
 |none=>exact this
 |some g=>
  have⟨y,c⟩:=g;simp only[Qbr,z2a]at this ⊢;by_cases j:y=f
  ·rw[Qbx ⟨r,j⟩];rw[Qbx j]at this;exact⟨trivial,this⟩
  ·rw[Qby (λe=>j e.2)];rw[Qby j]at this;exact this
def EO.ydf{q n:Nat}{x:D.T q}{w:V}{c:List Nat}(h:EO D ρ lv L q none n x w c)(a:Option (Int×Nat×Nat))(l:∀d k j,a=some (d,k,j)->d.toNat≠n):EO D ρ lv L q a n x w c:=by
 have⟨vs,cs,B,A,z,y,s⟩:=h;refine⟨vs,cs,B,A,z,y,λf p u b r o m =>?_⟩;have:=s f p u b r o m
 have i:z2a a n f=none:=by
  cases a with
  |none=>rfl
  |some g=>have⟨d,k,j⟩:=g;simp only[z2a];rw[Qby (λe=>l _ _ _ rfl e.1)]
 rw[i];exact this
end
section
variable {P:Program}{D:Dat}{F:Fr}{ρ:List Slot}{ts:TS D.T}{σ:St}{lv:Nat}
def ypw{H:Heap}{f:Operand->V}{op:Op}{v:V}(h:pv P H f op=some v):ox P H f op=some (v,H):=by
 cases op
 case call c=>
  simp only[pv]at h;unfold ox;simp only;split
  ·rename_i a;simp[zcx,a]at h
  ·rename_i a;simp[zcx,a]at h
  ·rw[h];rfl
 all_goals first
  |(unfold ox;simp only[h,Qbr];done)
  |(simp[pv]at h;done)
def zto(H:Heap)(a:H.lv=F.lv)(b:H.E=F.E):H=⟨F.lv,H.L,F.E⟩:=by cases H;simp only at a b;subst a;subst b;rfl
def TRr.y7p(a:TRr D F ρ ts σ)(i:Nat)(o:yz5):σ.H.set F.lv i o={σ.H with L:=σ.H.L.set i (some o)}:=by
 unfold Heap.set;rw[Qbx a.lv.symm]
variable (hD:D.Ok P)
include hD
theorem TRr.ycd(a:TRr D F ρ ts σ){cs:List (TV D.T)}{vs:List V}(h:VRL D ρ F.lv cs vs) :
  TRr D F (ρ++[⟨.any,some σ.H.L.length,[],[]⟩]) (ts.new D (.cells cs)) {σ with H:=σ.H.push (.cells vs)}∧VR D (ρ++[⟨.any,some σ.H.L.length,[],[]⟩]) F.lv (.ptr ts.nx 0) (.ptr σ.H.lv σ.H.L.length 0):=by
 refine⟨a.new _ _ _ a.lv a.E (by simp[Heap.push]) (λi b=>by simp only[Heap.push];rw[Qal b]) (λi b=>by injection b with b;omega) ?_,?_⟩
 ·simp only[OR];exact⟨σ.H.L.length,vs,rfl,by simp[Heap.push],h.more _⟩
 ·simp only[VR];exact⟨⟨.any,some σ.H.L.length,[],[]⟩,σ.H.L.length,by rw[<-a.nx];simp,rfl,by rw[a.lv]⟩
omit hD in
theorem DR.one{t:DTy}{x:t.S D.T}{v:V}(h:DR D t x v)(a:∀i,t ≠ .st i)(b:t ≠ .nat):v.cells=[v]∧v.leaf=true∧(∀c,zb6 v [c]=c)∧∀c:V,c.leaf=true->fits v [c]=true:=by
 cases h with
 |st=>exact(a _ rfl).elim
 |enc=>exact(a _ rfl).elim
 |nat=>exact(b rfl).elim
 |_=>exact⟨rfl,rfl,λ_=>rfl,λc d=>d⟩
theorem DR.zb6{t:DTy}{y z:t.S D.T}{w b:V}{x:TV D.T}{a:Nat}(o:DR D t y w)(q:VR D ρ lv x b)(m:x.kzl=true)(C:a+x.cells.length<=(D.tv t y).cells.length)
  (n:asD D t (match D.tv t y with| .agg g=>.agg (zlc g a x.cells)|_=>x) = .ok z) (r:t ≠ .nat) :
  DR D t z (Go.Ab.zb6 w (z02 w.cells a b.cells))∧fits w (z02 w.cells a b.cells)=true∧a+b.cells.length<=w.cells.length:=by
 have u:=VR.yl3 (ρ:=ρ) (lv:=lv) hD o;have k:=q.cells m;have hlen:=k.length;have p:=u.length;refine⟨?_,?_,by omega⟩
 all_goals
  by_cases l:∃i,t = .st i
  ·obtain⟨i,rfl⟩:=l;obtain⟨J,rfl,O,N⟩:=DR.agg hD o
   first
    |rfl
    |(simp only[Dat.tv]at n
      refine zkv (ρ:=ρ) (lv:=lv) hD n ?_;simp only[Go.Ab.zb6,VR]
      exact⟨_,rfl,VRL.z02 (by simpa[Dat.tv,TV.cells,V.cells]using u) k a⟩)
  ·have d:∀i,t ≠ .st i:=λi e=>l ⟨i,e⟩
   have j:(match D.tv t y with| .agg g=>TV.agg (zlc g a x.cells)|_=>x)=x:=by
    cases t with
    |st i=>exact(d i rfl).elim
    |_=>rfl
   rw[j]at n;have s:=zkv hD n q;have⟨B,U,I,G⟩:=o.one d r;have⟨A,E,R,Q⟩:=s.one d r;have M:w.cells.length=1:=by rw[B];rfl
   have K:b.cells.length=1:=by rw[A];rfl
   have h:a=0:=by omega
   subst h;rw[B,A];have:z02 [w] 0 [b]=[b]:=rfl;rw[this]
   first
    |(rw[I];exact s)
    |exact G _ E
theorem yu4(X:TRr D F ρ ts σ){s j ty q a:Nat}{i:Int}{xs:List (D.T q)}{h:Option (Int×Nat×Nat)}{sl:Slot}{g:Nat}{G:Option Nat}{fps:List (List Nat)}(ho:fnd ts.o s=some (.deep ty q xs h))(Y:ρ[s]? = some sl)(hk:sl.k=some j)
  (q1:sl.ws.length=xs.length) (e1:sl.v = .hs F.lv j g 0 sl.ws.length false) (e2:σ.H.L[j]? = some (some (.arr g ty (D.len (.st q)) sl.ws G))) (e3:fps.length=xs.length) (e4:sl.fp=fps.flatten) (e5:sl.fp.Nodup)
  (e6:∀(n:Nat) (x:D.T q) (w:V) (c:List Nat),xs[n]? = some x->sl.ws[n]? = some w->fps[n]? = some c->EO D ρ F.lv σ.H.L q h n x w c) (hh:h=none∨∃K,h=some (i,a,K)) {y:D.T q}(p1:0<=i) (p2:xs[i.toNat]? = some y) (h3:(D.ow q a).isSome=true)
  {c:Nat} {l:Slot}(hc:ρ[c]? = some l) (h9:l.v.leaf=true) {vs:List V}{cs:List (List Nat)}(b1:sl.ws[i.toNat]? = some (.agg vs)) (b2:vs.length=(D.fl q).length) (b3:cs.length=(D.fl q).length) (b4:fps[i.toNat]? = some cs.flatten) (hf:a<(D.fl q).length)
  (b5:∀(f:Nat) (p:(t:DTy)×t.S D.T) (u:V) (b:List Nat),HL.nth (D.fl q) (D.get q y) f=some p->vs[f]? = some u->cs[f]? = some b->f≠a->DO D F.lv σ.H.L (yxb (D.ow q f)) p.1 p.2 u b) :
  TRr D F (ρ++[⟨sl.v,some j,sl.ws.set i.toNat (.agg (vs.set a l.v)),(fps.set i.toNat (cs.set a []).flatten).flatten⟩]) (ts.y5w D s (.deep ty q xs (some (i,a,c)))) {σ with H:={σ.H with L:=σ.H.L.set j (some (.arr g ty (D.len (.st q)) (sl.ws.set i.toNat (.agg (vs.set a l.v))) G))}}:=by
 have h7:i.toNat<xs.length:=(Qaa.1 p2).1;have h8:=(Qaa.1 e2).1;have hb:cs[a]? = some (cs[a]'(by omega)):=Qab (by omega);have r:sl.fp.Perm ((cs[a]'(by omega))++(fps.set i.toNat (cs.set a []).flatten).flatten):=by rw[e4];exact zdh fps i.toNat _ _ _ b4 (zdh cs a _ _ [] hb (by simp))
 have h6:=(List.nodup_append.1 (r.nodup_iff.1 e5)).2.1;have E:∀n,n∈(fps.set i.toNat (cs.set a []).flatten).flatten->n∈sl.fp:=λn h=>r.mem_iff.2 (List.mem_append_right _ h)
 let d:=sl.ws.set i.toNat (.agg (vs.set a l.v))
 let sl':Slot:=⟨sl.v,some j,d,(fps.set i.toNat (cs.set a []).flatten).flatten⟩
 have hd:∀n∈sl.fp,(σ.H.L.set j (some (.arr g ty (D.len (.st q)) d G)))[n]? = σ.H.L[n]? := λn U=>by
  rw[Qam (λe=>(X.fpl s _ sl n ho trivial Y U).1 (by rw[hk,e]))]
 have h4:OR D (ρ++[sl']) F.lv (σ.H.L.set j (some (.arr g ty (D.len (.st q)) d G))) sl' (.deep ty q xs (some (i,a,c))):=by
  simp only[OR];refine⟨by simp[sl',d,q1],g,G,fps.set i.toNat (cs.set a []).flatten,by simp[sl',d,e1],by simp[sl',h8],by simpa using e3,rfl,h6,λm x w' K R I M =>?_,λn' C s' e =>?_⟩
  ·have ha:∀n∈K,(σ.H.L.set j (some (.arr g ty (D.len (.st q)) d G)))[n]? = σ.H.L[n]? := λn U=>hd n (E n (List.mem_flatten.2 ⟨K,Qax M,U⟩))
   refine EO.mono (L:=σ.H.L) [sl'] ?_ ha;by_cases J:i.toNat=m
   ·subst J
    rw[p2]at R;cases R
    rw[Qaq (by omega)]at M;cases M
    simp only[sl',d]at I
    rw[Qaq (by omega)]at I;cases I
    refine⟨vs.set a l.v,cs.set a [],rfl,by simpa using b2,by simpa using b3,rfl,λC Q N Z O B A =>?_⟩;by_cases z:a=C
    ·subst z;rw[show z2a (some (i,a,c)) i.toNat a=some c by simp[z2a]];rw[Qaq (by omega)]at B A;injection B with B;injection A with A;subst B;subst A;exact⟨rfl,h3,h9,l,hc,rfl⟩
    ·rw[show z2a (some (i,a,c)) i.toNat C=none by simp[z2a];exact z];rw[Qam z]at B A;exact b5 C Q N Z O B A (λe=>z e.symm)
   ·simp only[sl',d]at I;rw[Qam J]at I M;have:=e6 m x w' K R I M
    have h5:EO D ρ F.lv σ.H.L q none m x w' K:=by
     rcases hh with rfl|⟨c2,rfl⟩
     ·exact this
     ·have⟨W,he,d1,d2,d3,d4,d5⟩:=this;refine⟨W,he,d1,d2,d3,d4,λC Q N Z O B A =>?_⟩;have:=d5 C Q N Z O B A;rw[show z2a (some (i,a,c2)) m C=none by simp[z2a];exact λe=>(J e).elim]at this;exact this
    exact h5.ydf _ λn' C s' e=>(by injection e with e;injection e with e e';subst e;exact J)
  ·injection e with e;injection e with e e';subst e;exact⟨p1,h7⟩
 have J:=X.move ho trivial Y hk (.deep ty q xs (some (i,a,c))) (.arr g ty (D.len (.st q)) d G) sl' rfl h4 E;exact J.zeb (TV.ren D s ts.nx) λx v h2=>VR.ren (lookup_append Y) (sl':=sl') (by rw[<-X.nx];simp) rfl h2
theorem yyo(I:TRr D F ρ ts σ){s j ty q:Nat}{i:Int}{xs:List (D.T q)}{sl:Slot}{b:Nat}{z:Option Nat}{fps:List (List Nat)}(Y:fnd ts.o s=some (.deep ty q xs none))(J:ρ[s]? = some sl)(Z:sl.k=some j)
  (q1:sl.ws.length=xs.length) (e1:sl.v = .hs F.lv j b 0 sl.ws.length false) (e2:σ.H.L[j]? = some (some (.arr b ty (D.len (.st q)) sl.ws z))) (e3:fps.length=xs.length) (e4:sl.fp=fps.flatten) (e5:sl.fp.Nodup)
  (e6:∀(n:Nat) (x:D.T q) (w:V) (c:List Nat),xs[n]? = some x->sl.ws[n]? = some w->fps[n]? = some c->EO D ρ F.lv σ.H.L q none n x w c) (p1:0<=i) (Q:i.toNat<xs.length) {x:HL D.T (D.fl q)}{hole:Option (Nat×Nat)}{B:List V}(hl:B.length=(D.fl q).length)
  (E:∀(f:Nat) (p:(t:DTy)×t.S D.T) (u:V),HL.nth (D.fl q) x f=some p->B[f]? = some u->zrx D ρ F.lv σ.H.L q f hole p u) :
  TRr D F (ρ++[⟨sl.v,some j,sl.ws.set i.toNat (.agg B),(fps.set i.toNat []).flatten⟩]) (ts.y5w D s (.deep ty q (xs.set i.toNat (D.make q x)) (hole.map λp=>(i,p.1,p.2)))) {σ with H:={σ.H with L:=σ.H.L.set j (some (.arr b ty (D.len (.st q)) (sl.ws.set i.toNat (.agg B)) z))}}:=by
 have R:=(Qaa.1 e2).1;have b4:fps[i.toNat]? = some (fps[i.toNat]'(by omega)):=Qab (by omega);have d:sl.fp.Perm ((fps[i.toNat]'(by omega))++(fps.set i.toNat []).flatten):=by rw[e4];exact zdh fps i.toNat _ _ [] b4 (by simp)
 have O:=(List.nodup_append.1 (d.nodup_iff.1 e5)).2.1;have l:∀n,n∈(fps.set i.toNat []).flatten->n∈sl.fp:=λn h=>d.mem_iff.2 (List.mem_append_right _ h)
 let a:=sl.ws.set i.toNat (.agg B)
 let sl':Slot:=⟨sl.v,some j,a,(fps.set i.toNat []).flatten⟩
 have X:∀n∈sl.fp,(σ.H.L.set j (some (.arr b ty (D.len (.st q)) a z)))[n]? = σ.H.L[n]? := λn G=>by
  rw[Qam (λe=>(I.fpl s _ sl n Y trivial J G).1 (by rw[Z,e]))]
 have N:OR D (ρ++[sl']) F.lv (σ.H.L.set j (some (.arr b ty (D.len (.st q)) a z))) sl' (.deep ty q (xs.set i.toNat (D.make q x)) (hole.map λp=>(i,p.1,p.2))):=by
  simp only[OR];refine⟨by simp[sl',a,q1],b,z,fps.set i.toNat [],by simp[sl',a,e1],by simp[sl',R],by simpa using e3,rfl,O,λm W w' K A y r =>?_,λn' f' s' e =>?_⟩
  ·have U:∀n∈K,(σ.H.L.set j (some (.arr b ty (D.len (.st q)) a z)))[n]? = σ.H.L[n]? := λn G=>X n (l n (List.mem_flatten.2 ⟨K,Qax r,G⟩))
   refine EO.mono (L:=σ.H.L) [sl'] ?_ U;simp only[sl',a]at y;by_cases C:i.toNat=m
   ·subst C;rw[Qaq (by omega)]at A y r;injection A with A;injection y with y;injection r with r;subst A;subst y;subst r;exact z024 hD rfl hl E
   ·rw[Qam C]at A y r
    exact(e6 m W w' K A y r).ydf _ λn' f' s' e=>(by
     rw[Qaf]at e;have⟨g,_,e⟩:=e
     injection e with e e';subst e;exact C)
  ·rw[Qaf]at e;have⟨g,_,e⟩:=e;injection e with e e';subst e;exact⟨p1,by simpa using Q⟩
 have C:=I.move Y trivial J Z (.deep ty q (xs.set i.toNat (D.make q x)) (hole.map λp=>(i,p.1,p.2))) (.arr b ty (D.len (.st q)) a z) sl' rfl N l;exact C.zeb (TV.ren D s ts.nx) λx v M=>VR.ren (lookup_append J) (sl':=sl') (by rw[<-I.nx];simp) rfl M
theorem yia{R:Type}(N:TRr D F ρ ts σ){t s ty q a:Nat}{i:Int}{xs:List (D.T q)}{W:Option (Int×Nat×Nat)}{x:TV D.T}{va vx:V}{k:TV D.T->TS D.T->Option R}{kf:Nat->Option R}{r:R}(h:ynq D ts ty q xs W s i a x k kf=some r)(ho:fnd ts.o s=some (.deep ty q xs W))
  (ha:VR D ρ F.lv (.dp s i a) va) (M:VR D ρ F.lv x vx) (hs:x.kzl=true) (C:(vx.kzl&&(P.info? t).isSome&&vx.cells.length==P.cellsOf t)=true) :
  (∃z B v H' ρ',zh5 P σ.H t va vx=some (v,H')∧VR D ρ' F.lv z v∧TRr D F ρ' B {σ with H:=H'}∧k z B=some r)∨∃s,kf s=some r:=by
 simp only[VR]at ha;obtain⟨sl,I,d,m,h1,g1,g2,g3,rfl⟩:=ha;have⟨sl',k1,k2⟩:=N.ob s _ ho
 rw[h1]at k1;cases k1
 simp only[OR]at k2;have⟨q1,q3⟩:=k2
 have base:∀{y:D.T q},xs[i.toNat]? = some y->∃(j l:Nat) (E:Option Nat) (fps:List (List Nat)),sl.k=some j∧sl.v = .hs F.lv j l 0 sl.ws.length false∧σ.H.L[j]? = some (some (.arr l ty (D.len (.st q)) sl.ws E))∧fps.length=xs.length∧sl.fp=fps.flatten∧sl.fp.Nodup ∧
   (∀(n:Nat) (x:D.T q) (w:V) (c:List Nat),xs[n]? = some x->sl.ws[n]? = some w->fps[n]? = some c->EO D ρ F.lv σ.H.L q W n x w c)∧I=j∧d=l:=λ{y} A=>by
  cases Z:sl.k with
  |none=>rw[Z]at q3;rw[q3.1]at A;simp at A
  |some j=>
   rw[Z]at q3;have⟨l,E,fps,e1,Q,e3,e4,e5,O,e7⟩:=q3;have h5:=g1
   rw[e1]at h5;injection h5 with _ a1 a4 _ a5
   exact⟨j,l,E,fps,rfl,e1,Q,e3,e4,e5,O,a1.symm,a4.symm⟩
 unfold ynq at h;split at h
 ·rename_i c;simp only[VR]at M;obtain⟨g,c1,rfl,c3⟩:=M;have h2:g.v.cells=[g.v]:=by cases hv:g.v <;> first|rfl|(rw[hv]at c3;simp[V.leaf]at c3)
  split at h
  ·rename_i hg hb h7;have h6:a<(D.fl q).length:=Nat.le_of_ble_eq_true h7
   have core:(W=none∨∃c',W=some (i,a,c'))->∀{y:D.T q},ix xs i=some y->k .any (ts.y5w D s (.deep ty q xs (some (i,a,c))))=some r->∃z B v H' ρ',zh5 P σ.H t (.ap F.lv I d i.toNat a) g.v=some (v,H')∧VR D ρ' F.lv z v∧TRr D F ρ' B {σ with H:=H'}∧k z B=some r:=λh4 {y} K hf=>by
    have⟨p1,A⟩:=zld K;obtain⟨j,l,E,fps,Z,e1,Q,e3,e4,e5,O,rfl,rfl⟩:=base A;have h3:i.toNat<xs.length:=(Qaa.1 A).1;have J:sl.ws[i.toNat]? = some (sl.ws[i.toNat]'(by omega)):=Qab (by omega);have Y:fps[i.toNat]? = some (fps[i.toNat]'(by omega)):=Qab (by omega);have⟨vs,cs,b1,b2,b3,b4,b5⟩:=O i.toNat y _ _ A J Y;rw[b1]at J
    rw[b4]at Y
    have U:z02 vs a g.v.cells=vs.set a g.v:=by
     rw[h2];unfold z02;rw[List.set_eq_take_append_cons_drop,Qbx (by omega)];simp
    refine⟨.any,_,.any,σ.H.set F.lv I (.arr d ty (D.len (.st q)) (sl.ws.set i.toNat (.agg (vs.set a g.v))) E),ρ++[⟨sl.v,some I,sl.ws.set i.toNat (.agg (vs.set a g.v)),(fps.set i.toNat (cs.set a []).flatten).flatten⟩],?_,by simp only[VR],?_,hf⟩
    ·unfold zh5;rw[Qbx C];simp only[N.get Q,if_true,J];rw[Qbx ⟨by rw[h2];show a+1<=vs.length;omega,rfl⟩];show some (V.any,σ.H.set F.lv I (.arr d ty (D.len (.st q)) (sl.ws.set i.toNat (.agg (z02 vs a g.v.cells))) E))=_;rw[U]
    ·rw[N.y7p];refine yu4 hD N ho h1 Z q1 e1 Q e3 e4 e5 O h4 p1 A (by rw[hb];rfl) c1 c3 J b2 b3 Y h6 λf p u b t1 t2 t3 he =>?_
     have:=b5 f p u b t1 t2 t3
     have hc:z2a W i.toNat f=none:=by
      rcases h4 with rfl|⟨c',rfl⟩
      ·rfl
      ·simp[z2a];exact λe=>he e.symm
     rw[hc]at this;exact this
   split at h
   ·have⟨y,K,h⟩:=z3h h;exact .inl (core (.inl rfl) K h)
   ·rename_i p;have⟨n,f',c'⟩:=p;split at h
    ·rename_i X;have X:f'=a:=Qaj X;subst X;have⟨_,hs,h⟩:=z3h h
     have hd:n=i:=by
      unfold yjp at hs;split at hs
      ·rename_i e;exact e
      ·cases hs
     subst hd;have⟨y,K,h⟩:=z3h h;exact .inl (core (.inr ⟨c',rfl⟩) K h)
    ·exact .inr ⟨s,h⟩
  ·cases h
 ·rename_i cells;simp only[VR]at M;obtain⟨G,rfl,M⟩:=M;split at h
  ·split at h
   ·split at h
    ·rename_i rr h9;have⟨y,K,h⟩:=z3h h;have⟨p1,A⟩:=zld K;obtain⟨j,l,E,fps,Z,e1,Q,e3,e4,e5,O,rfl,rfl⟩:=base A;have h3:i.toNat<xs.length:=(Qaa.1 A).1;have⟨a1,a2,a3⟩:=zp8 (L:=σ.H.L) h9 M;have J:sl.ws[i.toNat]? = some (sl.ws[i.toNat]'(by omega)):=Qab (by omega)
     have⟨vs,cs,b1,b2,b3,b4,b5⟩:=O i.toNat y _ _ A J (Qab (show i.toNat<fps.length by omega));rw[b1]at J;have h8:G.length=(D.fl q).length:=by rw[<-M.length];exact a1
     have U:z02 vs 0 G=G:=by
      unfold z02;simp[List.drop_eq_nil_of_le (show vs.length<=G.length by omega)]
     refine .inl ⟨.any,_,.any,σ.H.set F.lv I (.arr d ty (D.len (.st q)) (sl.ws.set i.toNat (.agg G)) E),ρ++[⟨sl.v,some I,sl.ws.set i.toNat (.agg G),(fps.set i.toNat []).flatten⟩],?_,by simp only[VR],?_,h⟩
     ·unfold zh5;rw[Qbx C];simp only[N.get Q,if_true,J];rw[Qbx ⟨by show 0+G.length<=vs.length;omega,rfl⟩];show some (V.any,σ.H.set F.lv I (.arr d ty (D.len (.st q)) (sl.ws.set i.toNat (.agg (z02 vs 0 G))) E))=_;rw[U]
     ·rw[N.y7p]
      exact yyo hD N ho h1 Z q1 e1 Q e3 e4 e5 O p1 h3 h8 λf p u t1 t2=>by
       have:=a3 f p u t1 t2;rwa[Nat.zero_add]at this
    ·exact .inr ⟨_,h⟩
    ·cases h
   ·exact .inr ⟨s,h⟩
  ·cases h
 ·cases h
theorem ymt{R:Type}(C:TRr D F ρ ts σ){t:Nat}{a x:TV D.T}{va G:V}{k:TV D.T->TS D.T->Option R}{kf:Nat->Option R}{r:R}(h:ydo P D ts t a x k kf=some r)(I:VR D ρ F.lv a va)(hx:VR D ρ F.lv x G) :
  (∃z hl v H' ρ',zh5 P σ.H t va G=some (v,H')∧VR D ρ' F.lv z v∧TRr D F ρ' hl {σ with H:=H'}∧k z hl=some r)∨∃s,kf s=some r:=by
 unfold ydo at h;split at h
 ·rename_i hc;simp only[Qag,Qbm]at hc;have⟨⟨c1,c2⟩,c3⟩:=hc;have l:=hx.cells c1
  have B:(G.kzl&&(P.info? t).isSome&&G.cells.length==P.cellsOf t)=true:=by
   simp only[Qag,Qbm];exact⟨⟨hx.kzl c1,c2⟩,by rw[<-l.length];exact c3⟩
  split at h
  ·rename_i s g;simp only[VR]at I;obtain⟨sl,i,J,h2,rfl⟩:=I;split at h
   ·rename_i cs N;split at h
    ·rename_i o;left;have⟨sl',Q,O⟩:=C.ob s _ N
     rw[J]at Q;cases Q
     simp only[OR]at O;have⟨i',vs,Y,q2,M⟩:=O
     rw[h2]at Y;cases Y
     have E:=(Qaa.1 q2).1;refine⟨.any,_,.any,σ.H.set F.lv i (.cells (z02 vs g G.cells)),ρ,?_,by simp only[VR],?_,h⟩
     ·unfold zh5;rw[Qbx B];simp only[C.get q2];rw[Qbx (by rw[<-l.length,<-M.length];exact o)]
     ·rw[C.y7p];exact C.upd N trivial J h2 _ _ (by simp only[OR];exact⟨i,_,h2,by simp[E],M.z02 l g⟩)
    ·cases h
   ·cases h
  ·rename_i s τ i y g;simp only[VR]at I;have⟨sl,w,J,h2,Z,h4,h5⟩:=I;split at h
   ·rename_i ty τ' xs N;split at h
    ·rename_i o;have⟨sl',Q,O⟩:=C.ob s _ N
     rw[J]at Q;cases Q
     simp only[OR]at O;have⟨Y,q2,M⟩:=O;obtain⟨rfl,ht,o⟩:=o;split at h
     ·rename_i z hz;left;have⟨d1,d2,d3⟩:=DR.zb6 hD h4 hx c1 o hz ht
      cases hk:sl.k with
      |none=>
       rw[hk]at M
       rcases M with ⟨e1,W⟩|⟨e1,W⟩
       ·rw[W]at Z;simp at Z
       ·rw[W trivial]at Z;simp at Z
      |some j=>
       rw[hk]at M h5;have⟨A,U,e1,W⟩:=M;obtain⟨h7,n,e3,rfl⟩:=h5
       rw[e1]at e3;injection e3 with _ _ e3 _ e4;subst e3;subst e4
       have E:=(Qaa.1 W).1;have hit:=(Qaa.1 Z).1
       let d:=sl.ws.set i.toNat (Go.Ab.zb6 w (z02 w.cells g G.cells))
       let sl':Slot:=⟨sl.v,some j,d,[]⟩
       have hg:OR D (ρ++[sl']) F.lv (σ.H.L.set j (some (.arr A ty (D.len τ) d U))) sl' (.acc ty τ (xs.set i.toNat z) true):=by
        simp only[OR];refine⟨by simp[sl',d,Y],λa x' v' I K =>?_,A,U,by simp[sl',d,e1],by simp[sl',E]⟩;simp only[sl',d]at K;by_cases X:i.toNat=a
        ·subst X;rw[Qaq (by rw[<-Y];exact hit)]at I;rw[Qaq hit]at K;injection I with I;injection K with K;subst I;subst K;exact d1
        ·rw[Qam X]at I K;exact q2 a x' v' I K
       have hm:=C.move N trivial J hk (.acc ty τ (xs.set i.toNat z) true) (.arr A ty (D.len τ) d U) sl' rfl hg;refine⟨.any,_,.any,σ.H.set F.lv j (.arr A ty (D.len τ) d U),ρ++[sl'],?_,by simp only[VR],?_,h⟩
       ·unfold zh5;rw[Qbx B];simp only[C.get W,if_true,Z];rw[Qbx ⟨d3,d2⟩]
       ·rw[C.y7p];have:=hm.zeb (TV.ren D s ts.nx) λx v hd=>VR.ren (lookup_append J) (sl':=sl') (by rw[<-C.nx];simp) rfl hd
        exact this
     ·exact .inr ⟨_,h⟩
     ·cases h
    ·cases h
   ·cases h
  ·rename_i s i g;simp only[VR]at I;obtain⟨sl,j',h7,m,J,g1,g2,g3,rfl⟩:=I;split at h
   ·rename_i ty q xs hh N;split at h
    ·rename_i o;have⟨hj,o⟩:=o;have⟨y,hy,h⟩:=z3h h;have⟨sl',Q,O⟩:=C.ob s _ N
     rw[J]at Q;cases Q
     simp only[OR]at O;have⟨Y,M⟩:=O;have⟨p1,p2⟩:=zld hy;have E:i.toNat<xs.length:=(Qaa.1 p2).1;split at h
     ·rename_i z hz;left
      cases hk:sl.k with
      |none=>rw[hk]at M;rw[M.1]at E;simp at E
      |some j=>
      rw[hk]at M;have⟨A,U,fps,e1,W,e3,e4,e5,e6,e7⟩:=M
      rw[e1]at g1;injection g1 with _ g1 g4 _ g5;subst g1;subst g4
      have hw:sl.ws[i.toNat]? = some (sl.ws[i.toNat]'(by omega)):=Qab (by omega);have hs:fps[i.toNat]? = some (fps[i.toNat]'(by omega)):=Qab (by omega);have⟨vs,cs,b1,b2,b3,b4,b5⟩:=e6 i.toNat y _ _ p2 hw hs;have hlen:=l.length;have k3:=(Qaa.1 W).1
      let w':V:=.agg (z02 vs g G.cells)
      let d:=sl.ws.set i.toNat w'
      let sl':Slot:=⟨sl.v,some j,d,sl.fp⟩
      have hu:(z02 vs g G.cells).length=vs.length:=by
       unfold z02;simp only[Qap,Qay,List.length_drop];omega
      have hg:OR D (ρ++[sl']) F.lv (σ.H.L.set j (some (.arr A ty (D.len (.st q)) d U))) sl' (.deep ty q (xs.set i.toNat (D.make q z)) hh):=by
       have k6:∀n∈sl.fp,(σ.H.L.set j (some (.arr A ty (D.len (.st q)) d U)))[n]? = σ.H.L[n]? := λn hn=>by
        rw[Qam (λe=>(C.fpl s _ sl n N trivial J hn).1 (by rw[hk,e]))]
       simp only[OR];refine⟨by simp[sl',d,Y],A,U,fps,by simp[sl',d,e1],by simp[sl',k3],by simpa using e3,e4,e5,λa x' u' c' r1 r2 r3 =>?_,λn f s' e=>by have:=e7 n f s' e;simpa using this⟩;have hr:∀n∈c',(σ.H.L.set j (some (.arr A ty (D.len (.st q)) d U)))[n]? = σ.H.L[n]? := λn hn=>k6 n (by rw[e4];exact List.mem_flatten.2 ⟨c',Qax r3,hn⟩)
       simp only[sl',d]at r2;by_cases X:i.toNat=a
       ·subst X;rw[Qaq E]at r1;rw[Qaq (by omega)]at r2;injection r1 with r1;injection r2 with r2;subst r1;subst r2
        rw[hs]at r3;cases r3
        refine EO.mono (L:=σ.H.L) [sl'] ⟨_,cs,rfl,by rw[hu];exact b2,b3,b4,λf p u b t1 t2 t3 =>?_⟩ hr;rw[hD.getMake]at t1;have⟨c,u1,u2⟩:=y53 hz f p t1;have hf:=(HL.zfq _ _ _ _ t1).1;by_cases k9:g<=f∧f<g+x.cells.length
        ·have hb:D.ow q f=none:=by
          have:=Qat.1 hj (f-g) (List.mem_range.2 (by omega));rw[show g+(f-g)=f by omega]at this;simpa using this
         have hv:z2a hh i.toNat f=none:=by
          cases k4:z2a hh i.toNat f with
          |none=>rfl
          |some s'=>
           have⟨pf,he,_⟩:=HL.zmb (D.fl q) (D.get q y) f hf;have:=b5 f pf _ _ he (Qab (show f<vs.length by omega)) (Qab (show f<cs.length by omega));rw[k4]at this;have⟨_,h9,_⟩:=this;rw[hb]at h9;cases h9
         have⟨pf,he,_⟩:=HL.zmb (D.fl q) (D.get q y) f hf;have h6:=b5 f pf _ b he (Qab (show f<vs.length by omega)) t3;rw[hv]at h6 ⊢;simp only at h6 ⊢;rw[hb]at h6 ⊢;have k5:b=[]:=by cases h6;rfl
         subst k5
         have v1:x.cells[f-g]? = some c:=by
          unfold zlc at u1;rw[Qal (by simp only[Qap,Qay,zc4];omega),Qav (by simp only[Qay,zc4];omega)]at u1;rw[<-u1];congr 1;simp only[Qay,zc4];omega
         have v2:G.cells[f-g]? = some u:=by
          unfold z02 at t2;rw[Qal (by simp only[Qap,Qay];omega),Qav (by simp only[Qay];omega)]at t2;rw[<-t2];congr 1;simp only[Qay];omega
         exact .dat (znc u2 (l.y3q v1 v2))
        ·have v1:(D.leaves (D.fl q) (D.get q y))[f]? = some c:=by
          unfold zlc at u1;by_cases hi:f<g
          ·rw[Qaz,Qal (by simp only[Qay,zc4];omega),Qaw,Qbx hi]at u1;exact u1
          ·rw[Qav (by simp only[Qap,Qay,zc4];omega),Qbf]at u1;rw[<-u1];congr 1;simp only[Qap,Qay,zc4];omega
         have v2:vs[f]? = some u:=by
          unfold z02 at t2;by_cases hi:f<g
          ·rw[Qaz,Qal (by simp only[Qay];omega),Qaw,Qbx hi]at t2;exact t2
          ·rw[Qav (by simp only[Qap,Qay];omega),Qbf]at t2;rw[<-t2];congr 1;simp only[Qap,Qay];omega
         rw[zie,Qaf]at v1;have⟨py,v3,v4⟩:=v1
         have hq:py.1=p.1:=by
          have h8:=(HL.zfq _ _ _ _ v3).2;have h9:=(HL.zfq _ _ _ _ t1).2;rw[h8]at h9;injection h9
         have⟨k8,a1⟩:=py;have⟨k7,a2⟩:=p;simp only at hq;subst hq;rw[<-v4]at u2;have:=ypr u2;subst this;exact b5 f _ u b v3 v2 t3
       ·rw[Qam X]at r1 r2;exact EO.mono (L:=σ.H.L) [sl'] (e6 a x' u' c' r1 r2 r3) hr
      have hm:=C.move N trivial J hk (.deep ty q (xs.set i.toNat (D.make q z)) hh) (.arr A ty (D.len (.st q)) d U) sl' rfl hg (λ_ h=>h);refine⟨.any,_,.any,σ.H.set F.lv j (.arr A ty (D.len (.st q)) d U),ρ++[sl'],?_,by simp only[VR],?_,h⟩
      ·unfold zh5;rw[Qbx B];simp only[C.get W,if_true,hw];rw[Qbx ⟨by rw[b1];show g+G.cells.length<=vs.length;omega,by rw[b1];rfl⟩];rw[b1];rfl
      ·rw[C.y7p];have:=hm.zeb (TV.ren D s ts.nx) λx v hd=>VR.ren (lookup_append J) (sl':=sl') (by rw[<-C.nx];simp) rfl hd
       exact this
     ·exact .inr ⟨_,h⟩
     ·cases h
    ·exact yia hD C h N (by simp only[VR];exact⟨sl,j',h7,m,J,g1,g2,g3,rfl⟩) hx c1 B
   ·cases h
  ·rename_i s;simp only[VR]at I;obtain⟨sl,i,J,h2,rfl⟩:=I;split at h
   ·rename_i ty b q N;left;have⟨sl',Q,O⟩:=C.ob s _ N
    rw[J]at Q;cases Q
    simp only[OR]at O;have⟨i',u,c,Y,q2,M,q4⟩:=O
    rw[h2]at Y;cases Y
    have E:=(Qaa.1 q2).1
    have hp:G.cells=[G]:=by
     have Z:=hx;simp only[VR]at Z;have⟨_,_,_,h4⟩:=Z
     cases G <;> first|rfl|(simp[V.leaf]at h4)
    refine⟨.any,_,.any,σ.H.set F.lv i (.arr 0 ty 2 [.agg [u,G]] (some 1)),ρ,?_,by simp only[VR],?_,h⟩
    ·unfold zh5;rw[Qbx B];simp only[C.get q2,if_true,Qcd];rw[Qbx (by rw[hp];exact⟨by simp[V.cells],rfl⟩),hp];rfl
    ·rw[C.y7p];exact C.upd N trivial J h2 _ _ (by simp only[OR];exact⟨i,u,G,h2,by simp[E],M,hx⟩)
   ·cases h
  ·cases h
 ·cases h
def DRL(D:Dat)(t:DTy)(xs:List (t.S D.T))(ws:List V):Prop:=ws.length=xs.length∧∀(j:Nat) (x:t.S D.T) (w:V),xs[j]? = some x->ws[j]? = some w->DR D t x w
omit hD in
theorem DRL.append{t:DTy}{xs d:List (t.S D.T)}{ws e:List V}(h:DRL D t xs ws)(k:DRL D t d e):DRL D t (xs++d) (ws++e):=by
 refine⟨by simp[h.1,k.1],λj x w b a =>?_⟩;rw[Qbe]at b a;rw[h.1]at a;split at b
 ·rw[Qbx ‹_›]at a;exact h.2 j x w b a
 ·rw[Qby ‹_›]at a;exact k.2 _ x w b a
omit hD in
theorem DRL.nil(t:DTy):DRL D t ([]:List (t.S D.T)) []:=⟨rfl,λj x w a=>by simp at a⟩
omit hD in
theorem yse(y:TRr D F ρ ts σ){τ:DTy}{x:TV D.T}{n:V}{m:List (τ.S D.T)}(h:tSrc D ts τ x=some m)(a:VR D ρ F.lv x n):∃o,zmk σ.H (D.len τ) n=some o∧DRL D τ m o:=by
 unfold tSrc at h;split at h
 ·cases h;simp only[VR]at a;subst a;exact⟨[],rfl,DRL.nil _⟩
 ·rename_i t xs J;obtain⟨rfl,rfl⟩:=z90 h;simp only[VR]at a;have⟨a,_⟩:=a
  cases a with
  |nil=>exact⟨[],rfl,DRL.nil _⟩
  |sl _ _ ws full C E=>exact⟨ws,by simp[zmk,zdp],C,E⟩
 ·rename_i s;split at h
  ·rename_i ty t xs w B;obtain⟨rfl,rfl⟩:=z90 h;simp only[VR]at a;obtain⟨sl,G,rfl,l⟩:=a;have⟨sl',q,p⟩:=y.ob s _ B
   rw[G]at q;cases q
   simp only[OR]at p;have⟨A,z,g⟩:=p;refine⟨sl.ws,?_,A,z⟩
   cases r:sl.k with
   |none=>
    rw[r]at g
    rcases g with ⟨e,i⟩|⟨e,i⟩
    ·rw[e,i];rfl
    ·rw[e.1];simp[zmk,zdp]
   |some j=>
    rw[r]at g;have⟨I,K,e,i⟩:=g;rw[e];simp[zmk,zdp,y.get i]
  ·cases h
 ·rename_i s;split at h
  ·cases h;simp only[VR]at a;subst a;refine⟨s.map λb=>.int .u8 b.toNat,by simp[zmk,Dat.len],?_,λj x w a d =>?_⟩
   ·rw[Qbd];show s.length=(yto s).length;rw[yto,Qbd]
   ·replace a:(s.map λb=>((b.toNat:Nat):Int))[j]? = some x:=a;rw[Qan]at a d
    cases u:s[j]? with
    |none=>rw[u]at a;cases a
    |some b=>
     rw[u]at a d;injection a with a;injection d with d;subst a;subst d;exact .int .u8 _
  ·cases h
 ·cases h
omit hD in
theorem zmw(a:TRr D F ρ ts σ){τ:DTy}{e:Nat}{v:V}{xs j:List (τ.S D.T)}{ws o:List V}{w:Bool}(l:DRL D τ xs ws)(p:DRL D τ j o)(b:xs.length+j.length<=zin)
  (m:(v = .nils∧ws=[])∨((v = .sl (D.len τ) ws true∧τ ≠ .int .u8)∧(w=true->ws=[]))) :
  ∃n H' sl',z4m σ.H e (D.len τ) v o=some (n,H')∧n.leaf=true∧sl'.v=n∧TRr D F (ρ++[sl']) (ts.new D (.acc e τ (xs++j) w)) {σ with H:=H'}∧(∀i,sl'.k=some i->i=σ.H.L.length)∧∀i,sl'.k≠some i->H'.L[i]? = σ.H.L[i]? := by
 have g:=l.append p
 cases o with
 |nil=>
  have q:j=[]:=Qao (by rw[<-p.1];rfl);subst q;refine⟨v,σ.H,⟨v,none,ws,[]⟩,?_,?_,rfl,?_,(λi h=>by cases h),λi _=>rfl⟩
  ·rcases m with ⟨rfl,_⟩|⟨⟨rfl,_⟩,_⟩ <;> simp[z4m]
  ·rcases m with ⟨rfl,_⟩|⟨⟨rfl,_⟩,_⟩ <;> rfl
  ·have:=a.new (.acc e τ (xs++[]) w) ⟨v,none,ws,[]⟩ σ.H a.lv a.E (Qbw _) (λ_ _=>rfl) (by simp) (by simp only[OR,List.append_nil];exact⟨l.1,l.2,m⟩)
   exact this
 |cons y r=>
  have hlen:ws.length+(y::r).length<=zin:=by rw[l.1,p.1];exact b
  refine⟨.hs F.lv σ.H.L.length 0 0 (ws++y::r).length false,σ.H.push (.arr 0 e (D.len τ) (ws++y::r) none),⟨.hs F.lv σ.H.L.length 0 0 (ws++y::r).length false,some σ.H.L.length,ws++y::r,[]⟩,?_,rfl,rfl,?_,(λi h=>by injection h with h;exact h.symm),λi h =>?_⟩
  ·rcases m with ⟨rfl,rfl⟩|⟨⟨rfl,_⟩,_⟩
   ·simp only[z4m];rw[Qbx (by simpa using hlen)];simp[a.lv]
   ·simp only[z4m,if_true];rw[Qbx (by simpa using hlen)];simp[a.lv]
  ·exact a.new _ _ _ a.lv a.E (by simp[Heap.push]) (λi d=>by simp only[Heap.push];rw[Qal d]) (λi d=>by injection d with d;omega)
    (by simp only[OR];exact⟨g.1,g.2,0,none,rfl,by simp[Heap.push]⟩)
  ·have d:i≠σ.H.L.length:=λe=>h (by rw[e])
   simp only[Heap.push];rw[Qbe];split
   ·rfl
   ·rw[Qcf (by simp;omega),Qcf (by omega)]
theorem z028{q e:Nat}{x:HL D.T (D.fl q)}{hole:Option (Nat×Nat)}{j ws:List V}{xs:List (D.T q)}{fps:List (List Nat)}{L L':List (Option yz5)}(sl':Slot)(m:ws.length=xs.length)(A:fps.length=xs.length)(o:j.length=(D.fl q).length)
  (h:∀(f:Nat) (p:(t:DTy)×t.S D.T) (u:V),HL.nth (D.fl q) x f=some p->j[f]? = some u->zrx D ρ lv L q f hole p u) (s:∀i∈fps.flatten,L'[i]? = L[i]?)
  (z:∀(n:Nat) (x:D.T q) (w:V) (c:List Nat),xs[n]? = some x->ws[n]? = some w->fps[n]? = some c->EO D ρ lv L q none n x w c) :
  ∀(n:Nat) (y:D.T q) (w:V) (c:List Nat),(xs++[D.make q x])[n]? = some y->(ws++[.agg j])[n]? = some w->(fps++[[]])[n]? = some c->EO D (ρ++[sl']) lv L' q (hole.map λp=>((xs.length:Int),p.1,p.2)) n y w c:=λn y w c b d a=>by
 rw[Qbe]at b d a;by_cases l:n<xs.length
 ·rw[Qbx l]at b;rw[Qbx (by omega)]at d a
  exact EO.mono (L:=L) [sl'] ((z n y w c b d a).ydf _ λC E B e=>(by
   rw[Qaf]at e;have⟨g,_,e⟩:=e;injection e with e G;subst e
   rw[Qbq];omega)) λi r=>s i (List.mem_flatten.2 ⟨c,Qax a,r⟩)
 ·rw[Qby l]at b;rw[Qby (by omega)]at d a
  have k:n=xs.length:=by
   have:=(Qaa.1 b).1;simp at this;omega
  subst k;rw[Nat.sub_self]at b;rw[m,Nat.sub_self]at d;rw[A,Nat.sub_self]at a;simp at b d a;subst b;subst d;subst a;exact EO.mono (L:=L) [sl'] (z024 hD (by simp) o h) (by simp)
theorem yg6{R:Type}(l:TRr D F ρ ts σ){t u q:Nat}{s:TV D.T}{cells:List (TV D.T)}{vs vx:V}{k:TV D.T->TS D.T->Option R}{kf:Nat->Option R}{r:R}(h:yd1 P D ts t u s q cells k kf=some r)(W:VR D ρ F.lv s vs)(Q:VR D ρ F.lv (.bsl q [.agg cells]) vx) :
  (∃z U v H' ρ',hAppend P σ.H t u vs vx=some (v,H')∧VR D ρ' F.lv z v∧TRr D F ρ' U {σ with H:=H'}∧k z U=some r)∨∃s,kf s=some r:=by
 simp only[VR,VRL]at Q;obtain⟨h9,rfl,w0,r0,rfl,⟨d,rfl,Q⟩,rfl⟩:=Q;unfold yd1 at h;split at h
 ·rename_i e du hu h6;split at h
  ·rename_i i M;split at h
   ·rename_i z hz;split at h
    ·rename_i hc;simp only[Qag,Qbm,Qar]at hc;obtain⟨⟨⟨⟨c1,c2⟩,c3⟩,c4⟩,c5⟩:=hc
     have y:∀b H',z4m σ.H e (D.len (.st q)) vs [.agg d]=some (b,H')->hAppend P σ.H t u vs (.sl (D.len (.st q)) [.agg d] true)=some (b,H'):=λb H' ha=>by
      unfold hAppend;rw[hu,h6];simp only[M,hz];rw[<-c5,show zmk σ.H (D.len (.st q)) (.sl (D.len (.st q)) [.agg d] true)=some [.agg d] by simp[zmk,zdp]];simp only;rw[Qbx (by simp only[Qag,Qbm,Qar];exact⟨⟨⟨c1,by omega⟩,c3⟩,by omega⟩)];exact ha
     have own:∀(sl':Slot) (b:V),sl'.v=b->b.leaf=true->VR D (ρ++[sl']) F.lv (.own ts.nx) b:=λsl' b N h2=>by
      simp only[VR];exact⟨sl',by rw[<-l.nx];simp,N.symm,h2⟩
     split at h
     ·rename_i K h4;obtain⟨a1,a2,a3⟩:=zp8 (L:=σ.H.L) h4 Q;have X:d.length=(D.fl q).length:=by rw[<-Q.length];exact a1
      have A:∀(f:Nat) (p:(t:DTy)×t.S D.T) (u:V),HL.nth (D.fl q) K.1 f=some p->d[f]? = some u->zrx D ρ F.lv σ.H.L q f K.2 p u:=λf p u t1 t2=>by
       have:=a3 f p u t1 t2;rwa[Nat.zero_add]at this
      have fresh:1<=zin->(vs = .nils∨vs = .sl (D.len (.st q)) [] true)->∃b H' sl',z4m σ.H e (D.len (.st q)) vs [.agg d]=some (b,H')∧b.leaf=true∧sl'.v=b∧TRr D F (ρ++[sl']) (ts.new D (.deep e q ([]++[D.make q K.1]) (K.2.map λp=>((([]:List (D.T q)).length:Int),p.1,p.2)))) {σ with H:=H'}:=λa hv=>by
       refine⟨.hs F.lv σ.H.L.length 0 0 1 false,σ.H.push (.arr 0 e (D.len (.st q)) [.agg d] none),⟨.hs F.lv σ.H.L.length 0 0 1 false,some σ.H.L.length,[.agg d],[]⟩,?_,rfl,rfl,?_⟩
       ·rcases hv with rfl|rfl
        ·simp only[z4m];rw[Qbx (by simpa using a)];simp[l.lv]
        ·simp only[z4m,if_true];rw[Qbx (by simpa using a)];simp[l.lv]
       ·refine l.new _ _ _ l.lv l.E (by simp[Heap.push]) (λi M=>by simp only[Heap.push];rw[Qal M]) (λi M=>by injection M with M;omega) ?_;simp only[OR];refine⟨rfl,0,none,[[]],rfl,by simp[Heap.push],rfl,rfl,List.nodup_nil,?_,λn f s' e =>?_⟩
        ·exact z028 hD (e:=e) (xs:=[]) (ws:=[]) (fps:=[]) (L:=σ.H.L) _ rfl rfl X A (by simp) (λn x w c h=>by simp at h)
        ·rw[Qaf]at e;obtain⟨g,_,e⟩:=e;injection e with e B;subst e;simp
      split at h
      ·obtain⟨zs,G,h⟩:=z3h h;obtain⟨a,rfl⟩:=y5g G;simp only[VR]at W;subst W;obtain⟨b,H',sl',b1,b2,b3,b4⟩:=fresh (by simpa using a) (.inl rfl);exact .inl ⟨_,_,b,H',_,y _ _ b1,own sl' b b3 b2,b4,h⟩
      ·rename_i s;split at h
       ·rename_i B O C hh ho;split at h
        ·rename_i he;subst he;split at h
         ·split at h
          ·rename_i xs hl;obtain⟨zs,G,h⟩:=z3h h;obtain⟨a,rfl⟩:=y5g G;obtain⟨J,I⟩:=z90 hl;injection J with J;subst J;replace I:C=xs:=I.symm;subst I;simp only[VR]at W;obtain⟨sl,N,rfl,h8⟩:=W;obtain⟨sl',Z,k2⟩:=l.ob s _ ho
           rw[N]at Z;injection Z with Z;subst Z
           simp only[OR]at k2;obtain⟨q1,Y⟩:=k2
           have h3:∀o,s<(ts.new D o).nx:=λo=>by
            have:=(Qaa.1 N).1;simp only[TS.new];rw[<-l.nx];omega
           cases hk:sl.k with
           |none=>
            rw[hk]at Y;obtain⟨rfl,hv,_,_⟩:=Y;obtain⟨b,H',sl',b1,b2,b3,b4⟩:=fresh a hv
            exact .inl ⟨_,_,b,H',_,y _ _ b1,own sl' b b3 b2,b4.drop s (h3 _),h⟩
           |some j=>
            rw[hk]at Y;obtain⟨m,cp,fps,e1,e2,e3,e4,e5,e6,e7⟩:=Y;have h5:=(Qaa.1 e2).1;have hlen:sl.ws.length+[V.agg d].length<=zin:=by rw[q1];exact a
            let sl':Slot:=⟨.hs F.lv j (m+1) 0 (sl.ws++[V.agg d]).length false,some j,sl.ws++[V.agg d],sl.fp⟩
            have h7:∀n∈sl.fp,(σ.H.L.set j (some (.arr (m+1) B (D.len (.st O)) (sl.ws++[V.agg d]) none)))[n]? = σ.H.L[n]? := λn hn=>by
             rw[Qam (λe=>(l.fpl s _ sl n ho trivial N hn).1 (by rw[hk,e]))]
            have hm:=l.move ho trivial N hk (.deep B O (C++[D.make O K.1]) (K.2.map λp=>((C.length:Int),p.1,p.2))) (.arr (m+1) B (D.len (.st O)) (sl.ws++[V.agg d]) none) sl' rfl
             (by
               simp only[OR];refine⟨by simp[sl',q1],m+1,none,fps++[[]],rfl,by simp[sl',h5],by simp[e3],by simp[sl',e4],e5,?_,λn f s' e =>?_⟩
               ·exact z028 hD (e:=B) (L:=σ.H.L) sl' q1 e3 X A (λn hn=>h7 n (by rw[e4];exact hn)) e6
               ·rw[Qaf]at e;obtain⟨g,_,e⟩:=e;injection e with e B;subst e
                simp) (λ_ h=>h)
            refine .inl ⟨_,_,sl'.v,σ.H.set F.lv j (.arr (m+1) B (D.len (.st O)) (sl.ws++[V.agg d]) none),_,y _ _ ?_,own sl' sl'.v rfl rfl,by rw[l.y7p];exact hm,h⟩;rw[e1];simp only[z4m,l.get e2,true_and];rw[Qbx hlen];simp[sl']
          ·cases h
         ·exact .inr ⟨s,h⟩
        ·cases h
       ·cases h
      ·cases h
     ·exact .inr ⟨_,h⟩
     ·cases h
    ·cases h
   ·cases h
  ·cases h
 ·cases h
omit hD in
theorem y0u{R:Type}(p:TRr D F ρ ts σ){t u:Nat}{s x:TV D.T}{vs X:V}{k:TV D.T->TS D.T->Option R}{r:R}(h:yl8 P D ts t u s x k=some r)(n:VR D ρ F.lv s vs)(hx:VR D ρ F.lv x X) :
  ∃z I v H' ρ',hAppend P σ.H t u vs X=some (v,H')∧VR D ρ' F.lv z v∧TRr D F ρ' I {σ with H:=H'}∧k z I=some r ∧
   ((∀q,s ≠ .own q)->∃sl' o,ρ'=ρ++[sl']∧I=ts.new D o∧o.live∧(∀i,sl'.k=some i->i=σ.H.L.length)∧∀i,sl'.k≠some i->H'.L[i]? = σ.H.L[i]?):=by
 unfold yl8 at h;split at h
 ·rename_i e du hu hb;split at h
  ·rename_i i τ hi hτ;split at h
   ·rename_i z hz;split at h
    ·rename_i hc;simp only[Qag,Qbm,Qar]at hc;have⟨⟨⟨⟨c1,c2⟩,c3⟩,c4⟩,c5⟩:=hc;split at h
     ·rename_i ys xs w hj h4 a;have⟨zs,h3,h⟩:=z3h h;obtain⟨b,rfl⟩:=y5g h3;have⟨J,h6,m⟩:=yse p h4 hx
      have g:∀d H',z4m σ.H e (D.len τ) vs J=some (d,H')->hAppend P σ.H t u vs X=some (d,H'):=λd H' ha=>by
       unfold hAppend;rw[hu,hb];simp only[hi,hz];rw[<-c5,h6];simp only;rw[Qbx (by simp only[Qag,Qbm,Qar];exact⟨⟨⟨c1,by omega⟩,c3⟩,by omega⟩)];exact ha
      have own:∀(sl':Slot) (d:V),sl'.v=d->d.leaf=true->VR D (ρ++[sl']) F.lv (.own ts.nx) d:=λsl' d M h2=>by
       simp only[VR];exact⟨sl',by rw[<-p.nx];simp,M.symm,h2⟩
      unfold tDst at a;split at a
      ·simp only[Qbu,Qbz]at a;obtain⟨rfl,rfl,rfl⟩:=a;simp only[VR]at n;subst n;have⟨d,H',sl',G,E,C,B,K⟩:=zmw (e:=e) p (w:=true) (DRL.nil τ) m b (.inl ⟨rfl,rfl⟩);exact⟨_,_,d,H',_,g _ _ G,own sl' d C E,B,h,λ_=>⟨sl',_,rfl,rfl,trivial,K⟩⟩
      ·by_cases l:τ = .int .u8
       ·rw[Qbx l]at a;cases a
       rw[Qby l,Qaf]at a;have⟨N,y,a⟩:=a;simp only[Qbz]at a;obtain⟨rfl,rfl,rfl⟩:=a;obtain⟨rfl,rfl⟩:=z90 y;simp only[VR]at n;have⟨n,hf,_⟩:=n;obtain⟨ws,rfl⟩:=hf (by omega)
       cases n with
       |sl _ _ _ _ y W=>
        have⟨d,H',sl',G,E,C,B,K⟩:=zmw (e:=e) p (w:=false) ⟨y,W⟩ m b (.inr ⟨⟨rfl,l⟩,by simp⟩);exact⟨_,_,d,H',_,g _ _ G,own sl' d C E,B,h,λ_=>⟨sl',_,rfl,rfl,trivial,K⟩⟩
      ·by_cases l:τ = .int .u8
       ·rw[Qbx l]at a;cases a
       rw[Qby l,Qaf]at a;have⟨N,y,a⟩:=a;simp only[Qbz]at a;obtain⟨rfl,rfl,rfl⟩:=a;obtain⟨rfl,rfl⟩:=z90 y;simp only[VR]at n;have⟨n,hf,h9⟩:=n;obtain⟨ws,rfl⟩:=hf (by omega);have h5:=h9 trivial
       cases n with
       |sl _ _ _ _ y W=>
        have⟨d,H',sl',G,E,C,B,K⟩:=zmw (e:=e) p (w:=true) ⟨y,W⟩ m b (.inr ⟨⟨rfl,l⟩,λ_=>Qao (by rw[y,h5];rfl)⟩);exact⟨_,_,d,H',_,g _ _ G,own sl' d C E,B,h,λ_=>⟨sl',_,rfl,rfl,trivial,K⟩⟩
      ·rename_i s;split at a
       ·rename_i U t' N w' ho;split at a
        ·rename_i he;subst he;rw[Qaf]at a;have⟨hg,y,a⟩:=a;simp only[Qbz]at a;obtain⟨rfl,rfl,rfl⟩:=a;obtain⟨rfl,rfl⟩:=z90 y;simp only[VR]at n;obtain⟨sl,M,rfl,hd⟩:=n;have⟨sl',k1,k2⟩:=p.ob s _ ho
         rw[M]at k1;cases k1
         simp only[OR]at k2;have⟨Y,q2,Q⟩:=k2
         have h7:∀o,s<(ts.new D o).nx:=λo=>by
          have:=(Qaa.1 M).1;simp only[TS.new];rw[<-p.nx];omega
         cases Z:sl.k with
         |none=>
          rw[Z]at Q;have⟨d,H',sl',G,E,C,B,K⟩:=zmw (e:=U) p (w:=w') ⟨Y,q2⟩ m b Q
          exact⟨_,_,d,H',_,g _ _ G,own sl' d C E,B.drop s (h7 _),h,λq=>(q s rfl).elim⟩
         |some j=>
          rw[Z]at Q;have⟨A,cp,e1,e2⟩:=Q;have h8:=(Qaa.1 e2).1;have O:=DRL.append ⟨Y,q2⟩ m;have hlen:sl.ws.length+J.length<=zin:=by rw[Y,m.1];exact b
          let sl':Slot:=⟨.hs F.lv j (A+1) 0 (sl.ws++J).length false,some j,sl.ws++J,[]⟩
          have hm:=p.move ho trivial M Z (.acc U _ (_++ys) w') (.arr (A+1) U (D.len t') (sl.ws++J) none) sl' rfl
           (by simp only[OR];exact⟨O.1,O.2,A+1,none,rfl,by simp[sl',h8]⟩)
          refine⟨_,_,sl'.v,σ.H.set F.lv j (.arr (A+1) U (D.len t') (sl.ws++J) none),_,g _ _ ?_,own sl' sl'.v rfl rfl,by rw[p.y7p];exact hm,h,λq=>(q s rfl).elim⟩;rw[e1];simp only[z4m,p.get e2,true_and];rw[Qbx hlen];simp[sl']
        ·cases a
       ·cases a
      ·cases a
     ·cases h
    ·cases h
   ·cases h
  ·cases h
 ·cases h
omit hD in
theorem z025(a:TRr D F ρ ts σ){t:Nat}{τ:DTy}:VR D (ρ++[⟨.any,some σ.H.L.length,[],[]⟩]) F.lv (TV.map ts.nx:TV D.T) (.map σ.H.lv σ.H.L.length)∧TRr D F (ρ++[⟨.any,some σ.H.L.length,[],[]⟩]) (ts.new D (.mp t τ [])) {σ with H:=σ.H.push (.map [])}:=by
 refine⟨?_,?_⟩
 ·simp only[VR];exact⟨⟨.any,some σ.H.L.length,[],[]⟩,σ.H.L.length,by rw[<-a.nx];simp,rfl,by rw[a.lv]⟩
 ·exact a.new _ _ _ a.lv a.E (by simp[Heap.push]) (λi b=>by simp only[Heap.push];rw[Qal b]) (λi b=>by injection b with b;omega)
   (by simp only[OR];exact⟨σ.H.L.length,[],rfl,rfl,(by simp),(by simp[Heap.push])⟩)
omit hD in
theorem ycm{R:Type}(j:TRr D F ρ ts σ){t:Nat}{d:Option (TV D.T)}{b:Option V}{k:TV D.T->TS D.T->Option R}{r:R}(h:yd7 P D ts t d k=some r)(s:∀z,d=some z->∃v,b=some v∧VR D ρ F.lv z v)(p:d=none->b=none) :
  ∃z a v H' ρ',zxc P σ.H t b=some (v,H')∧VR D ρ' F.lv z v∧TRr D F ρ' a {σ with H:=H'}∧k z a=some r:=by
 unfold yd7 at h;split at h
 ·rename_i w e o;split at h
  ·rename_i τ m;have⟨i,g⟩:=z025 j (t:=t) (τ:=τ);exact⟨_,_,_,_,_,by rw[p rfl];rfl,i,g,h⟩
  ·rename_i τ q n m;have⟨i,g⟩:=z025 j (t:=t) (τ:=τ);have⟨v,u,l⟩:=s _ rfl;simp only[VR]at l;subst l;exact⟨_,_,_,_,_,by rw[u];simp only[zxc,o],i,g,h⟩
  ·cases h
 ·cases h
theorem y1r{R:Type}(g:TRr D F ρ ts σ){t:Nat}{m d x:TV D.T}{u w a:V}{k:TV D.T->TS D.T->Option R}{r:R}(h:yas P D ts t m d x k=some r)(J:VR D ρ F.lv m u)(K:VR D ρ F.lv d w)(U:VR D ρ F.lv x a) :
  ∃z b v H' ρ',zi2 P σ.H t u w a=some (v,H')∧VR D ρ' F.lv z v∧TRr D F ρ' b {σ with H:=H'}∧k z b=some r:=by
 unfold yas at h;split at h
 ·rename_i W e q s Y;simp only[VR]at K;subst K;split at h
  ·rename_i ty τ es o I;split at h
   ·rename_i y Q;simp only[VR]at J;obtain⟨sl,i,M,j,rfl⟩:=J;have⟨sl',G,C⟩:=g.ob _ _ I
    rw[M]at G;cases G
    simp only[OR]at C;have⟨i',ms,B,O,N,A⟩:=C
    rw[j]at B;cases B
    have X:=zkv hD Q U;have n:=(Qaa.1 A).1;have l:=yte (P:=P) (f:=λx:τ.S D.T×V=>x.2) (lv:=σ.H.lv) (E:=σ.H.E) Y o A s (y,a) rfl;refine⟨.any,_,.any,{σ.H with L:=σ.H.L.set i (some (.map ((z99 ms s (y,a)).map λp=>(.str p.1,p.2.2))))},ρ,?_,by simp only[VR],?_,h⟩
    ·rw[<-g.lv];exact l
    ·exact g.upd I trivial M j (.mp ty τ (z99 es s y)) (.map ((z99 ms s (y,a)).map λp=>(.str p.1,p.2.2))) (by
      simp only[OR];refine⟨i,z99 ms s (y,a),j,?_,λp Z =>?_,by simp[n]⟩
      ·rw[O];exact z00n Prod.fst s (y,a) ms
      ·rcases z01w Z with h|h
       ·rw[h];exact X
       ·exact N p h)
   ·cases h
  ·cases h
 ·cases h
omit hD in
theorem yqu{R:Type}(e:TRr D F ρ ts σ){b:Bool}{x:TV D.T}{p:V}{k:TV D.T->TS D.T->Option R}{r:R}(h:z02c D ts x b k=some r)(y:VR D ρ F.lv x p) :
  ∃z g v H' ρ',yjw σ.H p b=some (v,H')∧VR D ρ' F.lv z v∧TRr D F ρ' g {σ with H:=H'}∧k z g=some r:=by
 unfold z02c at h;split at h
 ·rename_i s;simp only[VR]at y;obtain⟨sl,i,B,n,rfl⟩:=y;split at h
  ·rename_i l a A;have⟨sl',w,u⟩:=e.ob s _ A
   rw[B]at w;cases w
   simp only[OR]at u;have⟨C,q,j⟩:=u
   rw[n]at q;cases q
   have o:=(Qaa.1 j).1;rw[yb4]at h;split at h
   ·rename_i m;have d:a<l.length:=Qac m;refine⟨_,_,.tup [.bool true,.int .i64 a,.int .i32 (zho l a).1],σ.H.set F.lv i (.siter l (a+(zho l a).2)),ρ,?_,?_,?_,h⟩
    ·simp only[yjw,e.get j];rw[Qbx d]
    ·simp only[VR,VRL];exact⟨_,rfl,_,_,rfl,rfl,_,_,rfl,rfl,_,_,rfl,rfl,rfl⟩
    ·rw[e.y7p];exact e.upd A trivial B n _ _ (by simp only[OR];exact⟨i,n,by simp[o]⟩)
   ·rename_i m;have d:¬a<l.length:=λh=>m (Qbt h)
    refine⟨_,_,.tup [.bool false],σ.H,ρ,?_,?_,e,h⟩
    ·simp only[yjw,e.get j];rw[Qby d]
    ·simp only[VR,VRL];exact⟨_,rfl,_,_,rfl,rfl,rfl⟩
  ·cases h
 ·cases h
omit hD in
theorem DRL.take{t:DTy}{xs:List (t.S D.T)}{ws:List V}(h:DRL D t xs ws)(n:Nat):DRL D t (xs.take n) (ws.take n):=by
 refine⟨by simp[h.1],λj x w a b =>?_⟩;rw[Qaw]at a b;split at a
 ·rename_i d;rw[Qbx d]at b;exact h.2 j x w a b
 ·cases a
omit hD in
theorem DRL.drop{t:DTy}{xs:List (t.S D.T)}{ws:List V}(h:DRL D t xs ws)(n:Nat):DRL D t (xs.drop n) (ws.drop n):=by
 refine⟨by simp[h.1],λj x w a b =>?_⟩;rw[Qbf]at a b;exact h.2 _ x w a b
omit hD in
theorem ycl{R:Type}(I:TRr D F ρ ts σ){t:Nat}{x y:TV D.T}{w i:V}{k:TV D.T->Option R}{A:Option R}{r:R}(h:tCut P D ts t x y k A=some r)(E:VR D ρ F.lv x w)(l:VR D ρ F.lv y i) :
  (∃z v,zjb P σ.H t w (some i) none none=some v∧VR D ρ F.lv z v∧k z=some r)∨A=some r:=by
 unfold tCut at h;split at h
 ·rename_i s a;split at h
  ·rename_i e ty τ xs N Q;split at h
   ·rename_i G;left;have⟨_,b,h⟩:=z3h h;unfold yrt at b;split at b
    ·rename_i d;have⟨M,Z,Y⟩:=d;simp only[VR]at E l;subst l;obtain⟨sl,J,rfl,u⟩:=E;have⟨sl',C,B⟩:=I.ob s _ Q
     rw[J]at C;cases C
     simp only[OR]at B;have⟨o,U,m⟩:=B
     cases p:sl.k with
     |none=>
      rw[p]at m
      rcases m with ⟨_,g⟩|⟨_,g⟩
      ·rw[g]at o;simp at o;omega
      ·rw[g trivial]at o;simp at o;omega
     |some j=>
      rw[p]at m;have⟨q,X,K,g⟩:=m;have O:=y3h (P:=P) (n:=sl.ws.length) N G.1 G.2 (I.get g) (a:=a) M (by omega);refine⟨_,_,by rw[K];exact O,?_,h⟩;simp only[VR];refine⟨sl,j,q,J,p,K,M,by omega,?_⟩;split
      ·exact .inl rfl
      ·exact .inr ⟨by omega,_,rfl⟩
    ·cases b
   ·cases h
  ·cases h
 ·exact .inr h
omit hD in
theorem yrd{R:Type}(u:TRr D F ρ ts σ){t:Nat}{d s:TV D.T}{Y vs:V}{k:TV D.T->TS D.T->Option R}{r:R}(h:z006 P D ts t d s k=some r)(hd:VR D ρ F.lv d Y)(hs:VR D ρ F.lv s vs) :
  ∃z y v H' ρ',y5t P σ.H t Y vs=some (v,H')∧VR D ρ' F.lv z v∧TRr D F ρ' y {σ with H:=H'}∧k z y=some r:=by
 unfold z006 at h;split at h
 ·rename_i s a s' b;split at h
  ·rename_i O;subst O;split at h
   ·rename_i e ty τ xs hu ho;split at h
    ·rename_i I;have⟨E,l,h⟩:=z3h h;unfold y3g at l;split at l
     ·rename_i hb;injection l with l;have⟨b1,b2,b3,b4⟩:=hb;simp only[VR]at hd hs;have⟨sl,j,i,d1,d2,d3,d4,d5,d6⟩:=hd;have⟨h3,j1,h1,f1,f2,f3,f4,f5,f6⟩:=hs
      rw[d1]at f1;cases f1
      rw[d2]at f2;cases f2
      rw[d3]at f3;injection f3 with _ _ f3;subst f3
      have⟨sl',k1,W⟩:=u.ob s _ ho
      rw[d1]at k1;cases k1
      simp only[OR]at W;have⟨B,G,Z⟩:=W;rw[d2]at Z;have⟨h2,w,C,J⟩:=Z
      rw[d3]at C;injection C with _ _ C;subst C
      have U:=(Qaa.1 J).1
      have X:vs = .hs F.lv j i b.toNat (sl.ws.length-b.toNat) false:=by
       rcases f6 with f6|⟨f6,_⟩
       ·exact f6
       ·omega
      subst X
      let n:=min (sl.ws.length-b.toNat) (sl.ws.length-a.toNat)
      let g:=sl.ws.take a.toNat++((sl.ws.drop b.toNat).take n++sl.ws.drop (a.toNat+n))
      let sl':Slot:=⟨sl.v,some j,g,[]⟩
      have N:g.length=sl.ws.length:=by simp only[g,n,Qap,Qay,List.length_drop];omega
      have o:DRL D τ E g:=by
       rw[<-l];simp only[g,n,B];exact(DRL.take ⟨B,G⟩ _).append (((DRL.drop ⟨B,G⟩ _).take _).append (DRL.drop ⟨B,G⟩ _))
      have Q:OR D (ρ++[sl']) F.lv (σ.H.L.set j (some (.arr i ty (D.len τ) g w))) sl' (.acc ty τ E true):=by
       simp only[OR];refine⟨o.1,o.2,i,w,?_,by simp[sl',U]⟩;show sl.v = .hs F.lv j i 0 g.length false;rw[N];exact d3
      have hm:=u.move ho trivial d1 d2 (.acc ty τ E true) (.arr i ty (D.len τ) g w) sl' rfl Q;have p:=hm.zeb (TV.ren D s ts.nx) λx v K=>VR.ren (lookup_append d1) (sl':=sl') (by rw[<-u.nx];simp) rfl K
      have m:=u.get J
      rcases d6 with d6|⟨d6,sz,rfl⟩
      ·subst d6;refine⟨.any,_,.int .i64 (min (sl.ws.length-b.toNat) (sl.ws.length-a.toNat):Nat),σ.H.set F.lv j (.arr i ty (D.len τ) g w),ρ++[sl'],?_,by simp only[VR],?_,h⟩
       ·simp only[y5t,hu,m];rw[Qbx I.2,Qbx ⟨trivial,trivial,trivial⟩,Qbx ⟨trivial,I.1⟩]
       ·rw[u.y7p];exact p
      ·have hn:n=0:=by simp only[n];omega
       have M:g=sl.ws:=by
        simp only[g,hn,List.take_zero,List.nil_append,Nat.add_zero,List.take_append_drop]
       have A:σ.H.L.set j (some (.arr i ty (D.len τ) g w))=σ.H.L:=by
        rw[M];refine List.ext_getElem? λq =>?_
        rw[Qbi];split
        ·rename_i hq;rw[<-hq,J]
        ·rfl
       rw[A]at p;refine⟨.any,_,.int .i64 0,σ.H,ρ++[sl'],?_,by simp only[VR],p,h⟩;simp only[y5t,hu,m];rw[Qbx I.2,Qbx trivial]
     ·cases l
    ·cases h
   ·cases h
  ·cases h
 ·cases h
theorem yko{R:Type}(b:TRr D F ρ ts σ){op:Op}{k:TV D.T->TS D.T->Option R}{w:Nat->Option R}{r:R}(h:tOp P D ts op k w=some r) :
  (∃z a v H' ρ',ox P σ.H σ.ev op=some (v,H')∧VR D ρ' F.lv z v∧TRr D F ρ' a {σ with H:=H'}∧k z a=some r)∨∃s,w s=some r:=by
 have pure:∀{op:Op},tP P D ts op (λv=>k v ts) w=some r->(∃z a v H' ρ',ox P σ.H σ.ev op=some (v,H')∧VR D ρ' F.lv z v∧TRr D F ρ' a {σ with H:=H'}∧k z a=some r)∨∃s,w s=some r:=λ{op} h=>by
  rcases yc6 hD b h with ⟨x,v,g,e,q⟩|h
  ·exact .inl ⟨x,ts,v,σ.H,ρ,ypw g,e,b,q⟩
  ·exact .inr h
 unfold tOp at h;split at h
 ·split at h
  ·rename_i z I;split at h
   ·rename_i o;left;have⟨v,g,e⟩:=zlw (ρ:=ρ) (lv:=F.lv) I;have⟨q,B⟩:=b.ycd hD (e.cells o);exact⟨_,_,_,_,_,by simp only[ox,ycs,g];rw[Qbx (e.kzl o)],B,q,h⟩
   ·cases h
  ·cases h
 ·split at h
  ·rename_i x n;split at h
   ·rename_i o;left;have e:=b.ev n;have⟨q,B⟩:=b.ycd hD (e.cells o);exact⟨_,_,_,_,_,by simp only[ox,hBox];rw[Qbx (e.kzl o)],B,q,h⟩
   ·cases h
  ·cases h
 ·split at h
  ·rename_i N n
   rcases ymt hD b h (b.ev N) (b.ev n)with ⟨z,a,v,H',ρ',g,e⟩|h
   ·exact .inl ⟨z,a,v,H',ρ',by simp only[ox];exact g,e⟩
   ·exact .inr h
  ·cases h
 ·split at h
  ·rename_i U K;left;have⟨Q,O⟩:=b.oev K;have⟨z,a,v,H',ρ',g,e⟩:=ycm b h Q O;exact⟨z,a,v,H',ρ',by simp only[ox];exact g,e⟩
  ·cases h
 ·split at h
  ·rename_i y A n;left;have⟨z,a,v,H',ρ',g,e⟩:=y1r hD b h (b.ev y) (b.ev A) (b.ev n);exact⟨z,a,v,H',ρ',by simp only[ox];exact g,e⟩
  ·cases h
 ·split at h
  ·rename_i y A n;left;have⟨z,a,v,H',ρ',g,e⟩:=y1r hD b h (b.ev y) (b.ev A) (b.ev n);exact⟨z,a,v,H',ρ',by simp only[ox];exact g,e⟩
  ·cases h
 ·split at h
  ·rename_i str n;split at h
   ·rename_i J;left;have g:=b.ev n;simp only[VR]at g;refine⟨_,_,.ptr σ.H.lv σ.H.L.length 0,σ.H.push (.siter str 0),ρ++[⟨.any,some σ.H.L.length,[],[]⟩],by simp only[ox,yni,g,J],?_,?_,h⟩
    ·simp only[VR];exact⟨⟨.any,some σ.H.L.length,[],[]⟩,σ.H.L.length,by rw[<-b.nx];simp,rfl,by rw[b.lv]⟩
    ·exact b.new _ _ _ b.lv b.E (by simp[Heap.push]) (λi p=>by simp only[Heap.push];rw[Qal p]) (λi p=>by injection p with p;omega)
      (by simp only[OR];exact⟨σ.H.L.length,rfl,by simp[Heap.push]⟩)
   ·cases h
  ·cases h
 ·split at h
  ·rename_i p;left;have⟨z,a,v,H',ρ',g,e⟩:=yqu b h (b.ev p);exact⟨z,a,v,H',ρ',by simp only[ox];exact g,e⟩
  ·cases h
 ·split at h
  ·rename_i c;split at h
   ·rename_i s x t u m j l;split at h
    ·rename_i o n
     rcases yg6 hD b h (b.ev o) (b.ev n)with ⟨z,a,v,H',ρ',g,e⟩|h
     ·exact .inl ⟨z,a,v,H',ρ',by simp only[ox,m,j,l];exact g,e⟩
     ·exact .inr h
    ·rename_i o n;left;have⟨z,a,v,H',ρ',g,e,G,C,_⟩:=y0u b h (b.ev o) (b.ev n);replace e:=And.intro e (And.intro G C);exact⟨z,a,v,H',ρ',by simp only[ox,m,j,l];exact g,e⟩
    ·cases h
   ·rename_i d s t u m j l;split at h
    ·rename_i M o;left;have⟨z,a,v,H',ρ',g,e⟩:=yrd b h (b.ev M) (b.ev o);exact⟨z,a,v,H',ρ',by simp only[ox,m,j,l];exact g,e⟩
    ·cases h
   ·exact pure h
  ·exact pure h
end
section
variable {P:Program}{D:Dat}{F:Fr}{ρ:List Slot}{ts:TS D.T}{σ:St}{lv:Nat}{L:List (Option yz5)}
def Slot.all(sl:Slot):List Nat:=sl.k.toList++sl.fp
def Slot.zyz{sl:Slot}{i:Nat}:i∈sl.all↔sl.has i:=by
 unfold Slot.all Slot.has;rw[Qbb]
 cases sl.k with
 |none=>simp
 |some j=>simp[eq_comm]
def y2w{t:DTy}(h:D.zqv t=true):∀i f,f<(D.fl i).length->t = .st i->D.ow i f=none:=λi f b e=>by
 subst e;simp only[Dat.zqv,Dat.owns,Bool.not_eq_true']at h;have:=List.any_eq_false.1 h f (List.mem_range.2 b)
 cases a:D.ow i f with
 |none=>rfl
 |some y=>rw[a]at this;simp at this
def z06e{ty:Nat}{t:DTy}{xs:List (t.S D.T)}{sl:Slot}(h:OR D ρ lv L sl (.acc ty t xs true))(z:D.zqv t=true):DO D lv L (.own ty) (.sl t) xs sl.v sl.k.toList:=by
 simp only[OR]at h;have⟨B,J,o⟩:=h
 cases A:sl.k with
 |none=>
  rw[A]at o;have y:sl.ws=[]->xs=[]:=λe=>Qao (by rw[<-B,e];rfl)
  rcases o with ⟨g,d⟩|⟨⟨g,_⟩,d⟩
  ·have:=y d;subst this;rw[g];exact .nil (.nil _) (.inl rfl)
  ·have C:=d trivial;have:=y C;subst this;rw[g,C]
   exact .nil (.sl _ _ _ _ rfl (λj x w G=>by simp at G)) (.inr rfl)
 |some j=>
  rw[A]at o;have⟨Q,R,g,d⟩:=o;rw[g]
  have E:([]:List Nat)=(List.replicate xs.length ([]:List Nat)).flatten:=by
   symm;rw[List.flatten_eq_nil_iff];intro l a;exact(List.mem_replicate.1 a).2
  show DO D lv L (.own ty) (.sl t) xs _ (j::[]);rw[E];refine .own d B (by simp) λn x w c O N r =>?_
  rw[Qbo]at r;split at r
  ·cases r;have m:=J n x w O N
   cases t with
   |st i=>
    cases m with
    |st _ _ vs a h=>
     have s:([]:List Nat)=(List.replicate (D.fl i).length ([]:List Nat)).flatten:=by
      symm;rw[List.flatten_eq_nil_iff];intro l a;exact(List.mem_replicate.1 a).2
     rw[s];refine .el a (by simp) λf p u b M K q =>?_
     rw[Qbo]at q;split at q
     ·rename_i I;cases q;rw[y2w z i f I rfl];exact .dat (h f p u M K)
     ·cases q
    |enc=>exact .elf (y2w z) (.enc i x)
   |_=>exact .elf (λi f _ e=>by cases e) m
  ·cases r
def you{ty q:Nat}{xs:List (D.T q)}{sl:Slot}(h:OR D ρ lv L sl (.deep ty q xs none)):DO D lv L (.own ty) (.sl (.st q)) xs sl.v sl.all:=by
 simp only[OR]at h;have⟨i,a⟩:=h;unfold Slot.all
 cases e:sl.k with
 |none=>
  rw[e]at a;obtain⟨rfl,e2,d,_⟩:=a;rw[d]
  rcases e2 with e2|e2
  ·rw[e2];exact .nil (.nil _) (.inl rfl)
  ·rw[e2];exact .nil (.sl _ _ _ _ rfl (λj x w g=>by simp at g)) (.inr rfl)
 |some j=>
  rw[e]at a;have⟨I,M,fps,y,e2,d,s,K,r,J⟩:=a;rw[y,s];refine .own e2 i d λn x w c G E C =>?_
  obtain⟨vs,cs,rfl,B,A,rfl,z⟩:=r n x w c G E C;exact .el B A λf p u b o m l=>z f p u b o m l
inductive VH (lv:Nat) (L:List (Option yz5)) (R:Nat->Prop):V->V->Prop where
 |keep (v:V):VH lv L R v v
 |hs (i ver ty sz n:Nat) (full:Bool) (xs ys:List V) (cp:Option Nat) (hR:R i) (hg:L[i]? = some (some (.arr ver ty sz xs cp))) (hn:ys.length=n)
  (h1:∀(j:Nat) (x y:V),xs[j]? = some x->ys[j]? = some y->x.cells.length=y.cells.length) (h2:∀(j:Nat) (x y:V) (t:Nat) (v u:V),xs[j]? = some x->ys[j]? = some y->x.cells[t]? = some v->y.cells[t]? = some u->VH lv L R v u) :
  VH lv L R (.hs lv i ver 0 n full) (.sl sz ys false)
def VH.rel{W:World}{g:Gh}{H H':Heap}{R:Nat->Prop}(q:Good W g H)(B:H.lv=lv)(hL:H.L=L)(X:∀{x:V}{c:Value},Rel W g H x c->Rel W g H' x c)(r:∀i o,R i->H.get H.lv i=some o->¬Own g H' (o.blk g H.lv i)){v u:V}(h:VH lv L R v u):∀{c:Value},Rel W g H v c->Rel W g H' u c:=by
 induction h with
 |keep v=>exact λh=>X h
 |hs i A ty sz n full xs w cp hR C U J h2 O=>
  intro c Y
  have z:H.get H.lv i=some (.arr A ty sz xs cp):=by
   unfold Heap.get;rw[Qbx rfl,hL,C];rfl
  subst B
  cases Y with
  |hs _ _ _ _ _ _ a m E hd hv Z=>
   obtain⟨rfl,rfl,⟨I,G,h8⟩,h6⟩:=Z _ _ _ _ z;have⟨l,N,M,K,h3,k4,k5,s⟩:=y4l q z
   have get:∀j y,w[j]? = some y->∃x,xs[j]? = some x∧j<m:=λj y b=>by
    have:=(Qaa.1 b).1;exact⟨_,Qab (by omega),by omega⟩
   have cells:∀(j:Nat) (y:V) (t:Nat) (u:V),w[j]? = some y->y.cells[t]? = some u->∃x v,xs[j]? = some x∧x.cells[t]? = some v∧Rel W g H' u (l.getD (j * sz+t) undef)∧(l.getD (j * sz+t) undef).oneCell'=true∧j * sz+t<l.size:=λj y t u b p=>by
    have⟨x,d,h7⟩:=get j y b;have hl:=J j x y d b;have h4:=s.1 _ _ d;have h5:=(Qaa.1 p).1;have k:x.cells[t]? = some (x.cells[t]'(by omega)):=Qab _;refine⟨x,_,d,k,O j x y t _ u d b k p (s.2.2 _ _ _ _ d k),s.2.1 _ _ _ _ d k,?_⟩;rw[K];exact y7c (by omega) (by omega)
   rw[<-U];refine .sl sz w false (g.ab H.lv i) (0 * sz) E (λj t=>l.getD (j * sz+t) undef) (λQ=>r i _ hR z Q) M (by omega) (by simp) (λj y b =>?_) (λj y t u b p =>?_) (λj y t u b p =>?_) (λj y t u b p =>?_)
   ·have⟨x,d,_⟩:=get j y b;rw[<-J j x y d b];exact s.1 _ _ d
   ·have⟨x,v,_,_,_,_,e⟩:=cells j y t u b p;have:=cell_of N e;rw[<-this];congr 2;omega
   ·have⟨x,v,_,_,_,e,_⟩:=cells j y t u b p;exact e
   ·have⟨x,v,_,_,e,_,_⟩:=cells j y t u b p;exact e
def SeenH(lv:Nat)(L:List (Option yz5))(R:Nat->Prop):OM->V->V->Prop
 |.el,v,u=>v.cells.length=u.cells.length∧∀(j:Nat) (a b:V),v.cells[j]? = some a->u.cells[j]? = some b->VH lv L R a b
 |.dat,v,u=>VH lv L R v u
 |.own _,v,u=>VH lv L R v u
def DO.seeH{R:Nat->Prop}{m:OM}{t:DTy}{x:t.S D.T}{v:V}{O:List Nat}(h:DO D lv L m t x v O):(∀i∈O,R i)->∃u,DR D t x u∧SeenH lv L R m v u:=by
 induction h with
 |dat h=>exact λ_=>⟨_,h,.keep _⟩
 |nil h H=>exact λ_=>⟨_,h,.keep _⟩
 | @own ty t xs j N Y ws fps X U C he G=>
   intro E
   have⟨g,M,s⟩:=zlr (Q:=λn u=>∀(x:t.S D.T) (w:V),xs[n]? = some x->ws[n]? = some w->DR D t x u∧w.cells.length=u.cells.length∧∀(j:Nat) (a b:V),w.cells[j]? = some a->u.cells[j]? = some b->VH lv L R a b) xs.length λn z=>by
    have J:fps[n]? = some (fps[n]'(by omega)):=Qab (show n<fps.length by omega);have⟨u,K,r⟩:=G n _ _ _ (Qab z) (Qab (show n<ws.length by omega)) J (λi I=>E i (Qai _ (List.mem_flatten.2 ⟨_,Qax J,I⟩)));refine⟨u,λx w y d =>?_⟩
    rw[Qab z]at y;cases y
    rw[Qab (show n<ws.length by omega)]at d;cases d
    exact⟨K,r⟩
   refine⟨.sl (D.len t) g false,.sl t xs g false M λn x u y o =>?_,?_⟩
   ·have z:=(Qaa.1 y).1;exact(s n u o x _ y (Qab (show n<ws.length by omega))).1
   ·refine .hs j N ty (D.len t) ws.length false ws g Y (E j Qak) X (by omega) (λn w u d o =>?_) λn w u c a b d o l k =>?_
    ·have z:=(Qaa.1 d).1;exact(s n u o _ w (Qab (show n<xs.length by omega)) d).2.1
    ·have z:=(Qaa.1 d).1
     exact(s n u o _ w (Qab (show n<xs.length by omega)) d).2.2 c a b l k
 | @el i x vs cs U J h G=>
   intro E
   have⟨g,M,s⟩:=zlr (Q:=λf u=>∀(p:(t:DTy)×t.S D.T) (w:V),HL.nth (D.fl i) (D.get i x) f=some p->vs[f]? = some w->DR D p.1 p.2 u∧VH lv L R w u) (D.fl i).length λf C=>by
    have⟨p,q,_⟩:=HL.zmb (D.fl i) (D.get i x) f C;have B:cs[f]? = some (cs[f]'(by omega)):=Qab (show f<cs.length by omega);have⟨u,K,r⟩:=G f p _ _ q (Qab (show f<vs.length by omega)) B (λi I=>E i (List.mem_flatten.2 ⟨_,Qax B,I⟩));refine⟨u,λZ w e d =>?_⟩
    rw[q]at e;injection e with e;subst e
    rw[Qab (show f<vs.length by omega)]at d;cases d
    refine⟨K,?_⟩
    cases A:D.ow i f with
    |none=>rw[A]at r;exact r
    |some ty=>rw[A]at r;exact r
   refine⟨.agg g,.st i x g M λf p u q o =>?_,?_⟩
   ·have C:=(HL.zfq _ _ _ _ q).1;exact(s f u o p _ q (Qab (show f<vs.length by omega))).1
   ·refine⟨by show vs.length=g.length;omega,λf a b l k =>?_⟩;replace l:vs[f]? = some a:=l;replace k:g[f]? = some b:=k;have C:=(Qaa.1 l).1;have⟨p,q,_⟩:=HL.zmb (D.fl i) (D.get i x) f (by omega)
    exact(s f b k p a q l).2
 |elf W h=>exact λ_=>⟨_,h,rfl,λj a b l k=>by rw[l]at k;cases k;exact .keep _⟩
def y87(L:List (Option yz5))(all:List Nat)(a:List (Nat×yz5)):List (Option yz5):=(List.range L.length).map λk=>if k∈all then none else match a.find? (λp=>p.1==k)with|some p=>some p.2|none=>(L[k]?).join
def y04(L:List (Option yz5))(all:List Nat)(a:List (Nat×yz5)):(y87 L all a).length=L.length:=by simp[y87]
def y08{L:List (Option yz5)}{all:List Nat}{a:List (Nat×yz5)}{k:Nat}(b:k<L.length):(y87 L all a)[k]? = some (if k∈all then none else match a.find? (λp=>p.1==k)with|some p=>some p.2|none=>(L[k]?).join):=by
 unfold y87;rw[Qan,List.getElem?_range b];rfl
def yx6{σ:St}{all:List Nat}{v r:V}(hd:σ.d=[])(hv:VH σ.H.lv σ.H.L (· ∈ all) v r){J j:List (Nat×yz5)}(h5:(J.map (·.1)).Nodup)(C:FOL v r J j)(h4:∀p∈J,σ.H.L[p.1]? = some (some p.2)∧p.1∉all)
  {t':List V} (ht:FVL v r σ.t t') :
  zwk σ ⟨t',⟨σ.H.lv,y87 σ.H.L all j,σ.H.E⟩,[],σ.e0⟩∧(∀k∈j,(y87 σ.H.L all j)[k.1]? = some (some k.2))∧∀n,n<σ.H.L.length->n∉all->(∀p∈J,p.1≠n)->(y87 σ.H.L all j)[n]? = σ.H.L[n]? := by
 have h9:(j.map (·.1)).Nodup:=by rw[C.map];exact h5
 have G:∀k∈j,j.find? (λp=>p.1==k.1)=some k:=λk u=>by
  cases z:j.find? (λp=>p.1==k.1)with
  |none=>rw[List.find?_eq_none]at z;have:=z k u;simp at this
  |some q=>
   have K:=List.find?_some z;have Z:=List.mem_of_find?_eq_some z;simp at K;have⟨a,ha⟩:=List.mem_iff_getElem?.1 u;have⟨b,X⟩:=List.mem_iff_getElem?.1 Z;have N:(j.map (·.1))[a]? = some k.1:=by simp[ha]
   have he:(j.map (·.1))[b]? = some k.1:=by simp[X,K]
   have s:=(Qaa.1 N).1;have:=(List.getElem?_inj s h9).1 (N.trans he.symm);subst this;rw[ha]at X;exact X.symm
 have y:∀k∈j,∃o,σ.H.L[k.1]? = some (some o)∧k.1∉all∧FO v r o k.2:=λk u=>by
  have⟨o,ho,U⟩:=C.mem k u;exact⟨o,(h4 _ ho).1,(h4 _ ho).2,U⟩
 refine⟨?_,λk u =>?_,λn hn h8 h7 =>?_⟩
 ·refine ycv (v:=v) (r:=r) (y04 _ _ _) (λm o' w =>?_) ht hd λW g hG hg U c hc =>?_
  ·have s:m<σ.H.L.length:=by have:=(Qaa.1 w).1;rw[y04]at this;exact this
   rw[y08 s]at w;injection w with w;split at w
   ·cases w
   ·split at w
    ·rename_i p B;injection w with w;have x:=List.find?_some B;simp at x;have⟨o,I,_,Y⟩:=y p (List.mem_of_find?_eq_some B);exact⟨o,by rw[<-x];exact I,by rw[<-w];exact Y⟩
    ·refine⟨o',?_,.inl rfl⟩;rw[Qab s]at w ⊢;simp at w;rw[w]
  ·refine VH.rel hG rfl rfl U (λi o hi Q ⟨l,A,o',h,h6⟩ =>?_) hv hc
   have O:∃o,σ.H.get l A=some o∧o'.blk g l A=o.blk g l A∧¬(l=σ.H.lv∧A∈all):=by
    unfold Heap.get at h ⊢;dsimp only at h ⊢;by_cases R:l=σ.H.lv
    ·rw[Qbx R]at h ⊢
     cases z:(y87 σ.H.L all j)[A]? with
     |none=>rw[z]at h;simp at h
     |some q=>
      have s:A<σ.H.L.length:=by have:=(Qaa.1 z).1;rw[y04]at this;exact this
      rw[y08 s]at h;simp only[Option.join_some]at h;split at h
      ·cases h
      ·rename_i M;split at h
       ·rename_i p B;injection h with h;have x:=List.find?_some B;simp at x;have⟨o,I,_,Y⟩:=y p (List.mem_of_find?_eq_some B);rw[x]at I;exact⟨o,by rw[I];rfl,by rw[<-h];exact Y.blk g l A,λe=>M e.2⟩
       ·exact⟨o',h,rfl,λe=>M e.2⟩
    ·rw[Qby R]at h ⊢;exact⟨o',h,rfl,λe=>R e.1⟩
   have⟨o2,w1,w2,w3⟩:=O;have⟨e1,e2⟩:=hG.inj _ _ _ _ _ _ w1 Q (by rw[<-w2];exact h6);exact w3 ⟨e1,by rw[e2];exact hi⟩
 ·have⟨o,I,h2,_⟩:=y k u;have s:=(Qaa.1 I).1;rw[y08 s,Qby h2,G k u]
 ·rw[y08 hn,Qby h8]
  have:j.find? (λp=>p.1==n)=none:=by
   rw[List.find?_eq_none];intro p B;have:p.1∈J.map (·.1):=by rw[<-C.map];exact List.mem_map_of_mem B
   have⟨q,z,hh⟩:=Qbg.1 this;have:=h7 q z;simp;omega
  rw[this,Qab hn];rfl
end
end Go.Ab
