/-
  THE TYPED MACHINE: operations on own objects.
-/
import Derived.Test.YthphaiccgnkobaaGreatDoorLib4
import Derived.Test.YthphaiccgnkobaaGreatDoorLib3
namespace Go.Ab
open Go
set_option linter.unusedVariables false
set_option linter.unusedSimpArgs false
set_option linter.unusedSectionVars false
section
variable {P : Program} {D : Dat} {F : Fr} {ρ : List Slot} {ts : TS D.T} {σ : St} {lv : Nat}
theorem DO.mono{L L' m t x v fp}(h:DO D lv L m t x v fp)(hL:∀i∈fp,L'[i]? = L[i]?):DO D lv L' m t x v fp:=by
 induction h with
 |dat h=>exact .dat h
 |nil h hv=>exact .nil h hv
 |own hj hl hf he ih=>
  exact .own (by rw[hL _ Qak];exact hj) hl hf λn x w c h1 h2 h3=>ih n x w c h1 h2 h3 λi hi=>hL i (Qai _ (List.mem_flatten.2 ⟨c,Qax h3,hi⟩))
 |el hl hc h ih=>exact .el hl hc λf p u b h1 h2 h3=>ih f p u b h1 h2 h3 λi hi=>hL i (List.mem_flatten.2 ⟨b,Qax h3,hi⟩)
 |elf ht h=>exact .elf ht h
theorem EO.mono{L L' q h n x w c}(e)(hE:EO D ρ lv L q h n x w c)(hL:∀i∈c,L'[i]? = L[i]?):EO D (ρ++e) lv L' q h n x w c:=by
 obtain⟨vs,cs,h1,h2,h3,rfl,h4⟩:=hE;refine⟨vs,cs,h1,h2,h3,rfl,λf p u b k1 k2 k3 =>?_⟩;have:=h4 f p u b k1 k2 k3;split at this
 grind
 exact this.mono λi hi=>hL i (List.mem_flatten.2 ⟨b,Qax k3,hi⟩)
theorem OR.mono{L L' sl o}(h:OR D ρ lv L sl o)(e)(hL:∀i,sl.has i->o.live->L'[i]? = L[i]?):OR D (ρ++e) lv L' sl o:=by
 cases o with
 |cells cs=>
  obtain⟨i,vs,h1,h2,h3⟩:=h
  exact⟨i,vs,h1,by rw[hL i (.inl h1) trivial];exact h2,h3.more e⟩
 |acc ty t xs w=>
  obtain⟨h1,h2,h3⟩:=h;refine⟨h1,h2,?_⟩
  cases hk:sl.k with
  |none=>grind
  |some i=>
   rw[hk]at h3;obtain⟨ver,cp,k1,k2⟩:=h3
   exact⟨ver,cp,k1,by rw[hL i (.inl hk) trivial];exact k2⟩
 |siter s pos=>
  obtain⟨i,h1,h2⟩:=h
  exact⟨i,h1,by rw[hL i (.inl h1) trivial];exact h2⟩
 |mp ty t es=>
  obtain⟨i,ms,h1,h2,h4,h3⟩:=h
  exact⟨i,ms,h1,h2,h4,by rw[hL i (.inl h1) trivial];exact h3⟩
 |mit t last es=>
  obtain⟨i,fs,vis,h1,h2,h3,h4⟩:=h
  exact⟨i,fs,vis,h1,h2,by rw[hL i (.inl h1) trivial];exact h3,h4⟩
 |bld ty b=>
  obtain⟨i,a,c,h1,h2,h3,h4⟩:=h
  exact⟨i,a,c,h1,by rw[hL i (.inl h1) trivial];exact h2,h3,VR.more e h4⟩
 |gone=>simp[OR]
 |rig=>exact h
 |deep ty q xs hh=>
  obtain⟨h1,h3⟩:=h;refine⟨h1,?_⟩
  cases hk:sl.k with
  |none=>grind
  |some i=>
   rw[hk]at h3;obtain⟨ver,cp,fps,k1,k2,k3,k4,k5,k6,k7⟩:=h3;refine⟨ver,cp,fps,k1,by rw[hL i (.inl hk) trivial];exact k2,k3,k4,k5,λn x w c a1 a2 a3=>(k6 n x w c a1 a2 a3).mono e λj hj=>hL j (.inr ?_) trivial,k7⟩
   grind[List.mem_flatten]
theorem OR.at{L sl o i}(h:OR D ρ lv L sl o)(hl:o.live)(hk:sl.k=some i):∃a,L[i]? = some (some a):=by
 cases o with
 |cells cs=>
  grind[OR]
 |acc ty t xs w=>
  grind[OR]
 |siter s pos=>
  grind[OR]
 |mp ty t es=>
  grind[OR]
 |mit t last es=>
  grind[OR]
 |bld ty b=>
  grind[OR]
 |gone=>exact hl.elim
 |rig=>grind[OR]
 |deep ty q xs hh=>
  grind[OR]
theorem OR.lt{L sl o i}(h:OR D ρ lv L sl o)(hl:o.live)(hk:sl.k=some i):i<L.length:=by
 obtain⟨a,ha⟩:=h.at hl hk
 grind
theorem TRr.at(hR:TRr D F ρ ts σ){s i o sl}(ho:fnd ts.o s=some o)(hl:o.live)(hs:ρ[s]? = some sl)(hk:sl.has i):∃a,σ.H.L[i]? = some (some a):=by
 rcases hk with hk|hk
 obtain⟨q,h1,h2⟩:=hR.ob s o ho;rw[hs]at h1;cases h1;exact h2.at hl hk;exact(hR.fpl s o sl i ho hl hs hk).2
theorem TRr.lt(hR:TRr D F ρ ts σ){s i o sl}(ho:fnd ts.o s=some o)(hl:o.live)(hs:ρ[s]? = some sl)(hk:sl.has i):i<σ.H.L.length:=by
 obtain⟨a,ha⟩:=hR.at ho hl hs hk
 grind
theorem Slot.y4r{sl:Slot}(h:sl.fp=[]){i}(hk:sl.has i):sl.k=some i:=by
 rcases hk with hk|hk
 exact hk
 grind
theorem TRr.new(hR:TRr D F ρ ts σ)(to)(sl)(H')(hlv:H'.lv=F.lv)(hE:H'.E=F.E)(hlen:σ.H.L.length<=H'.L.length)(hL:∀i,i<σ.H.L.length->H'.L[i]? = σ.H.L[i]?)
  (hk:∀i,sl.k=some i->σ.H.L.length<=i) (hor:OR D (ρ++[sl]) F.lv H'.L sl to) (hfp:sl.fp=[]:=by rfl):TRr D F (ρ++[sl]) (ts.new D to) {σ with H:=H'}:=by
 have hget:(ρ++[sl])[ts.nx]? = some sl:=by rw[<-hR.nx];simp
 have old:∀s o sl',fnd ts.o s=some o->ρ[s]? = some sl'->∀i,sl'.has i->o.live->i<σ.H.L.length:=λs o sl' ho hs i hi hl=>hR.lt ho hl hs hi
 have hlk:∀s o,ts.nx≠s->fnd (ts.new D to).o s=some o->fnd ts.o s=some o:=λs o hne h=>by
  simp_all[TS.new,zz9]
 have hslot:∀s o sl',fnd ts.o s=some o->(ρ++[sl])[s]? = some sl'->ρ[s]? = some sl':=λs o sl' ho h=>by
  obtain⟨q,h1,h2⟩:=hR.ob s o ho
  grind
 refine⟨by simp[TS.new,hR.nx],hR.nt,λj x hj =>?_,λs o ho =>?_,λs s' o o' sl1 sl2 i h1 h2 l1 l2 r1 r2 k1 k2 =>?_,λs o sl1 i h1 l1 r1 k1 =>?_,hlv,hE,hR.e0,hR.d.more _,λi hi =>?_,λj sl hj=>lookup_append (hR.pin j sl hj),λs o sl1 i h1 l1 r1 k1 =>?_,λi s v h1 h2=>(hR.g i s v h1 h2).more _⟩;obtain⟨v,h1,h2⟩:=hR.tm j x hj;exact⟨v,h1,h2.more _⟩;by_cases hs:ts.nx=s
 simp_all[TS.new,zz9]
 obtain⟨q,h1,h2⟩:=hR.ob s o (hlk s o hs ho);exact⟨q,lookup_append h1,h2.mono _ λi hi hl=>hL i (hR.lt (hlk s o hs ho) hl h1 hi)⟩;by_cases hs:ts.nx=s <;> by_cases hs':ts.nx=s'
 rw[<-hs,<-hs'];subst hs;rw[hget]at r1;cases r1;have hq:=hlk s' o' hs' h2;have:=old s' o' sl2 hq (hslot s' o' sl2 hq r2) i k2 l2;have:=hk i (Slot.y4r hfp k1);omega;subst hs';rw[hget]at r2;cases r2;have hq:=hlk s o hs h1;have:=old s o sl1 hq (hslot s o sl1 hq r1) i k1 l1;have:=hk i (Slot.y4r hfp k2);omega;have q1:=hlk s o hs h1;have q2:=hlk s' o' hs' h2
 exact hR.inj s s' o o' sl1 sl2 i q1 q2 l1 l2 (hslot s o sl1 q1 r1) (hslot s' o' sl2 q2 r2) k1 k2;by_cases hs:ts.nx=s;subst hs;rw[hget]at r1;cases r1;intro ho;have:=(hR.out i ho).1;have:=hk i (Slot.y4r hfp k1);omega;have q1:=hlk s o hs h1;exact hR.mine s o sl1 i q1 l1 (hslot s o sl1 q1 r1) k1;obtain⟨h1,h2⟩:=hR.out i hi
 grind
 by_cases hs:ts.nx=s
 grind
 have q1:=hlk s o hs h1;have r:=hslot s o sl1 q1 r1;obtain⟨hne,a,ha⟩:=hR.fpl s o sl1 i q1 l1 r k1
 grind
theorem z05t{L:List (Option kzg)}{i j:Nat}(h:∃a,L[j]? = some (some a))(ao):∃a,(L.set i (some ao))[j]? = some (some a):=by
 grind
theorem TRr.upd(hR:TRr D F ρ ts σ){s i o0 sl}(hs:fnd ts.o s=some o0)(hl:o0.live)(hr:ρ[s]? = some sl)(hk:sl.k=some i)(to)(ao)
  (hor:OR D ρ F.lv (σ.H.L.set i (some ao)) sl to):TRr D F ρ (ts.set D s to) {σ with H:={σ.H with L:=σ.H.L.set i (some ao)}}:=by
 have hlk:∀s' o,s≠s'->fnd (ts.set D s to).o s'=some o->fnd ts.o s'=some o:=λs' o hne h=>by
  simp_all[TS.set,zz9]
 have live':∀s' o,fnd (ts.set D s to).o s'=some o->o.live->∃o',fnd ts.o s'=some o'∧o'.live:=λs' o h l=>by
  grind
 refine⟨hR.nx,hR.nt,hR.tm,λs' o ho =>?_,λs1 s2 o1 o2 sl1 sl2 i' h1 h2 l1 l2 r1 r2 k1 k2 =>?_,λs1 o1 sl1 i1 h1 l1 r1 k1 =>?_,hR.lv,hR.E,hR.e0,hR.d,λj hj =>?_,hR.pin,λs1 o1 sl1 i1 h1 l1 r1 k1 =>?_,hR.g⟩;by_cases he:s=s'
 simp_all[TS.set,zz9]
 have hq:=hlk s' o he ho;obtain⟨q,h1,h2⟩:=hR.ob s' o hq;refine⟨q,h1,?_⟩;have:=h2.mono (L':=σ.H.L.set i (some ao)) [] λj hj hl' =>?_
 simpa using this
 have hne:i≠j:=λe=>by
  subst e;exact he (hR.inj s s' o0 o sl q i hs hq hl hl' hr h1 (.inl hk) hj)
 grind
 obtain⟨o1',q1,l1'⟩:=live' s1 o1 h1 l1;obtain⟨o2',q2,l2'⟩:=live' s2 o2 h2 l2;exact hR.inj s1 s2 o1' o2' sl1 sl2 i' q1 q2 l1' l2' r1 r2 k1 k2;obtain⟨o1',q1,l1'⟩:=live' s1 o1 h1 l1;exact hR.mine s1 o1' sl1 i1 q1 l1' r1 k1;obtain⟨h1,h2⟩:=hR.out j hj;refine⟨by simpa using h1,?_⟩;have hne:i≠j:=λe=>by subst e;exact hR.mine s o0 sl i hs hl hr (.inl hk) hj
 grind
 obtain⟨o1',q1,l1'⟩:=live' s1 o1 h1 l1;have hq:=hR.fpl s1 o1' sl1 i1 q1 l1' r1 k1
 grind
theorem TRr.move(hR:TRr D F ρ ts σ){s i o0 sl}(hs:fnd ts.o s=some o0)(hl:o0.live)(hr:ρ[s]? = some sl)(hk:sl.k=some i)(to)(ao)(sl')(hk':sl'.k=some i)
  (hor:OR D (ρ++[sl']) F.lv (σ.H.L.set i (some ao)) sl' to) (hfp:∀x,x∈sl'.fp->x∈sl.fp:=by exact λ_ h=>by cases h):TRr D F (ρ++[sl']) ((ts.new D to).set D s .gone) {σ with H:={σ.H with L:=σ.H.L.set i (some ao)}}:=by
 have hsub:∀x,sl'.has x->sl.has x:=λx h=>h.elim (λh=>.inl (by rw[<-h,hk',hk])) λh=>.inr (hfp x h)
 have hget:(ρ++[sl'])[ts.nx]? = some sl':=by rw[<-hR.nx];simp
 have hlk:∀s' o,o.live->fnd ((ts.new D to).set D s .gone).o s'=some o->s≠s'∧((ts.nx=s'∧o=to)∨(ts.nx≠s'∧fnd ts.o s'=some o)):=λs' o hlo h=>by
  by_cases he:s=s';subst he;simp[TS.set,zz9,Qbn]at h;subst h;exact hlo.elim;simp[TS.set,TS.new,zz9,Qbr he]at h;by_cases hn:ts.nx=s'
  simp_all
  grind
 have hslot:∀s o sl1,fnd ts.o s=some o->(ρ++[sl'])[s]? = some sl1->ρ[s]? = some sl1:=λs o sl1 ho h=>by
  obtain⟨q,h1,h2⟩:=hR.ob s o ho
  grind
 refine⟨by simp[TS.new,TS.set,hR.nx],hR.nt,λj x hj =>?_,λs' o ho =>?_,λs1 s2 o1 o2 sl1 sl2 i' h1 h2 l1 l2 r1 r2 k1 k2 =>?_,λs1 o1 sl1 i1 h1 l1 r1 k1 =>?_,hR.lv,hR.E,hR.e0,hR.d.more _,λj hj =>?_,λj sl hj=>lookup_append (hR.pin j sl hj),λs1 o1 sl1 i1 h1 l1 r1 k1 =>?_,λi s v h1 h2=>(hR.g i s v h1 h2).more _⟩;obtain⟨v,h1,h2⟩:=hR.tm j x hj;exact⟨v,h1,h2.more _⟩;by_cases hlo:o.live
 rcases(hlk s' o hlo ho).2 with ⟨hn,rfl⟩|⟨hn,hq⟩
 grind
 obtain⟨q,h1,h2⟩:=hR.ob s' o hq;refine⟨q,lookup_append h1,h2.mono [sl'] λj hj hl' =>?_⟩
 have hne:i≠j:=λe=>by
  subst e;exact(hlk s' o hlo ho).1 (hR.inj s s' o0 o sl q i hs hq hl hl' hr h1 (.inl hk) hj)
 grind
 have hg:o = .gone:=by cases o <;> first|rfl|exact(hlo trivial).elim
 subst hg;by_cases he:s=s'
 grind[OR]
 simp[TS.set,TS.new,zz9,Qbr he]at ho;by_cases hn:ts.nx=s'
 grind
 rw[Qbr hn]at ho;obtain⟨q,h1,h2⟩:=hR.ob s' _ ho
 grind[OR]
 obtain⟨n1,c1⟩:=hlk s1 o1 l1 h1;obtain⟨n2,c2⟩:=hlk s2 o2 l2 h2
 rcases c1 with ⟨e1,rfl⟩|⟨e1,q1⟩ <;> rcases c2 with ⟨e2,rfl⟩|⟨e2,q2⟩
 rw[<-e1,<-e2];subst e1;rw[hget]at r1;cases r1;exact(n2 (hR.inj s s2 o0 o2 sl sl2 i' hs q2 hl l2 hr (hslot _ _ _ q2 r2) (hsub _ k1) k2)).elim;subst e2;rw[hget]at r2;cases r2;exact(n1 (hR.inj s s1 o0 o1 sl sl1 i' hs q1 hl l1 hr (hslot _ _ _ q1 r1) (hsub _ k2) k1)).elim;exact hR.inj s1 s2 o1 o2 sl1 sl2 i' q1 q2 l1 l2 (hslot _ _ _ q1 r1) (hslot _ _ _ q2 r2) k1 k2;obtain⟨n1,c1⟩:=hlk s1 o1 l1 h1
 rcases c1 with ⟨e1,rfl⟩|⟨e1,q1⟩
 subst e1;rw[hget]at r1;cases r1;exact hR.mine s o0 sl i1 hs hl hr (hsub _ k1);exact hR.mine s1 o1 sl1 i1 q1 l1 (hslot _ _ _ q1 r1) k1;obtain⟨h1,h2⟩:=hR.out j hj;refine⟨by simpa using h1,?_⟩;have hne:i≠j:=λe=>by subst e;exact hR.mine s o0 sl i hs hl hr (.inl hk) hj
 grind
 obtain⟨n1,c1⟩:=hlk s1 o1 l1 h1
 rcases c1 with ⟨e1,rfl⟩|⟨e1,q1⟩
 subst e1;rw[hget]at r1;cases r1;have hq:=hR.fpl s o0 sl i1 hs hl hr (hfp _ k1)
 grind
 have hq:=hR.fpl s1 o1 sl1 i1 q1 l1 (hslot _ _ _ q1 r1) k1;exact⟨hq.1,z05t hq.2 ao⟩
theorem TRr.drop(hR:TRr D F ρ ts σ)(s)(hs:s<ts.nx):TRr D F ρ (ts.set D s .gone) σ:=by
 have hlk:∀s' o,o.live->fnd (ts.set D s .gone).o s'=some o->fnd ts.o s'=some o:=λs' o hl h=>by
  simp[TS.set,zz9]at h;split at h;cases h;exact hl.elim;exact h
 refine⟨hR.nx,hR.nt,hR.tm,λs' o ho =>?_,λs1 s2 o1 o2 sl1 sl2 i' h1 h2 l1 l2=>hR.inj s1 s2 o1 o2 sl1 sl2 i' (hlk _ _ l1 h1) (hlk _ _ l2 h2) l1 l2,λs1 o1 sl1 i1 h1 l1=>hR.mine s1 o1 sl1 i1 (hlk _ _ l1 h1) l1,hR.lv,hR.E,hR.e0,hR.d,hR.out,hR.pin,λs1 o1 sl1 i1 h1 l1=>hR.fpl s1 o1 sl1 i1 (hlk _ _ l1 h1) l1,hR.g⟩;simp[TS.set,zz9]at ho;split at ho;rename_i he;cases ho;have:s<ρ.length:=by rw[hR.nx];exact hs
 simp_all[OR]
 exact hR.ob s' o ho
mutual
theorem VR.ren{s s':Nat}{sl sl':Slot}(h1:ρ[s]? = some sl)(h2:ρ[s']? = some sl')(he:sl'.v=sl.v):∀{x:TV D.T}{v:V},VR D ρ lv x v->VR D ρ lv (TV.ren D s s' x) v
 |.own j,v,h=>by
  simp only[TV.ren];split;rename_i hj;subst hj;simp only[VR]at h ⊢;obtain⟨q,k1,k2,k3⟩:=h
  rw[h1]at k1;injection k1 with k1;subst k1
  exact⟨sl',h2,by rw[he];exact k2,k3⟩
  exact h
 |.dp j i off,v,h=>by
  simp only[TV.ren];split;rename_i hj;subst hj;simp only[VR]at h ⊢;obtain⟨q,j',ver,m,k1,k2⟩:=h
  rw[h1]at k1;injection k1 with k1;subst k1
  exact⟨sl',j',ver,m,h2,by rw[he];exact k2⟩
  exact h
 |.bsl q cs,v,h=>by simp only[TV.ren,VR]at h ⊢;obtain⟨vs,k1,k2⟩:=h;exact⟨vs,k1,VRL.ren h1 h2 he k2⟩
 |.agg cs,v,h=>by simp only[TV.ren,VR]at h ⊢;obtain⟨vs,k1,k2⟩:=h;exact⟨vs,k1,VRL.ren h1 h2 he k2⟩
 |.tup cs,v,h=>by simp only[TV.ren,VR]at h ⊢;obtain⟨vs,k1,k2⟩:=h;exact⟨vs,k1,VRL.ren h1 h2 he k2⟩
 |.any,v,h=>by simpa only[TV.ren]using h
 |.bool b,v,h=>by simpa only[TV.ren]using h
 |.int k n,v,h=>by simpa only[TV.ren]using h
 |.str b,v,h=>by simpa only[TV.ren]using h
 |.nilp,v,h=>by simpa only[TV.ren]using h
 |.nils,v,h=>by simpa only[TV.ren]using h
 |.mapn,v,h=>by simpa only[TV.ren]using h
 |.nilf,v,h=>by simpa only[TV.ren]using h
 |.nili,v,h=>by simpa only[TV.ren]using h
 |.sl t xs fl,v,h=>by simpa only[TV.ren]using h
 |.ptr j off,v,h=>by simpa only[TV.ren]using h
 |.bp j off,v,h=>by simpa only[TV.ren]using h
 |.osl j lo,v,h=>by simpa only[TV.ren]using h
 |.map j,v,h=>by simpa only[TV.ren]using h
 |.mc t es,v,h=>by simpa only[TV.ren]using h
 |.ref cs off,v,h=>by simpa only[TV.ren]using h
 |.ap j t i x off,v,h=>by simpa only[TV.ren]using h
 |.fn f a b,v,h=>by simpa only[TV.ren]using h
 |.iface t x,v,h=>by simpa only[TV.ren]using h
theorem VRL.ren{s s':Nat}{sl sl':Slot}(h1:ρ[s]? = some sl)(h2:ρ[s']? = some sl')(he:sl'.v=sl.v):∀{cs:List (TV D.T)}{vs:List V},VRL D ρ lv cs vs->VRL D ρ lv (TV.zxj D s s' cs) vs
 |[],vs,h=>by simpa only[TV.zxj]using h
 |c::cs,vs,h=>by simp only[TV.zxj,VRL]at h ⊢;obtain⟨v,r,k1,k2,k3⟩:=h;exact⟨v,r,k1,VR.ren h1 h2 he k2,VRL.ren h1 h2 he k3⟩
end
theorem yvu{ρ ρ'}{g:List (Option Nat)}{f}{i s:Nat}{v}(hf:∀s0 s',f (.own s0) = .own s'->∀u,VR D ρ lv (.own s0) u->VR D ρ' lv (.own s') u)(hg:∀s0,g[i]? = some (some s0)->VR D ρ lv (.own s0) v)(h:(g.map (gmap D f))[i]? = some (some s)):VR D ρ' lv (.own s) v:=by
 rw[Qan,Qaf]at h;obtain⟨o,h1,h2⟩:=h
 cases o with
 |none=>cases h2
 |some s0=>
  grind[gmap]
theorem TRr.zdi(hR:TRr D F ρ ts σ)(f)(hf:∀x v,VR D ρ F.lv x v->VR D ρ F.lv (f x) v):TRr D F ρ (ts.zdi D f) σ:=by
 have hlive:∀o:TO D.T,(TO.map D f o).live->o.live:=λo h=>by cases o <;> first|exact h|trivial
 have hob:∀s o,fnd (ts.zdi D f).o s=some o->∃o',fnd ts.o s=some o'∧o=TO.map D f o':=λs o h=>by
  simp[TS.zdi]at h;rw[zlp (TO.map D f),Qaf]at h
  grind
 refine⟨hR.nx,hR.nt,λj x hj =>?_,λs o ho =>?_,λs1 s2 o1 o2 sl1 sl2 i h1 h2 l1 l2 =>?_,λs1 o1 sl1 i h1 l1 =>?_,hR.lv,hR.E,hR.e0,hR.d.imp _ (λxs vs k=>VRL.of (by simp[k.length]) λj c v hc hv=>by
  rw[Qan,Qaf]at hc;obtain⟨c0,hc0,rfl⟩:=hc
  exact hf _ _ (k.y1r hc0 hv)),hR.out,hR.pin,λs1 o1 sl1 i h1 l1 =>?_,λi s v h1 h2=>yvu (λs0 s' e u hu=>by grind) (λs0 e=>hR.g i s0 v e h2) h1⟩
 simp[TS.zdi]at hj;rw[zlp f,Qaf]at hj;obtain⟨y,hy,rfl⟩:=hj;obtain⟨v,h1,h2⟩:=hR.tm j y hy
 grind
 obtain⟨o',h1,rfl⟩:=hob s o ho;obtain⟨sl,k1,k2⟩:=hR.ob s o' h1;refine⟨sl,k1,?_⟩
 cases o' with
 |cells cs=>
  simp[OR]at k2 ⊢;obtain⟨i,vs,q1,q2,q3⟩:=k2;refine⟨i,vs,q1,q2,.of (by simp[q3.length]) λj c v hc hv =>?_⟩;rw[Qan,Qaf]at hc;obtain⟨c',hc',rfl⟩:=hc
  exact hf _ _ (q3.y1r hc' hv)
 |acc ty t xs w=>exact k2
 |siter s pos=>exact k2
 |rig=>exact k2
 |mp ty t es=>exact k2
 |mit t last es=>exact k2
 |bld ty b=>
  cases b with
  |none=>exact k2
  |some q=>
   simp only[OR]at k2;obtain⟨i,a,c,q1,q2,q3,q4⟩:=k2;have h5:VR D ρ F.lv (f (.own q)) c:=hf _ _ q4;simp[TO.map];split;rename_i s' hs';rw[hs']at h5;simp only[OR];exact⟨i,a,c,q1,q2,q3,h5⟩
   simp[OR]
 |gone=>exact k2
 |deep ty q xs hh=>
  cases hh with
  |none=>exact k2
  |some p=>
   obtain⟨n,c,s0⟩:=p;simp[TO.map];split;rename_i s1 hs1;simp only[OR]at k2 ⊢;refine⟨k2.1,?_⟩;have k3:=k2.2
   cases hk:sl.k with
   |none=>grind
   |some j=>
    rw[hk]at k3;obtain⟨ver,cp,fps,a1,a2,a3,a4,a5,a6,a7⟩:=k3;refine⟨ver,cp,fps,a1,a2,a3,a4,a5,λm x w b e1 e2 e3 =>?_,λn' f' s' e =>?_⟩;obtain⟨vs,cs,b1,b2,b3,b4,b5⟩:=a6 m x w b e1 e2 e3;refine⟨vs,cs,b1,b2,b3,b4,λf p u d g1 g2 g3 =>?_⟩;have:=b5 f p u d g1 g2 g3;unfold z2h at this ⊢;simp at this ⊢;split at this;rename_i s2 hs2;split at hs2;rename_i hc;cases hs2;rw[Qbq hc];obtain⟨d1,d2,hlf,sl2,d3,d4⟩:=this
    have h5:=hf (.own s0) u (by grind[VR])
    grind[VR]
    cases hs2
    simp_all[Qbr]
    simp[Qbs]at e;obtain⟨rfl,rfl,rfl⟩:=e;exact a7 n c s0 rfl
   simp[OR]
 obtain⟨o1',q1,rfl⟩:=hob s1 o1 h1;obtain⟨o2',q2,rfl⟩:=hob s2 o2 h2;exact hR.inj s1 s2 o1' o2' sl1 sl2 i q1 q2 (hlive _ l1) (hlive _ l2);obtain⟨o1',q1,rfl⟩:=hob s1 o1 h1;exact hR.mine s1 o1' sl1 i q1 (hlive _ l1);obtain⟨o1',q1,rfl⟩:=hob s1 o1 h1;exact hR.fpl s1 o1' sl1 i q1 (hlive _ l1)
theorem TRr.put(hR:TRr D F ρ ts σ){dst x v ts'}(h:ts.put D dst x=some ts')(hx:VR D ρ F.lv x v):TRr D F ρ ts' (σ.put dst v):=by
 cases dst with
 |none=>simp[TS.put,Qbn]at h;subst h;exact hR
 |some d=>
  simp only[TS.put]at h;split at h;rename_i hd;cases h;refine⟨hR.nx,by simp[St.put,hR.nt],λj y hj =>?_,hR.ob,hR.inj,hR.mine,hR.lv,hR.E,hR.e0,hR.d,hR.out,hR.pin,hR.fpl,hR.g⟩;rw[zz9]at hj;simp[St.put];split at hj;rename_i he;injection hj with hj;subst hj;subst he;exact⟨v,by rw[Qaq (by rw[hR.nt];exact hd)],hx⟩;rename_i he;obtain⟨u,h1,h2⟩:=hR.tm j y hj
  grind
  cases h
theorem TRr.tell(hR:TRr D F ρ ts σ){d x v}(h:σ.t[d]? = some v)(hx:VR D ρ F.lv x v):TRr D F ρ {ts with t:=(d,x)::ts.t} σ:=by
 refine⟨hR.nx,hR.nt,λj y hj =>?_,hR.ob,hR.inj,hR.mine,hR.lv,hR.E,hR.e0,hR.d,hR.out,hR.pin,hR.fpl,hR.g⟩;rw[zz9]at hj;split at hj
 grind
 exact hR.tm j y hj
end
section
variable {P : Program} {D : Dat}
theorem y4j:∀{l cs z},zb3 D l cs = .ok z->∀(j) (p),HL.nth l z j=some p->∃c,cs[j]? = some c∧zj4 D p.1 c = .ok p.2
 |[],cs,z,h,j,p,hp=>by simp[HL.nth]at hp
 |t::l,[],z,h,j,p,hp=>by simp[zb3]at h
 |t::l,c::cs,z,h,j,p,hp=>by
  simp[zb3]at h;split at h;rename_i y hy;split at h;rename_i ys hys;cases h
  cases j with
  |zero=>simp[HL.nth,Qbn]at hp;grind
  |succ j=>
   obtain⟨c',h1,h2⟩:=y4j hys j p hp
   grind
  cases h;cases h;cases h;cases h
theorem ypm{t x y}(h:zj4 D t (D.leaf t x) = .ok y):y=x:=by
 cases t with
 |bool=>grind[Dat.leaf,zj4]
 |int k=>simp_all[Dat.leaf,zj4]
 |str=>grind[Dat.leaf,zj4]
 |nat=>simp[zj4]at h
 |st i=>simp[zj4]at h
 |sl t=>
  simp_all[Dat.leaf,zj4,zer,FR.of]
end
theorem zet:∀(l:List (List Nat)) (n) (c a c'),l[n]? = some c->c.Perm (a++c')->l.flatten.Perm (a++(l.set n c').flatten)
 |[],n,c,a,c',h,_=>by simp at h
 |x::l,0,c,a,c',h,hp=>by
  grind
 |x::l,n+1,c,a,c',h,hp=>by
  refine((zet l n c a c' (by simpa using h) hp).append_left x).trans ?_
  grind
section
variable {P : Program} {D : Dat} {F : Fr} {ρ : List Slot} {ts : TS D.T} {σ : St} {lv : Nat} {L : List (Option kzg)}
def zqc(D:Dat)(ρ:List Slot)(lv:Nat)(L:List (Option kzg))(q f:Nat)(hole:Option (Nat×Nat))(p:(t:DTy)×t.S D.T)(u:V):Prop :=
 match (match hole with|some (f',c)=>(if f'=f then some c else none)|none=>none)with
 |some c=>(D.ow q f).isSome=true∧u.leaf=true∧∃sl,ρ[c]? = some sl∧u=sl.v
 |none=>DO D lv L (ywn (D.ow q f)) p.1 p.2 u []
theorem zpl{q:Nat}:∀{l:List DTy}{cs:List (TV D.T)}{vs:List V}{f0:Nat}{r:HL D.T l×Option (Nat×Nat)},y8d D q l cs f0 = .ok r->VRL D ρ lv cs vs ->
  cs.length=l.length∧(∀g c,r.2=some (g,c)->f0<=g∧g<f0+l.length)∧∀(f:Nat) (p:(t:DTy)×t.S D.T) (u:V),HL.nth l r.1 f=some p->vs[f]? = some u->zqc D ρ lv L q (f0+f) r.2 p u
 |[],[],vs,f0,r,h,hv=>by
  cases h
  exact⟨rfl,λg c e=>(by cases e),λf p u hp=>(by simp[HL.nth]at hp)⟩
 |[],c::cs,vs,f0,r,h,hv=>by cases h
 |t::l,[],vs,f0,r,h,hv=>by cases h
 |t::l,c::cs,vs,f0,r,h,hv=>by
  simp only[VRL]at hv;obtain⟨v,us,rfl,hv1,hv2⟩:=hv;unfold y8d at h;split at h;rename_i how;split at h;rename_i x hx;split at h;rename_i r' hr';injection h with h;subst h;obtain⟨a1,a2,a3⟩:=zpl hr' hv2;refine⟨by simp[a1],λg c' e=>by have:=a2 g c' e;simp only[List.length_cons];omega,λf p u hp hu =>?_⟩
  cases f with
  |zero=>
   simp only[HL.nth,Qbn]at hp;simp only[Qbw,Qbn]at hu;subst hp;subst hu;unfold zqc
   have hno:(match r'.2 with|some (f',c)=>(if f'=f0+0 then some c else none)|none=>none)=none:=by
    cases hh:r'.2 with
    |none=>rfl
    |some g=>have:=a2 g.1 g.2 hh;simp only;rw[Qbr (by omega)]
   simp only[hno];rw[Nat.add_zero,how]
   exact .dat (zlv hx hv1)
  |succ f=>
   have:=a3 f p u (by simpa[HL.nth]using hp) (by simpa using hu);rw[show f0+(f+1)=f0+1+f by omega];exact this
  cases h;cases h;cases h;cases h;rename_i ty how;split at h;rename_i r' hr';obtain⟨a1,a2,a3⟩:=zpl hr' hv2
  have hno:(match r'.2 with|some (f',c)=>(if f'=f0+0 then some c else none)|none=>none)=none:=by
   cases hh:r'.2 with
   |none=>rfl
   |some g=>have:=a2 g.1 g.2 hh;simp only;rw[Qbr (by omega)]
  split at h;rename_i x hn;injection h with h;subst h;refine⟨by simp[a1],λg c' e=>by have:=a2 g c' e;simp only[List.length_cons];omega,λf p u hp hu =>?_⟩
  cases f with
  |zero=>
   simp only[HL.nth,Qbn]at hp;simp only[Qbw,Qbn]at hu;subst hp;subst hu;unfold zqc;simp only[hno];rw[Nat.add_zero,how];unfold yyk at hn;split at hn;injection hn with hn;injection hn with hn;subst hn;simp only[VR]at hv1;subst hv1;exact .nil (.nil _) (.inl rfl);injection hn with hn;injection hn with _ hn;cases hn
   cases hn
  |succ f=>
   have:=a3 f p u (by simpa[HL.nth]using hp) (by simpa using hu);rw[show f0+(f+1)=f0+1+f by omega];exact this
  rename_i x c' hn;split at h;rename_i hr2;injection h with h;subst h;refine⟨by simp[a1],λg c2 e=>(by injection e with e;injection e with e1 e2;simp only[List.length_cons];omega),λf p u hp hu =>?_⟩
  cases f with
  |zero=>
   simp only[HL.nth,Qbn]at hp;simp only[Qbw,Qbn]at hu;subst hp;subst hu;unfold zqc;simp only[Nat.add_zero,if_true];unfold yyk at hn;split at hn;injection hn with hn;injection hn with _ hn;cases hn;injection hn with hn;injection hn with _ hn;injection hn with hn;subst hn;simp only[VR]at hv1;obtain⟨sl,e1,e2,e3⟩:=hv1;exact⟨by rw[how];rfl,e3,sl,e1,e2⟩
   cases hn
  |succ f=>
   have:=a3 f p u (by simpa[HL.nth]using hp) (by simpa using hu);rw[show f0+(f+1)=f0+1+f by omega];unfold zqc at this ⊢;rw[hr2]at this;simp only at this ⊢;rw[Qbr (by omega)];exact this
  cases h;cases h;cases h;cases h
theorem z01t{q n x hole i us}(hD:D.Ok P)(hi:i.toNat=n)(hl:us.length=(D.fl q).length)(h:∀(f:Nat) (p:(t:DTy)×t.S D.T) (u:V),HL.nth (D.fl q) x f=some p->us[f]? = some u->zqc D ρ lv L q f hole p u) :
  EO D ρ lv L q (hole.map λp=>(i,p.1,p.2)) n (D.make q x) (.agg us) []:=by
 have hr2:([]:List Nat)=(List.replicate (D.fl q).length ([]:List Nat)).flatten:=by
  grind[List.flatten_eq_nil_iff]
 refine⟨us,List.replicate (D.fl q).length [],rfl,hl,by simp,hr2,λf p u b h1 h2 h3 =>?_⟩;rw[hD.getMake]at h1
 have hb:b=[]:=by
  grind
 subst hb;have:=h f p u h1 h2;unfold zqc at this
 cases hole with
 |none=>exact this
 |some g=>
  obtain⟨f',c⟩:=g;simp[z2h]at this ⊢;by_cases hf:f'=f
  simp_all
  simp_all
theorem EO.yc3{q n x w c}(h:EO D ρ lv L q none n x w c)(hh)(hn:∀n' f' s',hh=some (n',f',s')->n'.toNat≠n):EO D ρ lv L q hh n x w c:=by
 obtain⟨vs,cs,a1,a2,a3,a4,a5⟩:=h;refine⟨vs,cs,a1,a2,a3,a4,λf p u b e1 e2 e3 =>?_⟩;have:=a5 f p u b e1 e2 e3
 have hno:z2h hh n f=none:=by
  cases hh with
  |none=>rfl
  |some g=>obtain⟨n',f',s'⟩:=g;simp[z2h];grind
 rw[hno];exact this
end
section
variable {P : Program} {D : Dat} {F : Fr} {ρ : List Slot} {ts : TS D.T} {σ : St} {lv : Nat}
theorem yre{H f op v}(h:pv P H f op=some v):ox P H f op=some (v,H):=by
 cases op
 case call c=>
  grind[pv,ox,zda]
 all_goals first
  |(unfold ox;simp[h,Qbk];done)
  |(simp[pv]at h;done)
theorem zqy(H:Heap)(hlv:H.lv=F.lv)(hE:H.E=F.E):H=⟨F.lv,H.L,F.E⟩:=by cases H;grind
theorem TRr.y6y(hR:TRr D F ρ ts σ)(i)(o):σ.H.set F.lv i o={σ.H with L:=σ.H.L.set i (some o)}:=by
 unfold Heap.set;rw[Qbq hR.lv.symm]
variable (hD : D.Ok P)
include hD
theorem TRr.yd2(hR:TRr D F ρ ts σ){cs vs}(h:VRL D ρ F.lv cs vs) :
  TRr D F (ρ++[⟨.any,some σ.H.L.length,[],[]⟩]) (ts.new D (.cells cs)) {σ with H:=σ.H.push (.cells vs)}∧VR D (ρ++[⟨.any,some σ.H.L.length,[],[]⟩]) F.lv (.ptr ts.nx 0) (.ptr σ.H.lv σ.H.L.length 0):=by
 refine⟨hR.new _ _ _ hR.lv hR.E (by simp[Heap.push]) (λi hi=>by grind[Heap.push]) (λi hi=>by grind) ?_,?_⟩;simp only[OR];exact⟨σ.H.L.length,vs,rfl,by simp[Heap.push],h.more _⟩;exact⟨⟨.any,some σ.H.L.length,[],[]⟩,σ.H.L.length,by rw[<-hR.nx];simp,rfl,by rw[hR.lv]⟩
omit hD in
theorem DR.one{t x v}(h:DR D t x v)(ht:∀i,t ≠ .st i)(hn:t ≠ .nat):v.cells=[v]∧v.leaf=true∧(∀c,zcc v [c]=c)∧∀c:V,c.leaf=true->fits v [c]=true:=by
 cases h with
 |st=>exact(ht _ rfl).elim
 |enc=>exact(ht _ rfl).elim
 |nat=>exact(hn rfl).elim
 |_=>exact⟨rfl,rfl,λ_=>rfl,λc hc=>hc⟩
theorem DR.zcc{t y z w vx x off}(hw:DR D t y w)(hx:VR D ρ lv x vx)(hsol:x.kzh=true)(hoff:off+x.cells.length<=(D.tv t y).cells.length)
  (hz:asD D t (match D.tv t y with| .agg cs'=>.agg (zjh cs' off x.cells)|_=>x) = .ok z) (ht:t ≠ .nat) :
  DR D t z (Go.Ab.zcc w (kzt w.cells off vx.cells))∧fits w (kzt w.cells off vx.cells)=true∧off+vx.cells.length<=w.cells.length:=by
 have hc:=VR.ymw (ρ:=ρ) (lv:=lv) hD hw;have hxc:=hx.cells hsol;have hlen:=hxc.length;have hlen2:=hc.length;refine⟨?_,?_,by omega⟩
 all_goals
  by_cases hst:∃i,t = .st i;obtain⟨i,rfl⟩:=hst;obtain⟨us,rfl,k1,k2⟩:=DR.agg hD hw
  first
   |rfl
   |(simp[Dat.tv]at hz
     refine zj0 (ρ:=ρ) (lv:=lv) hD hz ?_;simp only[VR]
     exact⟨_,rfl,VRL.kzt (by grind[Dat.tv,TV.cells]) hxc off⟩)
  have hne:=λi e=>hst ⟨i,e⟩
  have hnagg:(match D.tv t y with| .agg cs'=>TV.agg (zjh cs' off x.cells)|_=>x)=x:=by
   cases t with
   |st i=>grind
   |_=>rfl
  rw[hnagg]at hz;have hd:=zj0 hD hz hx;obtain⟨a1,a2,a3,a4⟩:=hw.one hne ht;obtain⟨b1,b2,b3,b4⟩:=hd.one hne ht;have:kzt [w] 0 [vx]=[vx]:=rfl
  grind
theorem yuo(hR:TRr D F ρ ts σ){s j ty q off i xs h sl ver cp}{fps:List (List Nat)}(ho:fnd ts.o s=some (.deep ty q xs h))(h1:ρ[s]? = some sl)(hk:sl.k=some j)
  (q1:sl.ws.length=xs.length) (e1:sl.v = .hs F.lv j ver 0 sl.ws.length false) (e2:σ.H.L[j]? = some (some (.arr ver ty (D.len (.st q)) sl.ws cp))) (e3:fps.length=xs.length) (e4:sl.fp=fps.flatten) (e5:sl.fp.Nodup)
  (e6:∀(n:Nat) (x:D.T q) (w:V) (c:List Nat),xs[n]? = some x->sl.ws[n]? = some w->fps[n]? = some c->EO D ρ F.lv σ.H.L q h n x w c) (hh:h=none∨∃c',h=some (i,off,c')) {y} (p1:0<=i) (p2:xs[i.toNat]? = some y) (how:(D.ow q off).isSome=true)
  {c slc} (hc:ρ[c]? = some slc) (hcl:slc.v.leaf=true) {vs} {cs:List (List Nat)}(b1:sl.ws[i.toNat]? = some (.agg vs)) (b2:vs.length=(D.fl q).length) (b3:cs.length=(D.fl q).length) (b4:fps[i.toNat]? = some cs.flatten) (hoff:off<(D.fl q).length)
  (b5:∀(f:Nat) (p:(t:DTy)×t.S D.T) (u:V) (b:List Nat),HL.nth (D.fl q) (D.get q y) f=some p->vs[f]? = some u->cs[f]? = some b->f≠off->DO D F.lv σ.H.L (ywn (D.ow q f)) p.1 p.2 u b) :
  TRr D F (ρ++[⟨sl.v,some j,sl.ws.set i.toNat (.agg (vs.set off slc.v)),(fps.set i.toNat (cs.set off []).flatten).flatten⟩]) (ts.y5n D s (.deep ty q xs (some (i,off,c)))) {σ with H:={σ.H with L:=σ.H.L.set j (some (.arr ver ty (D.len (.st q)) (sl.ws.set i.toNat (.agg (vs.set off slc.v))) cp))}}:=by
 have hlt:=(Qaa.1 p2).1;have hjl:=(Qaa.1 e2).1;have perm0:sl.fp.Perm ((cs[off]'(by omega))++(fps.set i.toNat (cs.set off []).flatten).flatten):=by grind[zet]
 have hnd:=(List.nodup_append.1 (perm0.nodup_iff.1 e5)).2.1;have hin2:∀n,n∈(fps.set i.toNat (cs.set off []).flatten).flatten->n∈sl.fp:=λn h=>perm0.mem_iff.2 (List.mem_append_right _ h)
 let ws':=sl.ws.set i.toNat (.agg (vs.set off slc.v))
 let sl':Slot:=⟨sl.v,some j,ws',(fps.set i.toNat (cs.set off []).flatten).flatten⟩
 have hL':∀n∈sl.fp,(σ.H.L.set j (some (.arr ver ty (D.len (.st q)) ws' cp)))[n]? = σ.H.L[n]? := λn hn=>by
  rw[Qam (λe=>(hR.fpl s _ sl n ho trivial h1 hn).1 (by rw[hk,e]))]
 have hor:OR D (ρ++[sl']) F.lv (σ.H.L.set j (some (.arr ver ty (D.len (.st q)) ws' cp))) sl' (.deep ty q xs (some (i,off,c))):=by
  simp only[OR];refine⟨by simp[sl',ws',q1],ver,cp,fps.set i.toNat (cs.set off []).flatten,by simp[sl',ws',e1],by simp[sl',hjl],by simpa using e3,rfl,hnd,λm x w' c' m1 m2 m3 =>?_,λn' f' s' e =>?_⟩;have hcL:=λn hn=>hL' n (hin2 n (List.mem_flatten.2 ⟨c',Qax m3,hn⟩))
  refine EO.mono (L:=σ.H.L) [sl'] ?_ hcL;by_cases hm:i.toNat=m;subst hm;rw[p2]at m1;cases m1;rw[Qaq (by omega)]at m3;cases m3;simp[sl',ws']at m2;rw[Qaq (by omega)]at m2;cases m2;refine⟨vs.set off slc.v,cs.set off [],rfl,by simpa using b2,by simpa using b3,rfl,λf' p' u' b' r1 r2 r3 =>?_⟩;by_cases hff:off=f';subst hff
  rw[show z2h (some (i,off,c)) i.toNat off=some c by simp[z2h]];rw[Qaq (by omega)]at r2 r3;injection r2 with r2;cases r3;grind
  grind[z2h]
  simp[sl',ws']at m2;rw[Qam hm]at m2 m3;have:=e6 m x w' c' m1 m2 m3
  have hno:EO D ρ F.lv σ.H.L q none m x w' c':=by
   rcases hh with rfl|⟨c2,rfl⟩
   exact this;obtain⟨vs',cs',d1,d2,d3,d4,d5⟩:=this;refine⟨vs',cs',d1,d2,d3,d4,λf' p' u' b' r1 r2 r3 =>?_⟩
   grind[z2h]
  exact hno.yc3 _ λn' f' s' e=>(by grind)
  grind
 have hm:=hR.move ho trivial h1 hk (.deep ty q xs (some (i,off,c))) (.arr ver ty (D.len (.st q)) ws' cp) sl' rfl hor hin2;exact hm.zdi (TV.ren D s ts.nx) λx v hxv=>VR.ren (lookup_append h1) (sl':=sl') (by rw[<-hR.nx];simp) rfl hxv
theorem ywg(hR:TRr D F ρ ts σ){s j ty q i xs sl ver cp}{fps:List (List Nat)}(ho:fnd ts.o s=some (.deep ty q xs none))(h1:ρ[s]? = some sl)(hk:sl.k=some j)
  (q1:sl.ws.length=xs.length) (e1:sl.v = .hs F.lv j ver 0 sl.ws.length false) (e2:σ.H.L[j]? = some (some (.arr ver ty (D.len (.st q)) sl.ws cp))) (e3:fps.length=xs.length) (e4:sl.fp=fps.flatten) (e5:sl.fp.Nodup)
  (e6:∀(n:Nat) (x:D.T q) (w:V) (c:List Nat),xs[n]? = some x->sl.ws[n]? = some w->fps[n]? = some c->EO D ρ F.lv σ.H.L q none n x w c) (p1:0<=i) (hlt:i.toNat<xs.length) {x hole us} (hl:us.length=(D.fl q).length)
  (hrow:∀(f:Nat) (p:(t:DTy)×t.S D.T) (u:V),HL.nth (D.fl q) x f=some p->us[f]? = some u->zqc D ρ F.lv σ.H.L q f hole p u) :
  TRr D F (ρ++[⟨sl.v,some j,sl.ws.set i.toNat (.agg us),(fps.set i.toNat []).flatten⟩]) (ts.y5n D s (.deep ty q (xs.set i.toNat (D.make q x)) (hole.map λp=>(i,p.1,p.2)))) {σ with H:={σ.H with L:=σ.H.L.set j (some (.arr ver ty (D.len (.st q)) (sl.ws.set i.toNat (.agg us)) cp))}}:=by
 have hjl:=(Qaa.1 e2).1;have b4:fps[i.toNat]? = some (fps[i.toNat]'(by omega)):=Qab (by omega);have perm0:sl.fp.Perm ((fps[i.toNat]'(by omega))++(fps.set i.toNat []).flatten):=by grind[zet]
 have hnd:=(List.nodup_append.1 (perm0.nodup_iff.1 e5)).2.1;have hin2:∀n,n∈(fps.set i.toNat []).flatten->n∈sl.fp:=λn h=>perm0.mem_iff.2 (List.mem_append_right _ h)
 let ws':=sl.ws.set i.toNat (.agg us)
 let sl':Slot:=⟨sl.v,some j,ws',(fps.set i.toNat []).flatten⟩
 have hL':∀n∈sl.fp,(σ.H.L.set j (some (.arr ver ty (D.len (.st q)) ws' cp)))[n]? = σ.H.L[n]? := λn hn=>by
  rw[Qam (λe=>(hR.fpl s _ sl n ho trivial h1 hn).1 (by rw[hk,e]))]
 have hor:OR D (ρ++[sl']) F.lv (σ.H.L.set j (some (.arr ver ty (D.len (.st q)) ws' cp))) sl' (.deep ty q (xs.set i.toNat (D.make q x)) (hole.map λp=>(i,p.1,p.2))):=by
  simp only[OR];refine⟨by simp[sl',ws',q1],ver,cp,fps.set i.toNat [],by simp[sl',ws',e1],by simp[sl',hjl],by simpa using e3,rfl,hnd,λm x' w' c' m1 m2 m3 =>?_,λn' f' s' e =>?_⟩;have hcL:=λn hn=>hL' n (hin2 n (List.mem_flatten.2 ⟨c',Qax m3,hn⟩))
  refine EO.mono (L:=σ.H.L) [sl'] ?_ hcL;simp[sl',ws']at m2;by_cases hm:i.toNat=m;subst hm;rw[Qaq (by omega)]at m1 m2 m3;injection m1 with m1;injection m2 with m2;injection m3 with m3;subst m1;subst m2;subst m3;exact z01t hD rfl hl hrow;rw[Qam hm]at m1 m2 m3
  exact(e6 m x' w' c' m1 m2 m3).yc3 _ λn' f' s' e=>(by
   grind[Qaf])
  grind[Qaf]
 have hm:=hR.move ho trivial h1 hk (.deep ty q (xs.set i.toNat (D.make q x)) (hole.map λp=>(i,p.1,p.2))) (.arr ver ty (D.len (.st q)) ws' cp) sl' rfl hor hin2;exact hm.zdi (TV.ren D s ts.nx) λx v hxv=>VR.ren (lookup_append h1) (sl':=sl') (by rw[<-hR.nx];simp) rfl hxv
theorem yhz{R}(hR:TRr D F ρ ts σ){t s ty q off:Nat}{i xs hh x va vx k kf}{r:R}(h:ylf D ts ty q xs hh s i off x k kf=some r)(ho:fnd ts.o s=some (.deep ty q xs hh))
  (ha:VR D ρ F.lv (.dp s i off) va) (hx:VR D ρ F.lv x vx) (hs:x.kzh=true) (hcond:(vx.kzh&&(P.info? t).isSome&&vx.cells.length==P.cellsOf t)=true) :
  (∃z ts' v H' ρ',zey P σ.H t va vx=some (v,H')∧VR D ρ' F.lv z v∧TRr D F ρ' ts' {σ with H:=H'}∧k z ts'=some r)∨∃s,kf s=some r:=by
 simp only[VR]at ha;obtain⟨sl,j',ver',m,h1,g1,g2,g3,rfl⟩:=ha;obtain⟨sl',k1,k2⟩:=hR.ob s _ ho;rw[h1]at k1;cases k1;simp only[OR]at k2;obtain⟨q1,q3⟩:=k2
 have base:∀{y:D.T q},xs[i.toNat]? = some y->∃(j ver:Nat) (cp:Option Nat) (fps:List (List Nat)),sl.k=some j∧sl.v = .hs F.lv j ver 0 sl.ws.length false∧σ.H.L[j]? = some (some (.arr ver ty (D.len (.st q)) sl.ws cp))∧fps.length=xs.length∧sl.fp=fps.flatten∧sl.fp.Nodup ∧
   (∀(n:Nat) (x:D.T q) (w:V) (c:List Nat),xs[n]? = some x->sl.ws[n]? = some w->fps[n]? = some c->EO D ρ F.lv σ.H.L q hh n x w c)∧j'=j∧ver'=ver:=λ{y} p2=>by
  cases hk:sl.k with
  |none=>grind
  |some j=>
   rw[hk]at q3;obtain⟨ver,cp,fps,e1,e2,e3,e4,e5,e6,e7⟩:=q3;have g1':=g1
   rw[e1]at g1';injection g1' with _ a1 a4 _ a5
   exact⟨j,ver,cp,fps,rfl,e1,e2,e3,e4,e5,e6,a1.symm,a4.symm⟩
 unfold ylf at h;split at h;rename_i c;simp[VR]at hx;obtain⟨slc,c1,rfl,c3⟩:=hx;have hvc:slc.v.cells=[slc.v]:=by cases hv:slc.v <;> first|rfl|(rw[hv]at c3;simp[V.leaf]at c3)
 split at h;rename_i ty' how hblt;have hofl:=Nat.le_of_ble_eq_true hblt
 have core:(hh=none∨∃c',hh=some (i,off,c'))->∀{y:D.T q},ix xs i=some y->k .any (ts.y5n D s (.deep ty q xs (some (i,off,c))))=some r->∃z ts' v H' ρ',zey P σ.H t (.ap F.lv j' ver' i.toNat off) slc.v=some (v,H')∧VR D ρ' F.lv z v∧TRr D F ρ' ts' {σ with H:=H'}∧k z ts'=some r:=λhhc {y} hy hk'=>by
  obtain⟨p1,p2⟩:=zje hy;obtain⟨j,ver,cp,fps,hk,e1,e2,e3,e4,e5,e6,rfl,rfl⟩:=base p2;have hlt:=(Qaa.1 p2).1;have hw:sl.ws[i.toNat]? = some (sl.ws[i.toNat]'(by omega)):=Qab (by omega);have hc0:fps[i.toNat]? = some (fps[i.toNat]'(by omega)):=Qab (by omega);obtain⟨vs,cs,b1,b2,b3,b4,b5⟩:=e6 i.toNat y _ _ p2 hw hc0;rw[b1]at hw;rw[b4]at hc0
  have hsp:kzt vs off slc.v.cells=vs.set off slc.v:=by
   rw[hvc];unfold kzt;rw[List.set_eq_take_append_cons_drop,Qbq (by omega)];simp
  refine⟨.any,_,.any,σ.H.set F.lv j' (.arr ver' ty (D.len (.st q)) (sl.ws.set i.toNat (.agg (vs.set off slc.v))) cp),ρ++[⟨sl.v,some j',sl.ws.set i.toNat (.agg (vs.set off slc.v)),(fps.set i.toNat (cs.set off []).flatten).flatten⟩],?_,by simp[VR],?_,hk'⟩;unfold zey;rw[Qbq hcond];simp only[hR.get e2,if_true,hw];rw[Qbq ⟨by rw[hvc];show off+1<=vs.length;omega,rfl⟩]
  show some (V.any,σ.H.set F.lv j' (.arr ver' ty (D.len (.st q)) (sl.ws.set i.toNat (.agg (kzt vs off slc.v.cells))) cp))=_;rw[hsp];rw[hR.y6y];refine yuo hD hR ho h1 hk q1 e1 e2 e3 e4 e5 e6 hhc p1 p2 (by rw[how];rfl) c1 c3 hw b2 b3 hc0 hofl λf p u b t1 t2 t3 hne =>?_
  have:=b5 f p u b t1 t2 t3
  have hno:z2h hh i.toNat f=none:=by
   rcases hhc with rfl|⟨c',rfl⟩
   rfl
   grind[z2h]
  grind
 split at h;obtain⟨y,hy,h⟩:=z1p h
 grind
 rename_i p;obtain⟨n,f',c'⟩:=p;split at h;rename_i hff;have hff:=Qaj hff;subst hff;obtain⟨_,hs,h⟩:=z1p h
 have hni:n=i:=by
  grind[zlb]
 subst hni;obtain⟨y,hy,h⟩:=z1p h;exact .inl (core (.inr ⟨c',rfl⟩) hy h)
 grind
 cases h;rename_i cells;simp[VR]at hx;obtain⟨us,rfl,hx⟩:=hx;split at h;split at h;split at h;rename_i rr hrr;obtain⟨y,hy,h⟩:=z1p h;obtain⟨p1,p2⟩:=zje hy;obtain⟨j,ver,cp,fps,hk,e1,e2,e3,e4,e5,e6,rfl,rfl⟩:=base p2;have hlt:=(Qaa.1 p2).1;obtain⟨a1,a2,a3⟩:=zpl (L:=σ.H.L) hrr hx;have hw:sl.ws[i.toNat]? = some (sl.ws[i.toNat]'(by omega)):=Qab (by omega)
 obtain⟨vs,cs,b1,b2,b3,b4,b5⟩:=e6 i.toNat y _ _ p2 hw (Qab (show i.toNat<fps.length by omega));rw[b1]at hw;have hul:us.length=(D.fl q).length:=by rw[<-hx.length];exact a1
 have hsp:kzt vs 0 us=us:=by
  grind[kzt]
 refine .inl ⟨.any,_,.any,σ.H.set F.lv j' (.arr ver' ty (D.len (.st q)) (sl.ws.set i.toNat (.agg us)) cp),ρ++[⟨sl.v,some j',sl.ws.set i.toNat (.agg us),(fps.set i.toNat []).flatten⟩],?_,by simp[VR],?_,h⟩;unfold zey;rw[Qbq hcond];simp only[hR.get e2,if_true,hw];rw[Qbq ⟨by show 0+us.length<=vs.length;omega,rfl⟩]
 show some (V.any,σ.H.set F.lv j' (.arr ver' ty (D.len (.st q)) (sl.ws.set i.toNat (.agg (kzt vs 0 us))) cp))=_;rw[hsp];rw[hR.y6y]
 exact ywg hD hR ho h1 hk q1 e1 e2 e3 e4 e5 e6 p1 hlt hul λf p u t1 t2=>by
  have:=a3 f p u t1 t2
  grind
 exact .inr ⟨_,h⟩;cases h
 grind
 cases h;cases h
theorem ykl{R}(hR:TRr D F ρ ts σ){t a x va vx k kf}{r:R}(h:ydj P D ts t a x k kf=some r)(ha:VR D ρ F.lv a va)(hx:VR D ρ F.lv x vx) :
  (∃z ts' v H' ρ',zey P σ.H t va vx=some (v,H')∧VR D ρ' F.lv z v∧TRr D F ρ' ts' {σ with H:=H'}∧k z ts'=some r)∨∃s,kf s=some r:=by
 unfold ydj at h;split at h;rename_i hc;simp[Qag,beq_iff_eq]at hc;obtain⟨⟨c1,c2⟩,c3⟩:=hc;have hcells:=hx.cells c1
 have hcond:(vx.kzh&&(P.info? t).isSome&&vx.cells.length==P.cellsOf t)=true:=by
  simp[Qag,beq_iff_eq];exact⟨⟨hx.kzh c1,c2⟩,by rw[<-hcells.length];exact c3⟩
 split at h;rename_i s off;simp only[VR]at ha;obtain⟨sl,i,h1,h2,rfl⟩:=ha;split at h;rename_i cs ho;split at h;rename_i hoff;left;obtain⟨sl',k1,k2⟩:=hR.ob s _ ho;rw[h1]at k1;cases k1;simp only[OR]at k2;obtain⟨i',vs,q1,q2,q3⟩:=k2;rw[h2]at q1;cases q1;have hlt:=(Qaa.1 q2).1;refine⟨.any,_,.any,σ.H.set F.lv i (.cells (kzt vs off vx.cells)),ρ,?_,by simp[VR],?_,h⟩;unfold zey;rw[Qbq hcond]
 simp only[hR.get q2];rw[Qbq (by rw[<-hcells.length,<-q3.length];exact hoff)];rw[hR.y6y];exact hR.upd ho trivial h1 h2 _ _ (by simp only[OR];exact⟨i,_,h2,by simp[hlt],q3.kzt hcells off⟩);cases h;cases h;rename_i s τ i y off;simp only[VR]at ha;obtain⟨sl,w,h1,h2,h3,h4,h5⟩:=ha;split at h;rename_i ty τ' xs ho;split at h;rename_i hoff;obtain⟨sl',k1,k2⟩:=hR.ob s _ ho;rw[h1]at k1;cases k1;simp only[OR]at k2
 obtain⟨q1,q2,q3⟩:=k2;obtain⟨rfl,hnat,hoff⟩:=hoff;split at h;rename_i z hz;left;obtain⟨d1,d2,d3⟩:=DR.zcc hD h4 hx c1 hoff hz hnat
 cases hk:sl.k with
 |none=>
  rw[hk]at q3
  rcases q3 with ⟨e1,e2⟩|⟨e1,e2⟩
  grind
  grind
 |some j=>
  rw[hk]at q3 h5;obtain⟨ver,cp,e1,e2⟩:=q3;obtain⟨ver',n,e3,rfl⟩:=h5
  rw[e1]at e3;injection e3 with _ _ e3 _ e4;subst e3;subst e4
  have hlt:=(Qaa.1 e2).1;have hit:=(Qaa.1 h3).1
  let ws':=sl.ws.set i.toNat (Go.Ab.zcc w (kzt w.cells off vx.cells))
  let sl':Slot:=⟨sl.v,some j,ws',[]⟩
  have hor:OR D (ρ++[sl']) F.lv (σ.H.L.set j (some (.arr ver ty (D.len τ) ws' cp))) sl' (.acc ty τ (xs.set i.toNat z) true):=by
   grind[OR]
  have hm:=hR.move ho trivial h1 hk (.acc ty τ (xs.set i.toNat z) true) (.arr ver ty (D.len τ) ws' cp) sl' rfl hor;refine⟨.any,_,.any,σ.H.set F.lv j (.arr ver ty (D.len τ) ws' cp),ρ++[sl'],?_,by simp only[VR],?_,h⟩;unfold zey;rw[Qbq hcond];simp only[hR.get e2,if_true,h3]
  grind
  rw[hR.y6y];have:=hm.zdi (TV.ren D s ts.nx) λx v hxv=>VR.ren (lookup_append h1) (sl':=sl') (by rw[<-hR.nx];simp) rfl hxv
  exact this
 exact .inr ⟨_,h⟩;cases h;cases h;cases h;rename_i s i off;simp only[VR]at ha;obtain⟨sl,j',ver',m,h1,g1,g2,g3,rfl⟩:=ha;split at h;rename_i ty q xs hh ho;split at h;rename_i hoff;obtain⟨hflat,hoff⟩:=hoff;obtain⟨y,hy,h⟩:=z1p h;obtain⟨sl',k1,k2⟩:=hR.ob s _ ho
 rw[h1]at k1;injection k1 with k1;subst k1
 simp only[OR]at k2;obtain⟨q1,q3⟩:=k2;obtain⟨p1,p2⟩:=zje hy;have hlt:i.toNat<xs.length:=(Qaa.1 p2).1;split at h
 ·rename_i z hz;left
  cases hk:sl.k with
  |none=>grind
  |some j=>
  rw[hk]at q3;obtain⟨ver,cp,fps,e1,e2,e3,e4,e5,e6,e7⟩:=q3
  rw[e1]at g1;injection g1 with _ g1 g4 _ g5;subst g1;subst g4
  have hw:sl.ws[i.toNat]? = some (sl.ws[i.toNat]'(by omega)):=Qab (by omega);have hc0:fps[i.toNat]? = some (fps[i.toNat]'(by omega)):=Qab (by omega);obtain⟨vs,cs,b1,b2,b3,b4,b5⟩:=e6 i.toNat y _ _ p2 hw hc0;have hlen:=hcells.length;have hjl:=(Qaa.1 e2).1
  let w':V:=.agg (kzt vs off vx.cells)
  let ws':=sl.ws.set i.toNat w'
  let sl':Slot:=⟨sl.v,some j,ws',sl.fp⟩
  have hsp:(kzt vs off vx.cells).length=vs.length:=by
   unfold kzt;simp only[Qap,List.length_take,List.length_drop];omega
  have hor:OR D (ρ++[sl']) F.lv (σ.H.L.set j (some (.arr ver ty (D.len (.st q)) ws' cp))) sl' (.deep ty q (xs.set i.toNat (D.make q z)) hh):=by
   have hL':∀n∈sl.fp,(σ.H.L.set j (some (.arr ver ty (D.len (.st q)) ws' cp)))[n]? = σ.H.L[n]? := λn hn=>by
    rw[Qam (λe=>(hR.fpl s _ sl n ho trivial h1 hn).1 (by rw[hk,e]))]
   simp only[OR];refine⟨by simp[sl',ws',q1],ver,cp,fps,by simp[sl',ws',e1],by simp[sl',hjl],by simpa using e3,e4,e5,λa x' u' c' r1 r2 r3 =>?_,λn f s' e=>by grind⟩;have hcL:∀n∈c',(σ.H.L.set j (some (.arr ver ty (D.len (.st q)) ws' cp)))[n]? = σ.H.L[n]? := λn hn=>hL' n (by rw[e4];exact List.mem_flatten.2 ⟨c',Qax r3,hn⟩)
   simp only[sl',ws']at r2;by_cases hia:i.toNat=a;subst hia;rw[Qaq hlt]at r1;rw[Qaq (by omega)]at r2;injection r1 with r1;injection r2 with r2;subst r1;subst r2
   rw[hc0]at r3;injection r3 with r3;subst r3
   refine EO.mono (L:=σ.H.L) [sl'] ⟨_,cs,rfl,by rw[hsp];exact b2,b3,b4,λf p u b t1 t2 t3 =>?_⟩ hcL;rw[hD.getMake]at t1;obtain⟨c,u1,u2⟩:=y4j hz f p t1;have hf:=(HL.zg4 _ _ _ _ t1).1;by_cases hin:off<=f∧f<off+x.cells.length
   have hown:D.ow q f=none:=by
    have:=Qat.1 hflat (f-off) (List.mem_range.2 (by omega))
    simp_all
   have hnh:z2h hh i.toNat f=none:=by
    cases hho:z2h hh i.toNat f with
    |none=>rfl
    |some s'=>
     obtain⟨pf,hpf,_⟩:=HL.zkl (D.fl q) (D.get q y) f hf
     grind
   obtain⟨pf,hpf,_⟩:=HL.zkl (D.fl q) (D.get q y) f hf;have hbb:=b5 f pf _ b hpf (Qab (show f<vs.length by omega)) t3;rw[hnh]at hbb ⊢;simp only at hbb ⊢;rw[hown]at hbb ⊢;have hb0:b=[]:=by cases hbb;rfl
   subst hb0
   have v1:x.cells[f-off]? = some c:=by
    grind[zjh,zeh,Qav]
   have v2:vx.cells[f-off]? = some u:=by
    grind[kzt]
   exact .dat (zlv u2 (hcells.y1r v1 v2))
   have v1:(D.leaves (D.fl q) (D.get q y))[f]? = some c:=by
    unfold zjh at u1;by_cases hlo:f<off;rw[Qay,Qal (by simp only[List.length_take,zeh];omega),Qaw,Qbq hlo]at u1;exact u1;rw[Qav (by simp only[Qap,List.length_take,zeh];omega),Qbb]at u1;rw[<-u1];congr 1;simp only[Qap,List.length_take,zeh];omega
   have v2:vs[f]? = some u:=by
    unfold kzt at t2;by_cases hlo:f<off;rw[Qay,Qal (by simp only[List.length_take];omega),Qaw,Qbq hlo]at t2;exact t2;rw[Qav (by grind),Qbb]at t2;rw[<-t2];congr 1;simp only[Qap,List.length_take];omega
   rw[zgq,Qaf]at v1;obtain⟨py,v3,v4⟩:=v1
   have hty:py.1=p.1:=by
    grind[HL.zg4]
   grind[ypm]
   grind[EO.mono]
  have hm:=hR.move ho trivial h1 hk (.deep ty q (xs.set i.toNat (D.make q z)) hh) (.arr ver ty (D.len (.st q)) ws' cp) sl' rfl hor (λ_ h=>h);refine⟨.any,_,.any,σ.H.set F.lv j (.arr ver ty (D.len (.st q)) ws' cp),ρ++[sl'],?_,by simp only[VR],?_,h⟩;unfold zey;rw[Qbq hcond];simp only[hR.get e2,if_true,hw];rw[Qbq ⟨by simp_all,by rw[b1];rfl⟩];rw[b1];rfl;rw[hR.y6y]
  have:=hm.zdi (TV.ren D s ts.nx) λx v hxv=>VR.ren (lookup_append h1) (sl':=sl') (by rw[<-hR.nx];simp) rfl hxv
  exact this
 exact .inr ⟨_,h⟩;cases h;exact yhz hD hR h ho (by simp only[VR];grind) hx c1 hcond;cases h;rename_i s;simp only[VR]at ha;obtain⟨sl,i,h1,h2,rfl⟩:=ha;split at h;rename_i ty b q ho;left;obtain⟨sl',k1,k2⟩:=hR.ob s _ ho
 rw[h1]at k1;injection k1 with k1;subst k1
 simp only[OR]at k2;obtain⟨i',u,c,q1,q2,q3,q4⟩:=k2
 rw[h2]at q1;injection q1 with q1;subst q1
 have hlt:=(Qaa.1 q2).1
 have hxl:vx.cells=[vx]:=by
  have h3:=hx;simp only[VR]at h3;obtain⟨_,_,_,h4⟩:=h3
  cases vx <;> first|rfl|(simp[V.leaf]at h4)
 refine⟨.any,_,.any,σ.H.set F.lv i (.arr 0 ty 2 [.agg [u,vx]] (some 1)),ρ,?_,by simp only[VR],?_,h⟩;unfold zey;rw[Qbq hcond];simp only[hR.get q2,if_true,Qbw];rw[Qbq (by rw[hxl];exact⟨by simp[V.cells],rfl⟩),hxl];rfl;rw[hR.y6y];exact hR.upd ho trivial h1 h2 _ _ (by simp only[OR];exact⟨i,u,vx,h2,by simp[hlt],q3,hx⟩);cases h;cases h;cases h
def DRL(D:Dat)(t:DTy)(xs:List (t.S D.T))(ws:List V):Prop:=ws.length=xs.length∧∀(j:Nat) (x) (w),xs[j]? = some x->ws[j]? = some w->DR D t x w
omit hD in
theorem DRL.append{t xs ys ws us}(h:DRL D t xs ws)(k:DRL D t ys us):DRL D t (xs++ys) (ws++us):=by
 refine⟨by simp[h.1,k.1],λj x w hx hw =>?_⟩;rw[Qba]at hx hw;rw[h.1]at hw;split at hx;rw[Qbq ‹_›]at hw;exact h.2 j x w hx hw;rw[Qbr ‹_›]at hw;exact k.2 _ x w hx hw
omit hD in
theorem DRL.nil(t):DRL D t ([]:List (t.S D.T)) []:=⟨rfl,λj x w hx=>by simp at hx⟩
omit hD in
theorem yt6(hR:TRr D F ρ ts σ){τ x vx ys}(h:tSrc D ts τ x=some ys)(hx:VR D ρ F.lv x vx):∃us,zmi σ.H (D.len τ) vx=some us∧DRL D τ ys us:=by
 unfold tSrc at h;split at h;cases h;simp[VR]at hx;subst hx;exact⟨[],rfl,DRL.nil _⟩;rename_i t xs fl;obtain⟨rfl,rfl⟩:=z8t h;simp[VR]at hx;obtain⟨hx,_⟩:=hx
 cases hx with
 |nil=>exact⟨[],rfl,DRL.nil _⟩
 |sl _ _ ws full hl hh=>exact⟨ws,by simp[zmi,zd3],hl,hh⟩
 rename_i s;split at h;rename_i ty t xs w ho;obtain⟨rfl,rfl⟩:=z8t h;simp[VR]at hx;obtain⟨sl,h1,rfl,hleaf⟩:=hx;obtain⟨sl',k1,k2⟩:=hR.ob s _ ho;rw[h1]at k1;cases k1;simp only[OR]at k2;obtain⟨q1,q2,q3⟩:=k2;refine⟨sl.ws,?_,q1,q2⟩
 cases hk:sl.k with
 |none=>
  grind[zmi,zd3]
 |some j=>
  rw[hk]at q3;obtain⟨ver,cp,e1,e2⟩:=q3;rw[e1];simp[zmi,zd3,hR.get e2]
 cases h;rename_i s;split at h;cases h;simp[VR]at hx;subst hx;refine⟨s.map λb=>.int .u8 b.toNat,by simp[zmi,Dat.len],?_,λj x w hx hw =>?_⟩;rw[List.length_map];show s.length=(kzi s).length;rw[kzi,List.length_map];replace hx:(s.map λb=>((b.toNat:Nat):Int))[j]? = some x:=hx;rw[Qan]at hx hw
 cases hb:s[j]? with
 |none=>grind
 |some b=>
  rw[hb]at hx hw;injection hx with hx;injection hw with hw;subst hx;subst hw;exact .int .u8 _
 cases h;cases h
omit hD in
theorem zli(hR:TRr D F ρ ts σ){τ e v xs ys ws us w}(hx:DRL D τ xs ws)(hy:DRL D τ ys us)(hroom:xs.length+ys.length<=zh1)
  (hv:(v = .nils∧ws=[])∨((v = .sl (D.len τ) ws true∧τ ≠ .int .u8)∧(w=true->ws=[]))) :
  ∃v' H' sl',z1t σ.H e (D.len τ) v us=some (v',H')∧v'.leaf=true∧sl'.v=v'∧TRr D F (ρ++[sl']) (ts.new D (.acc e τ (xs++ys) w)) {σ with H:=H'}∧(∀i,sl'.k=some i->i=σ.H.L.length)∧∀i,sl'.k≠some i->H'.L[i]? = σ.H.L[i]? := by
 have hxy:=hx.append hy
 cases us with
 |nil=>
  have hy0:=Qao (by rw[<-hy.1];rfl);subst hy0;refine⟨v,σ.H,⟨v,none,ws,[]⟩,?_,?_,rfl,?_,(λi h=>by cases h),λi _=>rfl⟩
  rcases hv with ⟨rfl,_⟩|⟨⟨rfl,_⟩,_⟩ <;> simp[z1t]
  rcases hv with ⟨rfl,_⟩|⟨⟨rfl,_⟩,_⟩ <;> rfl
  have:=hR.new (.acc e τ (xs++[]) w) ⟨v,none,ws,[]⟩ σ.H hR.lv hR.E (Qbp _) (λ_ _=>rfl) (by simp) (by simp[List.append_nil];exact⟨hx.1,hx.2,hv⟩)
  exact this
 |cons y r=>
  have hlen:ws.length+(y::r).length<=zh1:=by rw[hx.1,hy.1];exact hroom
  refine⟨.hs F.lv σ.H.L.length 0 0 (ws++y::r).length false,σ.H.push (.arr 0 e (D.len τ) (ws++y::r) none),⟨.hs F.lv σ.H.L.length 0 0 (ws++y::r).length false,some σ.H.L.length,ws++y::r,[]⟩,?_,rfl,rfl,?_,(λi h=>by grind),λi h =>?_⟩
  rcases hv with ⟨rfl,rfl⟩|⟨⟨rfl,_⟩,_⟩
  simp only[z1t];rw[Qbq (by simpa using hlen)];simp[hR.lv];simp only[z1t,if_true];rw[Qbq (by simpa using hlen)];simp[hR.lv]
  exact hR.new _ _ _ hR.lv hR.E (by simp[Heap.push]) (λi hi=>by grind[Heap.push]) (λi hi=>by grind)
   (by simp only[OR];exact⟨hxy.1,hxy.2,0,none,rfl,by simp[Heap.push]⟩)
  grind[Heap.push]
theorem yyl{q e:Nat}{x hole us ws xs fps L L'}(sl')(q1:ws.length=xs.length)(e3:fps.length=xs.length)(hl:us.length=(D.fl q).length)
  (hrow:∀(f:Nat) (p:(t:DTy)×t.S D.T) (u:V),HL.nth (D.fl q) x f=some p->us[f]? = some u->zqc D ρ lv L q f hole p u) (hL:∀i∈fps.flatten,L'[i]? = L[i]?)
  (e6:∀(n:Nat) (x:D.T q) (w:V) (c:List Nat),xs[n]? = some x->ws[n]? = some w->fps[n]? = some c->EO D ρ lv L q none n x w c) :
  ∀(n) (y) (w) (c),(xs++[D.make q x])[n]? = some y->(ws++[.agg us])[n]? = some w->(fps++[[]])[n]? = some c->EO D (ρ++[sl']) lv L' q (hole.map λp=>((xs.length:Int),p.1,p.2)) n y w c:=λn y w c h1 h2 h3=>by
 rw[Qba]at h1 h2 h3;by_cases hn:n<xs.length;rw[Qbq hn]at h1;rw[Qbq (by omega)]at h2 h3
 exact EO.mono (L:=L) [sl'] ((e6 n y w c h1 h2 h3).yc3 _ λn' f' s' e=>(by
  grind[Qaf])) λi hi=>hL i (List.mem_flatten.2 ⟨c,Qax h3,hi⟩)
 have hn0:n=xs.length:=by
  grind
 subst hn0;rw[q1,Nat.sub_self]at h2;rw[e3,Nat.sub_self]at h3;simp at h1 h2 h3;subst h1;subst h2;subst h3;exact EO.mono (L:=L) [sl'] (z01t hD (by simp) hl hrow) (by simp)
theorem ydx{R}(hR:TRr D F ρ ts σ){t u q s cells vs vx k kf}{r:R}(h:ye3 P D ts t u s q cells k kf=some r)(hs:VR D ρ F.lv s vs)(hx:VR D ρ F.lv (.bsl q [.agg cells]) vx) :
  (∃z ts' v H' ρ',hAppend P σ.H t u vs vx=some (v,H')∧VR D ρ' F.lv z v∧TRr D F ρ' ts' {σ with H:=H'}∧k z ts'=some r)∨∃s,kf s=some r:=by
 simp only[VR,VRL]at hx;obtain⟨ws0,rfl,w0,r0,rfl,⟨us,rfl,hx⟩,rfl⟩:=hx;unfold ye3 at h;split at h;rename_i e du hu hdu;split at h;rename_i i hi;split at h;rename_i z hz;split at h;rename_i hc;simp[Qar]at hc;obtain⟨⟨⟨⟨c1,c2⟩,c3⟩,c4⟩,c5⟩:=hc
 have happ:∀v' H',z1t σ.H e (D.len (.st q)) vs [.agg us]=some (v',H')->hAppend P σ.H t u vs (.sl (D.len (.st q)) [.agg us] true)=some (v',H'):=λv' H' ha=>by
  simp_all[hAppend,zmi,zd3]
 have own:∀(sl':Slot) (v':V),sl'.v=v'->v'.leaf=true->VR D (ρ++[sl']) F.lv (.own ts.nx) v':=λsl' v' h1 h2=>by
  simp[VR];exact⟨sl',by rw[<-hR.nx];simp,h1.symm,h2⟩
 split at h;rename_i rr hrr;obtain⟨a1,a2,a3⟩:=zpl (L:=σ.H.L) hrr hx;have hul:us.length=(D.fl q).length:=by rw[<-hx.length];exact a1
 have hrow:∀(f:Nat) (p:(t:DTy)×t.S D.T) (u:V),HL.nth (D.fl q) rr.1 f=some p->us[f]? = some u->zqc D ρ F.lv σ.H.L q f rr.2 p u:=λf p u t1 t2=>by
  simp_all
 have fresh:1<=zh1->(vs = .nils∨vs = .sl (D.len (.st q)) [] true)->∃v' H' sl',z1t σ.H e (D.len (.st q)) vs [.agg us]=some (v',H')∧v'.leaf=true∧sl'.v=v'∧TRr D F (ρ++[sl']) (ts.new D (.deep e q ([]++[D.make q rr.1]) (rr.2.map λp=>((([]:List (D.T q)).length:Int),p.1,p.2)))) {σ with H:=H'}:=λhroom hv=>by
  refine⟨.hs F.lv σ.H.L.length 0 0 1 false,σ.H.push (.arr 0 e (D.len (.st q)) [.agg us] none),⟨.hs F.lv σ.H.L.length 0 0 1 false,some σ.H.L.length,[.agg us],[]⟩,?_,rfl,rfl,?_⟩
  rcases hv with rfl|rfl
  simp only[z1t];rw[Qbq (by simpa using hroom)];simp[hR.lv];simp only[z1t,if_true];rw[Qbq (by simpa using hroom)];simp[hR.lv];refine hR.new _ _ _ hR.lv hR.E (by simp[Heap.push]) (λi hi=>by grind[Heap.push]) (λi hi=>by grind) ?_;simp only[OR];refine⟨rfl,0,none,[[]],rfl,by simp[Heap.push],rfl,rfl,List.nodup_nil,?_,λn f s' e =>?_⟩
  exact yyl hD (e:=e) (xs:=[]) (ws:=[]) (fps:=[]) (L:=σ.H.L) _ rfl rfl hul hrow (by simp) (λn x w c h=>by simp at h)
  grind[Qaf]
 split at h;obtain⟨zs,hzs,h⟩:=z1p h;obtain⟨hroom,rfl⟩:=y3c hzs;simp[VR]at hs;subst hs;obtain⟨v',H',sl',b1,b2,b3,b4⟩:=fresh (by simpa using hroom) (.inl rfl)
 grind
 rename_i s;split at h;rename_i e' q' xs' hh ho;split at h;rename_i he;subst he;split at h;split at h;rename_i xs hl;obtain⟨zs,hzs,h⟩:=z1p h;obtain⟨hroom,rfl⟩:=y3c hzs;obtain⟨eq1,eq2⟩:=z8t hl;injection eq1 with eq1;subst eq1;replace eq2:=eq2.symm;subst eq2;simp[VR]at hs;obtain⟨sl,h1,rfl,hleaf⟩:=hs;obtain⟨sl',k1,k2⟩:=hR.ob s _ ho;rw[h1]at k1;cases k1;simp only[OR]at k2;obtain⟨q1,q3⟩:=k2
 have hsn:∀o,s<(ts.new D o).nx:=λo=>by
  have:=(Qaa.1 h1).1;simp[TS.new];rw[<-hR.nx];omega
 cases hk:sl.k with
 |none=>
  rw[hk]at q3;obtain⟨rfl,hv,_,_⟩:=q3;obtain⟨v',H',sl',b1,b2,b3,b4⟩:=fresh hroom hv
  exact .inl ⟨_,_,v',H',_,happ _ _ b1,own sl' v' b3 b2,b4.drop s (hsn _),h⟩
 |some j=>
  rw[hk]at q3;obtain⟨ver,cp,fps,e1,e2,e3,e4,e5,e6,e7⟩:=q3;have hlt:=(Qaa.1 e2).1;have hlen:sl.ws.length+[V.agg us].length<=zh1:=by rw[q1];exact hroom
  let sl':Slot:=⟨.hs F.lv j (ver+1) 0 (sl.ws++[V.agg us]).length false,some j,sl.ws++[V.agg us],sl.fp⟩
  have hL':∀n∈sl.fp,(σ.H.L.set j (some (.arr (ver+1) e' (D.len (.st q')) (sl.ws++[V.agg us]) none)))[n]? = σ.H.L[n]? := λn hn=>by
   rw[Qam (λe=>(hR.fpl s _ sl n ho trivial h1 hn).1 (by rw[hk,e]))]
  have hm:=hR.move ho trivial h1 hk (.deep e' q' (xs'++[D.make q' rr.1]) (rr.2.map λp=>((xs'.length:Int),p.1,p.2))) (.arr (ver+1) e' (D.len (.st q')) (sl.ws++[V.agg us]) none) sl' rfl
   (by
     simp only[OR];refine⟨by simp[sl',q1],ver+1,none,fps++[[]],rfl,by simp[sl',hlt],by simp[e3],by simp[sl',e4],e5,?_,λn f s' e =>?_⟩;exact yyl hD (e:=e') (L:=σ.H.L) sl' q1 e3 hul hrow (λn hn=>hL' n (by rw[e4];exact hn)) e6
     grind[Qaf]) (λ_ h=>h)
  refine .inl ⟨_,_,sl'.v,σ.H.set F.lv j (.arr (ver+1) e' (D.len (.st q')) (sl.ws++[V.agg us]) none),_,happ _ _ ?_,own sl' sl'.v rfl rfl,by rw[hR.y6y];exact hm,h⟩;rw[e1];simp[z1t,hR.get e2,true_and]
  grind
 cases h
 grind
 cases h;cases h;cases h;exact .inr ⟨_,h⟩;cases h;cases h;cases h;cases h;cases h
omit hD in
theorem y0i{R}(hR:TRr D F ρ ts σ){t u s x vs vx k}{r:R}(h:ymd P D ts t u s x k=some r)(hs:VR D ρ F.lv s vs)(hx:VR D ρ F.lv x vx) :
  ∃z ts' v H' ρ',hAppend P σ.H t u vs vx=some (v,H')∧VR D ρ' F.lv z v∧TRr D F ρ' ts' {σ with H:=H'}∧k z ts'=some r ∧
   ((∀q,s ≠ .own q)->∃sl' o,ρ'=ρ++[sl']∧ts'=ts.new D o∧o.live∧(∀i,sl'.k=some i->i=σ.H.L.length)∧∀i,sl'.k≠some i->H'.L[i]? = σ.H.L[i]?):=by
 unfold ymd at h;split at h;rename_i e du hu hdu;split at h;rename_i i τ hi hτ;split at h;rename_i z hz;split at h;rename_i hc;simp[Qar]at hc;obtain⟨⟨⟨⟨c1,c2⟩,c3⟩,c4⟩,c5⟩:=hc;split at h;rename_i ys xs w old hys hdst;obtain⟨zs,hzs,h⟩:=z1p h;obtain⟨hroom,rfl⟩:=y3c hzs;obtain⟨us,hus,hyu⟩:=yt6 hR hys hx
 have happ:∀v' H',z1t σ.H e (D.len τ) vs us=some (v',H')->hAppend P σ.H t u vs vx=some (v',H'):=λv' H' ha=>by
  unfold hAppend;rw[hu,hdu];simp only[hi,hz];rw[<-c5,hus];simp only;rw[Qbq (by simp[Qar];exact⟨⟨⟨c1,by omega⟩,c3⟩,by omega⟩)];exact ha
 have own:∀(sl':Slot) (v':V),sl'.v=v'->v'.leaf=true->VR D (ρ++[sl']) F.lv (.own ts.nx) v':=λsl' v' h1 h2=>by
  simp[VR];exact⟨sl',by rw[<-hR.nx];simp,h1.symm,h2⟩
 unfold tDst at hdst;split at hdst;simp[Qbs]at hdst;obtain⟨rfl,rfl,rfl⟩:=hdst;simp[VR]at hs;subst hs;obtain⟨v',H',sl',a1,a2,a3,a4,a5⟩:=zli (e:=e) hR (w:=true) (DRL.nil τ) hyu hroom (.inl ⟨rfl,rfl⟩);exact⟨_,_,v',H',_,happ _ _ a1,own sl' v' a3 a2,a4,h,λ_=>⟨sl',_,rfl,rfl,trivial,a5⟩⟩;by_cases hu8:τ = .int .u8;rw[Qbq hu8]at hdst;cases hdst;rw[Qbr hu8,Qaf]at hdst
 obtain⟨xs',hl,hdst⟩:=hdst;simp[Qbs]at hdst;obtain⟨rfl,rfl,rfl⟩:=hdst;obtain⟨rfl,rfl⟩:=z8t hl;simp only[VR]at hs;obtain⟨hs,hf,_⟩:=hs;obtain⟨ws,rfl⟩:=hf (by omega)
 cases hs with
 |sl _ _ _ _ hl hh=>
  obtain⟨v',H',sl',a1,a2,a3,a4,a5⟩:=zli (e:=e) hR (w:=false) ⟨hl,hh⟩ hyu hroom (.inr ⟨⟨rfl,hu8⟩,by simp⟩);exact⟨_,_,v',H',_,happ _ _ a1,own sl' v' a3 a2,a4,h,λ_=>⟨sl',_,rfl,rfl,trivial,a5⟩⟩
 by_cases hu8:τ = .int .u8;rw[Qbq hu8]at hdst;cases hdst;rw[Qbr hu8,Qaf]at hdst;obtain⟨xs',hl,hdst⟩:=hdst;simp[Qbs]at hdst;obtain⟨rfl,rfl,rfl⟩:=hdst;obtain⟨rfl,rfl⟩:=z8t hl;simp only[VR]at hs;obtain⟨hs,hf,hf2⟩:=hs;obtain⟨ws,rfl⟩:=hf (by omega);have hx0:=hf2 trivial
 cases hs with
 |sl _ _ _ _ hl hh=>
  obtain⟨v',H',sl',a1,a2,a3,a4,a5⟩:=zli (e:=e) hR (w:=true) ⟨hl,hh⟩ hyu hroom (.inr ⟨⟨rfl,hu8⟩,λ_=>Qao (by rw[hl,hx0];rfl)⟩);exact⟨_,_,v',H',_,happ _ _ a1,own sl' v' a3 a2,a4,h,λ_=>⟨sl',_,rfl,rfl,trivial,a5⟩⟩
 rename_i s;split at hdst;rename_i e' t' xs' w' ho;split at hdst;rename_i he;subst he;rw[Qaf]at hdst;obtain⟨xs'',hl,hdst⟩:=hdst;simp[Qbs]at hdst;obtain⟨rfl,rfl,rfl⟩:=hdst;obtain⟨rfl,rfl⟩:=z8t hl;simp[VR]at hs;obtain⟨sl,h1,rfl,hleaf⟩:=hs;obtain⟨sl',k1,k2⟩:=hR.ob s _ ho;rw[h1]at k1;cases k1;simp only[OR]at k2;obtain⟨q1,q2,q3⟩:=k2
 have hsn:∀o,s<(ts.new D o).nx:=λo=>by
  have:=(Qaa.1 h1).1;simp[TS.new];rw[<-hR.nx];omega
 cases hk:sl.k with
 |none=>
  rw[hk]at q3;obtain⟨v',H',sl',a1,a2,a3,a4,a5⟩:=zli (e:=e') hR (w:=w') ⟨q1,q2⟩ hyu hroom q3
  exact⟨_,_,v',H',_,happ _ _ a1,own sl' v' a3 a2,a4.drop s (hsn _),h,λq=>(q s rfl).elim⟩
 |some j=>
  rw[hk]at q3;obtain⟨ver,cp,e1,e2⟩:=q3;have hlt:=(Qaa.1 e2).1;have hxy:=DRL.append ⟨q1,q2⟩ hyu;have hlen:sl.ws.length+us.length<=zh1:=by rw[q1,hyu.1];exact hroom
  let sl':Slot:=⟨.hs F.lv j (ver+1) 0 (sl.ws++us).length false,some j,sl.ws++us,[]⟩
  have hm:=hR.move ho trivial h1 hk (.acc e' _ (_++ys) w') (.arr (ver+1) e' (D.len t') (sl.ws++us) none) sl' rfl
   (by simp only[OR];exact⟨hxy.1,hxy.2,ver+1,none,rfl,by simp[sl',hlt]⟩)
  refine⟨_,_,sl'.v,σ.H.set F.lv j (.arr (ver+1) e' (D.len t') (sl.ws++us) none),_,happ _ _ ?_,own sl' sl'.v rfl rfl,by rw[hR.y6y];exact hm,h,λq=>(q s rfl).elim⟩;rw[e1];simp only[z1t,hR.get e2,true_and];rw[Qbq hlen];simp[sl']
 cases hdst;cases hdst;cases hdst;cases h;cases h;cases h;cases h;cases h
omit hD in
theorem z037(hR:TRr D F ρ ts σ){t τ}:VR D (ρ++[⟨.any,some σ.H.L.length,[],[]⟩]) F.lv (TV.map ts.nx:TV D.T) (.map σ.H.lv σ.H.L.length)∧TRr D F (ρ++[⟨.any,some σ.H.L.length,[],[]⟩]) (ts.new D (.mp t τ [])) {σ with H:=σ.H.push (.map [])}:=by
 refine⟨?_,?_⟩;simp only[VR];exact⟨⟨.any,some σ.H.L.length,[],[]⟩,σ.H.L.length,by rw[<-hR.nx];simp,rfl,by rw[hR.lv]⟩
 exact hR.new _ _ _ hR.lv hR.E (by simp[Heap.push]) (λi hi=>by grind[Heap.push]) (λi hi=>by grind)
  (by exact⟨σ.H.L.length,[],rfl,rfl,(by simp),(by simp[Heap.push])⟩)
omit hD in
theorem yci{R}(hR:TRr D F ρ ts σ){t r' vr k}{r:R}(h:yb0 P D ts t r' k=some r)(h1:∀z,r'=some z->∃v,vr=some v∧VR D ρ F.lv z v)(h2:r'=none->vr=none) :
  ∃z ts' v H' ρ',zxk P σ.H t vr=some (v,H')∧VR D ρ' F.lv z v∧TRr D F ρ' ts' {σ with H:=H'}∧k z ts'=some r:=by
 unfold yb0 at h;split at h;rename_i kt e hu;split at h;rename_i τ hτ;obtain⟨a1,a2⟩:=z037 hR (t:=t) (τ:=τ);exact⟨_,_,_,_,_,by rw[h2 rfl];rfl,a1,a2,h⟩;rename_i τ q n hτ;obtain⟨a1,a2⟩:=z037 hR (t:=t) (τ:=τ);obtain⟨v,e1,e2⟩:=h1 _ rfl
 grind[VR,zxk]
 cases h;cases h
theorem y0j{R}(hR:TRr D F ρ ts σ){t m key x vm vk vx k}{r:R}(h:yaf P D ts t m key x k=some r)(hm:VR D ρ F.lv m vm)(hk:VR D ρ F.lv key vk)(hx:VR D ρ F.lv x vx) :
  ∃z ts' v H' ρ',zgy P σ.H t vm vk vx=some (v,H')∧VR D ρ' F.lv z v∧TRr D F ρ' ts' {σ with H:=H'}∧k z ts'=some r:=by
 unfold yaf at h;split at h;rename_i kt e q s hu;simp[VR]at hk;subst hk;split at h;rename_i ty τ es hkt ho;split at h;rename_i y hy;simp only[VR]at hm;obtain⟨sl,i,h1,h2,rfl⟩:=hm;obtain⟨sl',k1,k2⟩:=hR.ob _ _ ho;rw[h1]at k1;cases k1;simp only[OR]at k2;obtain⟨i',ms,q1,q2,q4,q3⟩:=k2;rw[h2]at q1;cases q1;have hv:=zj0 hD hy hx;have hlt:=(Qaa.1 q3).1
 have hup:=ysf (P:=P) (f:=λx:τ.S D.T×V=>x.2) (lv:=σ.H.lv) (E:=σ.H.E) hu hkt q3 s (y,vx) rfl;refine⟨.any,_,.any,{σ.H with L:=σ.H.L.set i (some (.map ((zc5 ms s (y,vx)).map λp=>(.str p.1,p.2.2))))},ρ,?_,by simp[VR],?_,h⟩;rw[<-hR.lv];exact hup
 exact hR.upd ho trivial h1 h2 (.mp ty τ (zc5 es s y)) (.map ((zc5 ms s (y,vx)).map λp=>(.str p.1,p.2.2))) (by
  simp only[OR];refine⟨i,zc5 ms s (y,vx),h2,?_,λp hp =>?_,by simp[hlt]⟩;rw[q2];exact z01g Prod.fst s (y,vx) ms
  rcases z03c hp with h|h
  rw[h];exact hv
  exact q4 p h)
 cases h;cases h;cases h
omit hD in
theorem yp5{R}(hR:TRr D F ρ ts σ){b x vx k}{r:R}(h:z01h D ts x b k=some r)(hx:VR D ρ F.lv x vx) :
  ∃z ts' v H' ρ',yji σ.H vx b=some (v,H')∧VR D ρ' F.lv z v∧TRr D F ρ' ts' {σ with H:=H'}∧k z ts'=some r:=by
 unfold z01h at h;split at h;rename_i s;simp only[VR]at hx;obtain⟨sl,i,h1,h2,rfl⟩:=hx;split at h;rename_i l pos ho;obtain⟨sl',k1,k2⟩:=hR.ob s _ ho;rw[h1]at k1;cases k1;simp[OR]at k2;obtain⟨i',q1,q2⟩:=k2;rw[h2]at q1;cases q1;have hlt:=(Qaa.1 q2).1;rw[yag]at h;split at h;rename_i hc;have hc':=Qac hc
 refine⟨_,_,.tup [.bool true,.int .i64 pos,.int .i32 (zde l pos).1],σ.H.set F.lv i (.siter l (pos+(zde l pos).2)),ρ,?_,?_,?_,h⟩;simp only[yji,hR.get q2];rw[Qbq hc'];simp only[VR,VRL];exact⟨_,rfl,_,_,rfl,rfl,_,_,rfl,rfl,_,_,rfl,rfl,rfl⟩;rw[hR.y6y];exact hR.upd ho trivial h1 h2 _ _ (by grind[OR]);rename_i hc;have hc':=λh=>hc (Qbm h)
 refine⟨_,_,.tup [.bool false],σ.H,ρ,?_,?_,hR,h⟩;simp only[yji,hR.get q2];rw[Qbr hc'];simp only[VR,VRL];grind;cases h;cases h
omit hD in
theorem DRL.take{t xs ws}(h:DRL D t xs ws)(n):DRL D t (xs.take n) (ws.take n):=by
 refine⟨by simp[h.1],λj x w hx hw =>?_⟩;rw[Qaw]at hx hw;split at hx;rename_i hj;rw[Qbq hj]at hw;exact h.2 j x w hx hw;cases hx
omit hD in
theorem DRL.drop{t xs ws}(h:DRL D t xs ws)(n):DRL D t (xs.drop n) (ws.drop n):=by
 refine⟨by simp[h.1],λj x w hx hw =>?_⟩;rw[Qbb]at hx hw;exact h.2 _ x w hx hw
omit hD in
theorem yej{R}(hR:TRr D F ρ ts σ){t x lo vx vlo k kf}{r:R}(h:tCut P D ts t x lo k kf=some r)(hx:VR D ρ F.lv x vx)(hlo:VR D ρ F.lv lo vlo) :
  (∃z v,zhz P σ.H t vx (some vlo) none none=some v∧VR D ρ F.lv z v∧k z=some r)∨kf=some r:=by
 unfold tCut at h;split at h;rename_i s a;split at h;rename_i e ty τ xs hu ho;split at h;rename_i hc;left;obtain⟨_,hcut,h⟩:=z1p h;unfold yrd at hcut;split at hcut;rename_i hcut';obtain⟨c1,c2,c3⟩:=hcut';simp[VR]at hx hlo;subst hlo;obtain⟨sl,h1,rfl,hleaf⟩:=hx;obtain⟨sl',k1,k2⟩:=hR.ob s _ ho;rw[h1]at k1;cases k1;simp only[OR]at k2;obtain⟨q1,q2,q3⟩:=k2
 cases hk:sl.k with
 |none=>
  rw[hk]at q3
  rcases q3 with ⟨_,e2⟩|⟨_,e2⟩
  grind
  grind
 |some j=>
  rw[hk]at q3;obtain⟨ver,cp,e1,e2⟩:=q3;have hp:=y2n (P:=P) (n:=sl.ws.length) hu hc.1 hc.2 (hR.get e2) (a:=a) c1 (by omega);refine⟨_,_,by rw[e1];exact hp,?_,h⟩;simp only[VR];refine⟨sl,j,ver,h1,hk,e1,c1,by omega,?_⟩;split;exact .inl rfl
  grind
 cases hcut;cases h;cases h;exact .inr h
omit hD in
theorem yr4{R}(hR:TRr D F ρ ts σ){t d s vd vs k}{r:R}(h:yym P D ts t d s k=some r)(hd:VR D ρ F.lv d vd)(hs:VR D ρ F.lv s vs) :
  ∃z ts' v H' ρ',y52 P σ.H t vd vs=some (v,H')∧VR D ρ' F.lv z v∧TRr D F ρ' ts' {σ with H:=H'}∧k z ts'=some r:=by
 unfold yym at h;split at h;rename_i s a s' b;split at h;rename_i hss;subst hss;split at h;rename_i e ty τ xs hu ho;split at h;rename_i hc;obtain⟨ys,hys,h⟩:=z1p h;unfold y24 at hys;split at hys;rename_i hb;injection hys with hys;obtain⟨b1,b2,b3,b4⟩:=hb;simp only[VR]at hd hs;obtain⟨sl,j,ver,d1,d2,d3,d4,d5,d6⟩:=hd;obtain⟨sl1,j1,ver1,f1,f2,f3,f4,f5,f6⟩:=hs;rw[d1]at f1;cases f1;rw[d2]at f2;cases f2;rw[d3]at f3;cases f3
 obtain⟨sl',k1,k2⟩:=hR.ob s _ ho;rw[d1]at k1;cases k1;simp only[OR]at k2;obtain⟨q1,q2,q3⟩:=k2;rw[d2]at q3;obtain⟨ver',cp,e1,e2⟩:=q3;rw[d3]at e1;cases e1;have hlt:=(Qaa.1 e2).1
 have f6':vs = .hs F.lv j ver b.toNat (sl.ws.length-b.toNat) false:=by
  grind
 subst f6'
 let n:=min (sl.ws.length-b.toNat) (sl.ws.length-a.toNat)
 let ws':=sl.ws.take a.toNat++((sl.ws.drop b.toNat).take n++sl.ws.drop (a.toNat+n))
 let sl':Slot:=⟨sl.v,some j,ws',[]⟩
 have hwl:ws'.length=sl.ws.length:=by grind
 have hdrl:DRL D τ ys ws':=by
  rw[<-hys];simp[ws',n,q1];exact(DRL.take ⟨q1,q2⟩ _).append (((DRL.drop ⟨q1,q2⟩ _).take _).append (DRL.drop ⟨q1,q2⟩ _))
 have hor:OR D (ρ++[sl']) F.lv (σ.H.L.set j (some (.arr ver ty (D.len τ) ws' cp))) sl' (.acc ty τ ys true):=by
  simp only[OR];refine⟨hdrl.1,hdrl.2,ver,cp,?_,by simp[sl',hlt]⟩
  grind
 have hm:=hR.move ho trivial d1 d2 (.acc ty τ ys true) (.arr ver ty (D.len τ) ws' cp) sl' rfl hor;have hm2:=hm.zdi (TV.ren D s ts.nx) λx v hxv=>VR.ren (lookup_append d1) (sl':=sl') (by rw[<-hR.nx];simp) rfl hxv
 have hget:=hR.get e2
 rcases d6 with d6|⟨d6,sz,rfl⟩
 subst d6;refine⟨.any,_,.int .i64 (min (sl.ws.length-b.toNat) (sl.ws.length-a.toNat):Nat),σ.H.set F.lv j (.arr ver ty (D.len τ) ws' cp),ρ++[sl'],?_,by simp[VR],?_,h⟩;simp only[y52,hu,hget];rw[Qbq hc.2,Qbq ⟨trivial,trivial,trivial⟩,Qbq ⟨trivial,hc.1⟩];rw[hR.y6y];exact hm2;have hn:n=0:=by simp[n];omega
 have hws:ws'=sl.ws:=by
  simp[ws',hn,List.take_append_drop]
 have hset:σ.H.L.set j (some (.arr ver ty (D.len τ) ws' cp))=σ.H.L:=by
  rw[hws];refine List.ext_getElem? λq =>?_
  rw[Qbd];split
  grind
  rfl
 rw[hset]at hm2;refine⟨.any,_,.int .i64 0,σ.H,ρ++[sl'],?_,by simp[VR],hm2,h⟩
 simp_all[y52]
 cases hys;cases h;cases h;cases h;cases h
theorem yjj{R}(hR:TRr D F ρ ts σ){op k kf}{r:R}(h:tOp P D ts op k kf=some r) :
  (∃z ts' v H' ρ',ox P σ.H σ.ev op=some (v,H')∧VR D ρ' F.lv z v∧TRr D F ρ' ts' {σ with H:=H'}∧k z ts'=some r)∨∃s,kf s=some r:=by
 have pure:∀{op:Op},tP P D ts op (λv=>k v ts) kf=some r->(∃z ts' v H' ρ',ox P σ.H σ.ev op=some (v,H')∧VR D ρ' F.lv z v∧TRr D F ρ' ts' {σ with H:=H'}∧k z ts'=some r)∨∃s,kf s=some r:=λ{op} h=>by
  rcases ycs hD hR h with ⟨x,v,h1,h2,h3⟩|h
  exact .inl ⟨x,ts,v,σ.H,ρ,yre h1,h2,hR,h3⟩;exact .inr h
 unfold tOp at h;split at h;split at h;rename_i z hz;split at h;rename_i hs;left;obtain⟨v,h1,h2⟩:=zk8 (ρ:=ρ) (lv:=F.lv) hz;obtain⟨h3,h4⟩:=hR.yd2 hD (h2.cells hs);exact⟨_,_,_,_,_,by simp only[ox,ye0,h1];rw[Qbq (h2.kzh hs)],h4,h3,h⟩;cases h;cases h;split at h;rename_i x hx;split at h;rename_i hs;left;have h2:=hR.ev hx;obtain⟨h3,h4⟩:=hR.yd2 hD (h2.cells hs)
 exact⟨_,_,_,_,_,by simp only[ox,hBox];rw[Qbq (h2.kzh hs)],h4,h3,h⟩;cases h;cases h;split at h;rename_i ha hx
 rcases ykl hD hR h (hR.ev ha) (hR.ev hx)with ⟨z,ts',v,H',ρ',h1,h2⟩|h
 grind[ox]
 exact .inr h;cases h;split at h;rename_i r' hr;left;obtain⟨a1,a2⟩:=hR.oev hr;obtain⟨z,ts',v,H',ρ',h1,h2⟩:=yci hR h a1 a2
 grind[ox]
 cases h;split at h;rename_i hm hk hx;left;obtain⟨z,ts',v,H',ρ',h1,h2⟩:=y0j hD hR h (hR.ev hm) (hR.ev hk) (hR.ev hx)
 grind[ox]
 cases h;split at h;rename_i hm hk hx;left;obtain⟨z,ts',v,H',ρ',h1,h2⟩:=y0j hD hR h (hR.ev hm) (hR.ev hk) (hR.ev hx)
 grind[ox]
 cases h;split at h;rename_i str hx;split at h;rename_i hu;left;have h1:=hR.ev hx;simp[VR]at h1;refine⟨_,_,.ptr σ.H.lv σ.H.L.length 0,σ.H.push (.siter str 0),ρ++[⟨.any,some σ.H.L.length,[],[]⟩],by simp[ox,ynl,h1,hu],?_,?_,h⟩;simp only[VR];exact⟨⟨.any,some σ.H.L.length,[],[]⟩,σ.H.L.length,by rw[<-hR.nx];simp,rfl,by rw[hR.lv]⟩
 exact hR.new _ _ _ hR.lv hR.E (by simp[Heap.push]) (λi hi=>by grind[Heap.push]) (λi hi=>by grind)
  (by simp only[OR];exact⟨σ.H.L.length,rfl,by simp[Heap.push]⟩)
 cases h;cases h;split at h;rename_i hi;left;obtain⟨z,ts',v,H',ρ',h1,h2⟩:=yp5 hR h (hR.ev hi)
 grind[ox]
 cases h;split at h;rename_i c;split at h;rename_i s x t u hcal hargs htys;split at h;rename_i hs hx
 rcases ydx hD hR h (hR.ev hs) (hR.ev hx)with ⟨z,ts',v,H',ρ',h1,h2⟩|h
 grind[ox]
 exact .inr h;rename_i hs hx;left;obtain⟨z,ts',v,H',ρ',h1,h2,h2b,h2c,_⟩:=y0i hR h (hR.ev hs) (hR.ev hx)
 grind[ox]
 cases h;rename_i d s t u hcal hargs htys;split at h;rename_i hd hs;left;obtain⟨z,ts',v,H',ρ',h1,h2⟩:=yr4 hR h (hR.ev hd) (hR.ev hs)
 grind[ox]
 cases h;exact pure h;exact pure h
end
section
variable {P : Program} {D : Dat} {F : Fr} {ρ : List Slot} {ts : TS D.T} {σ : St} {lv : Nat} {L : List (Option kzg)}
def Slot.all(sl:Slot):List Nat:=sl.k.toList++sl.fp
theorem Slot.zyb{sl:Slot}{i}:i∈sl.all↔sl.has i:=by
 simp_all[Slot.all,Slot.has]
theorem y2s{t}(h:D.zo4 t=true):∀i f,f<(D.fl i).length->t = .st i->D.ow i f=none:=λi f hf e=>by
 simp_all[Dat.zo4,Dat.owns]
theorem z05x{ty t xs sl}(h:OR D ρ lv L sl (.acc ty t xs true))(ht:D.zo4 t=true):DO D lv L (.own ty) (.sl t) xs sl.v sl.k.toList:=by
 simp only[OR]at h;obtain⟨h1,h2,h3⟩:=h
 cases hk:sl.k with
 |none=>
  rw[hk]at h3;have hx:sl.ws=[]->xs=[]:=λe=>Qao (by rw[<-h1,e];rfl)
  rcases h3 with ⟨e1,e2⟩|⟨⟨e1,_⟩,e2⟩
  have:=hx e2;subst this;rw[e1];exact .nil (.nil _) (.inl rfl);have e3:=e2 trivial;have:=hx e3;subst this;rw[e1,e3]
  exact .nil (.sl _ _ _ _ rfl (λj x w hj=>by simp at hj)) (.inr rfl)
 |some j=>
  rw[hk]at h3;obtain⟨ver,cp,e1,e2⟩:=h3;rw[e1]
  have hr:([]:List Nat)=(List.replicate xs.length ([]:List Nat)).flatten:=by
   grind[List.flatten_eq_nil_iff]
  show DO D lv L (.own ty) (.sl t) xs _ (j::[]);rw[hr];refine .own e2 h1 (by simp) λn x w c a1 a2 a3 =>?_
  rw[Qbi]at a3;split at a3;cases a3;have hdr:=h2 n x w a1 a2
  cases t with
  |st i=>
   cases hdr with
   |st _ _ vs hl h=>
    have hr2:([]:List Nat)=(List.replicate (D.fl i).length ([]:List Nat)).flatten:=by
     grind[List.flatten_eq_nil_iff]
    rw[hr2];refine .el hl (by simp) λf p u b b1 b2 b3 =>?_
    rw[Qbi]at b3;split at b3;rename_i hf;cases b3;rw[y2s ht i f hf rfl];exact .dat (h f p u b1 b2)
    cases b3
   |enc=>exact .elf (y2s ht) (.enc i x)
  |_=>exact .elf (λi f _ e=>by cases e) hdr
  cases a3
theorem ymz{ty q xs sl}(h:OR D ρ lv L sl (.deep ty q xs none)):DO D lv L (.own ty) (.sl (.st q)) xs sl.v sl.all:=by
 obtain⟨h1,h3⟩:=h;unfold Slot.all
 cases hk:sl.k with
 |none=>
  rw[hk]at h3;obtain⟨rfl,e2,e3,_⟩:=h3;rw[e3]
  rcases e2 with e2|e2
  rw[e2];exact .nil (.nil _) (.inl rfl)
  rw[e2];exact .nil (.sl _ _ _ _ rfl (λj x w hj=>by simp at hj)) (.inr rfl)
 |some j=>
  rw[hk]at h3;obtain⟨ver,cp,fps,e1,e2,e3,e4,e5,e6,e7⟩:=h3;rw[e1,e4];refine .own e2 h1 e3 λn x w c a1 a2 a3 =>?_
  obtain⟨vs,cs,rfl,b2,b3,rfl,b5⟩:=e6 n x w c a1 a2 a3;exact .el b2 b3 λf p u b g1 g2 g3=>b5 f p u b g1 g2 g3
inductive VH (lv:Nat) (L:List (Option kzg)) (R:Nat->Prop):V->V->Prop where
 |keep (v:V):VH lv L R v v
 |hs (i ver ty sz n:Nat) (full:Bool) (xs ys:List V) (cp:Option Nat) (hR:R i) (hg:L[i]? = some (some (.arr ver ty sz xs cp))) (hn:ys.length=n)
  (h1:∀(j:Nat) (x y:V),xs[j]? = some x->ys[j]? = some y->x.cells.length=y.cells.length) (h2:∀(j:Nat) (x y:V) (t:Nat) (v u:V),xs[j]? = some x->ys[j]? = some y->x.cells[t]? = some v->y.cells[t]? = some u->VH lv L R v u) :
  VH lv L R (.hs lv i ver 0 n full) (.sl sz ys false)
theorem VH.rel{W g H H' R}(hGood:Good W g H)(hlv:H.lv=lv)(hL:H.L=L)(hf:∀{x:V}{c:Value},Rel W g H x c->Rel W g H' x c)(hloc:∀i o,R i->H.get H.lv i=some o->¬Own g H' (o.blk g H.lv i)){v u}(h:VH lv L R v u):∀{c},Rel W g H v c->Rel W g H' u c:=by
 induction h with
 |keep v=>exact λh=>hf h
 |hs i ver ty sz n full xs ys cp hR hg' hn h1 h2 ih=>
  intro c hc
  have hg:H.get H.lv i=some (.arr ver ty sz xs cp):=by
   unfold Heap.get;grind
  subst hlv
  cases hc with
  |hs _ _ _ _ _ _ a m cap hd hv ha=>
   obtain⟨rfl,rfl,⟨hcap',hcap2,hff⟩,hle⟩:=ha _ _ _ _ hg;obtain⟨cur,k1,k2,k3,k3',k4,k5,k6⟩:=y59 hGood hg
   have get:∀j y,ys[j]? = some y->∃x,xs[j]? = some x∧j<m:=λj y hj=>by
    grind
   have cells:∀(j:Nat) (y:V) (t:Nat) (u:V),ys[j]? = some y->y.cells[t]? = some u->∃x v,xs[j]? = some x∧x.cells[t]? = some v∧Rel W g H' u (cur.getD (j * sz+t) undef)∧(cur.getD (j * sz+t) undef).oneCell'=true∧j * sz+t<cur.size:=λj y t u hj ht=>by
    obtain⟨x,hx,hjm⟩:=get j y hj;have hl:=h1 j x y hx hj;have hxl:=k6.1 _ _ hx;have htl:=(Qaa.1 ht).1;have hv':x.cells[t]? = some (x.cells[t]'(by omega)):=Qab _;refine⟨x,_,hx,hv',ih j x y t _ u hx hj hv' ht (k6.2.2 _ _ _ _ hx hv'),k6.2.1 _ _ _ _ hx hv',?_⟩;rw[k3];exact y78 (by omega) (by omega)
   rw[<-hn];refine .sl sz ys false (g.ab H.lv i) (0 * sz) cap (λj t=>cur.getD (j * sz+t) undef) (λho=>hloc i _ hR hg ho) k2 (by omega) (by simp) (λj y hj =>?_) (λj y t u hj ht =>?_) (λj y t u hj ht =>?_) (λj y t u hj ht =>?_);obtain⟨x,hx,_⟩:=get j y hj;rw[<-h1 j x y hx hj];exact k6.1 _ _ hx;obtain⟨x,v,_,_,_,_,e⟩:=cells j y t u hj ht;have:=cell_of k1 e
   grind
   obtain⟨x,v,_,_,_,e,_⟩:=cells j y t u hj ht;exact e;obtain⟨x,v,_,_,e,_,_⟩:=cells j y t u hj ht;exact e
def SeenH(lv:Nat)(L:List (Option kzg))(R:Nat->Prop):OM->V->V->Prop
 |.el,v,u=>v.cells.length=u.cells.length∧∀(j:Nat) (a b),v.cells[j]? = some a->u.cells[j]? = some b->VH lv L R a b
 |.dat,v,u=>VH lv L R v u
 |.own _,v,u=>VH lv L R v u
theorem DO.seeH{R:Nat->Prop}{m:OM}{t:DTy}{x:t.S D.T}{v:V}{fp:List Nat}(h:DO D lv L m t x v fp):(∀i∈fp,R i)->∃u,DR D t x u∧SeenH lv L R m v u:=by
 induction h with
 |dat h=>exact λ_=>⟨_,h,.keep _⟩
 |nil h hv=>exact λ_=>⟨_,h,.keep _⟩
 | @own ty t xs j ver cp ws fps hL hl hf he ih=>
   intro hR
   obtain⟨us,e1,e2⟩:=zjy (Q:=λn u=>∀(x:t.S D.T) (w:V),xs[n]? = some x->ws[n]? = some w->DR D t x u∧w.cells.length=u.cells.length∧∀(j:Nat) (a b:V),w.cells[j]? = some a->u.cells[j]? = some b->VH lv L R a b) xs.length λn hn=>by
    have hc:fps[n]? = some (fps[n]'(by omega)):=Qab (show n<fps.length by omega);obtain⟨u,h1,h2⟩:=ih n _ _ _ (Qab hn) (Qab (show n<ws.length by omega)) hc (λi hi=>hR i (Qai _ (List.mem_flatten.2 ⟨_,Qax hc,hi⟩)));refine⟨u,λx w hx hw =>?_⟩
    rw[Qab hn]at hx;injection hx with hx;subst hx
    rw[Qab (show n<ws.length by omega)]at hw;injection hw with hw;subst hw
    exact⟨h1,h2⟩
   refine⟨.sl (D.len t) us false,.sl t xs us false e1 λn x u hx hu =>?_,?_⟩;have hn:=(Qaa.1 hx).1;exact(e2 n u hu x _ hx (Qab (show n<ws.length by omega))).1;refine .hs j ver ty (D.len t) ws.length false ws us cp (hR j Qak) hL (by omega) (λn w u hw hu =>?_) λn w u c a b hw hu ha hb =>?_
   have hn:=(Qaa.1 hw).1;exact(e2 n u hu _ w (Qab (show n<xs.length by omega)) hw).2.1;have hn:=(Qaa.1 hw).1
   exact(e2 n u hu _ w (Qab (show n<xs.length by omega)) hw).2.2 c a b ha hb
 | @el i x vs cs hl hc h ih=>
   intro hR
   obtain⟨us,e1,e2⟩:=zjy (Q:=λf u=>∀(p:(t:DTy)×t.S D.T) (w:V),HL.nth (D.fl i) (D.get i x) f=some p->vs[f]? = some w->DR D p.1 p.2 u∧VH lv L R w u) (D.fl i).length λf hf=>by
    obtain⟨p,hp,_⟩:=HL.zkl (D.fl i) (D.get i x) f hf;have hcf:cs[f]? = some (cs[f]'(by omega)):=Qab (show f<cs.length by omega);obtain⟨u,h1,h2⟩:=ih f p _ _ hp (Qab (show f<vs.length by omega)) hcf (λi hi=>hR i (List.mem_flatten.2 ⟨_,Qax hcf,hi⟩));refine⟨u,λp' w hp' hw =>?_⟩
    rw[hp]at hp';injection hp' with hp';subst hp'
    rw[Qab (show f<vs.length by omega)]at hw;injection hw with hw;subst hw
    refine⟨h1,?_⟩
    cases how:D.ow i f with
    |none=>rw[how]at h2;exact h2
    |some ty=>rw[how]at h2;exact h2
   refine⟨.agg us,.st i x us e1 λf p u hp hu =>?_,?_⟩;have hf:=(HL.zg4 _ _ _ _ hp).1;exact(e2 f u hu p _ hp (Qab (show f<vs.length by omega))).1;refine⟨by show vs.length=us.length;omega,λf a b ha hb =>?_⟩;replace ha:vs[f]? = some a:=ha;replace hb:us[f]? = some b:=hb;have hf:=(Qaa.1 ha).1;obtain⟨p,hp,_⟩:=HL.zkl (D.fl i) (D.get i x) f (by omega)
   exact(e2 f b hb p a hp ha).2
 |elf ht h=>exact λ_=>⟨_,h,rfl,λj a b ha hb=>by rw[ha]at hb;injection hb with hb;subst hb;exact .keep _⟩
def y7t(L:List (Option kzg))(all:List Nat)(os:List (Nat×kzg)):List (Option kzg):=(List.range L.length).map λk=>if k∈all then none else match os.find? (λp=>p.1==k)with|some p=>some p.2|none=>(L[k]?).join
theorem zya(L)(all)(os):(y7t L all os).length=L.length:=by simp[y7t]
theorem zy2{L all os k}(hk:k<L.length):(y7t L all os)[k]? = some (if k∈all then none else match os.find? (λp=>p.1==k)with|some p=>some p.2|none=>(L[k]?).join):=by
 grind[y7t]
theorem yy1{σ:St}{all:List Nat}{v r:V}(hd:σ.d=[])(hv:VH σ.H.lv σ.H.L (· ∈ all) v r){os os':List (Nat×kzg)}(h5:(os.map (·.1)).Nodup)(hos:FOL v r os os')(h4:∀p∈os,σ.H.L[p.1]? = some (some p.2)∧p.1∉all)
  {t':List V} (ht:FVL v r σ.t t') :
  zlf σ ⟨t',⟨σ.H.lv,y7t σ.H.L all os',σ.H.E⟩,[],σ.e0⟩∧(∀p'∈os',(y7t σ.H.L all os')[p'.1]? = some (some p'.2))∧∀n,n<σ.H.L.length->n∉all->(∀p∈os,p.1≠n)->(y7t σ.H.L all os')[n]? = σ.H.L[n]? := by
 have hnd:(os'.map (·.1)).Nodup:=by rw[hos.map];exact h5
 have hfind:∀p'∈os',os'.find? (λp=>p.1==p'.1)=some p':=λp' hp'=>by
  cases hq:os'.find? (λp=>p.1==p'.1)with
  |none=>rw[List.find?_eq_none]at hq;have:=hq p' hp';simp at this
  |some q=>
   have hq1:=List.find?_some hq;have hq2:=List.mem_of_find?_eq_some hq;simp at hq1;obtain⟨a,ha⟩:=List.mem_iff_getElem?.1 hp';obtain⟨b,hb⟩:=List.mem_iff_getElem?.1 hq2;have ha':(os'.map (·.1))[a]? = some p'.1:=by simp[ha]
   have hb':(os'.map (·.1))[b]? = some p'.1:=by simp[hb,hq1]
   have hlt:=(Qaa.1 ha').1;have:=(List.getElem?_inj hlt hnd).1 (ha'.trans hb'.symm);subst this;rw[ha]at hb;exact hb.symm
 have hfor:∀p'∈os',∃o,σ.H.L[p'.1]? = some (some o)∧p'.1∉all∧FO v r o p'.2:=λp' hp'=>by
  obtain⟨o,ho,hf⟩:=hos.mem p' hp';exact⟨o,(h4 _ ho).1,(h4 _ ho).2,hf⟩
 refine⟨?_,λp' hp' =>?_,λn hn hni hno =>?_⟩;refine ycp (v:=v) (r:=r) (zya _ _ _) (λm o' hm =>?_) ht hd λW g hG hown hf c hc =>?_
 have hlt:m<σ.H.L.length:=by have:=(Qaa.1 hm).1;rw[zya]at this;exact this
 rw[zy2 hlt]at hm;injection hm with hm;split at hm;cases hm;split at hm;rename_i p hp;injection hm with hm;have hp1:=List.find?_some hp;simp at hp1;obtain⟨o,h1,_,h3⟩:=hfor p (List.mem_of_find?_eq_some hp);exact⟨o,by rw[<-hp1];exact h1,by rw[<-hm];exact h3⟩;refine⟨o',?_,.inl rfl⟩;rw[Qab hlt]at hm ⊢;simp at hm;rw[hm];refine VH.rel hG rfl rfl hf (λi o hi hget ⟨l,i',o',ho',hob⟩ =>?_) hv hc
 have hgot:∃o,σ.H.get l i'=some o∧o'.blk g l i'=o.blk g l i'∧¬(l=σ.H.lv∧i'∈all):=by
  unfold Heap.get at ho' ⊢;dsimp only at ho' ⊢;by_cases hl:l=σ.H.lv;rw[Qbq hl]at ho' ⊢
  cases hq:(y7t σ.H.L all os')[i']? with
  |none=>rw[hq]at ho';simp at ho'
  |some q=>
   have hlt:i'<σ.H.L.length:=by have:=(Qaa.1 hq).1;rw[zya]at this;exact this
   rw[zy2 hlt]at ho';simp only[Option.join_some]at ho';split at ho';cases ho';rename_i hne;split at ho';rename_i p hp;injection ho' with ho';have hp1:=List.find?_some hp;simp at hp1;obtain⟨o,h1,_,h3⟩:=hfor p (List.mem_of_find?_eq_some hp);rw[hp1]at h1;exact⟨o,by rw[h1];rfl,by rw[<-ho'];exact h3.blk g l i',λe=>hne e.2⟩;exact⟨o',ho',rfl,λe=>hne e.2⟩
  rw[Qbr hl]at ho' ⊢;exact⟨o',ho',rfl,λe=>hl e.1⟩
 obtain⟨o2,w1,w2,w3⟩:=hgot;obtain⟨e1,e2⟩:=hG.inj _ _ _ _ _ _ w1 hget (by rw[<-w2];exact hob);exact w3 ⟨e1,by rw[e2];exact hi⟩;obtain⟨o,h1,h2,_⟩:=hfor p' hp';have hlt:=(Qaa.1 h1).1;rw[zy2 hlt,Qbr h2,hfind p' hp'];rw[zy2 hn,Qbr hni]
 have:os'.find? (λp=>p.1==n)=none:=by
  rw[List.find?_eq_none];intro p hp;have:p.1∈os.map (·.1):=by rw[<-hos.map];exact List.mem_map_of_mem hp
  obtain⟨q,hq,hqn⟩:=Qbc.1 this;have:=hno q hq;simp;omega
 rw[this,Qab hn];rfl
end
section
variable {P : Program} {D : Dat} {F : Fr} {ρ : List Slot} {ts : TS D.T} {σ : St} {lv : Nat}
mutual
theorem yvk{s:Nat}{m:Bool}{z:TV D.T}{v0 r:V}(h1:∀v,VR D ρ lv (match m with|true=>TV.map s|false=>TV.own s) v->v=v0)(hr:VR D ρ lv z r):∀{x:TV D.T}{v:V},VR D ρ lv x v->∃v',FV v0 r v v'∧VR D ρ lv (TV.frz D s m z x) v'
 |.own j,v,h=>by
  cases m with
  |true=>exact⟨v,.keep _,by simpa only[TV.frz]using h⟩
  |false=>
   simp only[TV.frz];split;rename_i hj;subst hj;obtain rfl:=h1 v h;exact⟨r,.it,hr⟩
   exact⟨v,.keep _,h⟩
 |.map j,v,h=>by
  cases m with
  |false=>exact⟨v,.keep _,by simpa only[TV.frz]using h⟩
  |true=>
   simp only[TV.frz];split;rename_i hj;subst hj;obtain rfl:=h1 v h;exact⟨r,.it,hr⟩
   exact⟨v,.keep _,h⟩
 |.agg cs,v,h=>by
  simp only[TV.frz,VR]at h ⊢;obtain⟨vs,rfl,k2⟩:=h;obtain⟨us,q1,q2⟩:=y48 h1 hr k2
  exact⟨.agg us,.agg' q1,us,rfl,q2⟩
 |.tup cs,v,h=>by
  simp only[TV.frz,VR]at h ⊢;obtain⟨vs,rfl,k2⟩:=h;obtain⟨us,q1,q2⟩:=y48 h1 hr k2
  exact⟨.tup us,.tup' q1,us,rfl,q2⟩
 |.dp j i off,v,h=>⟨v,.keep _,by simpa only[TV.frz]using h⟩
 |.bsl q cs,v,h=>⟨v,.keep _,by simp only[TV.frz,VR]⟩
 |.any,v,h=>⟨v,.keep _,by simpa only[TV.frz]using h⟩
 |.bool b,v,h=>⟨v,.keep _,by simpa only[TV.frz]using h⟩
 |.int k n,v,h=>⟨v,.keep _,by simpa only[TV.frz]using h⟩
 |.str b,v,h=>⟨v,.keep _,by simpa only[TV.frz]using h⟩
 |.nilp,v,h=>⟨v,.keep _,by simpa only[TV.frz]using h⟩
 |.nils,v,h=>⟨v,.keep _,by simpa only[TV.frz]using h⟩
 |.mapn,v,h=>⟨v,.keep _,by simpa only[TV.frz]using h⟩
 |.nilf,v,h=>⟨v,.keep _,by simpa only[TV.frz]using h⟩
 |.nili,v,h=>⟨v,.keep _,by simpa only[TV.frz]using h⟩
 |.sl t' ys fl,v,h=>⟨v,.keep _,by simpa only[TV.frz]using h⟩
 |.ptr j off,v,h=>⟨v,.keep _,by simpa only[TV.frz]using h⟩
 |.bp j off,v,h=>⟨v,.keep _,by simpa only[TV.frz]using h⟩
 |.osl j lo,v,h=>⟨v,.keep _,by simpa only[TV.frz]using h⟩
 |.mc t' es,v,h=>⟨v,.keep _,by simpa only[TV.frz]using h⟩
 |.ref cs off,v,h=>⟨v,.keep _,by simpa only[TV.frz]using h⟩
 |.ap j t' i x off,v,h=>⟨v,.keep _,by simpa only[TV.frz]using h⟩
 |.fn f a b,v,h=>⟨v,.keep _,by simpa only[TV.frz]using h⟩
 |.iface t' x,v,h=>⟨v,.keep _,by simpa only[TV.frz]using h⟩
theorem y48{s:Nat}{m:Bool}{z:TV D.T}{v0 r:V}(h1:∀v,VR D ρ lv (match m with|true=>TV.map s|false=>TV.own s) v->v=v0)(hr:VR D ρ lv z r):∀{cs:List (TV D.T)}{vs:List V},VRL D ρ lv cs vs->∃us,FVL v0 r vs us∧VRL D ρ lv (TV.ypy D s m z cs) us
 |[],vs,h=>by simp only[TV.ypy,VRL]at h ⊢;subst h;exact⟨[],.nil,rfl⟩
 |c::cs,vs,h=>by
  simp only[TV.ypy,VRL]at h ⊢;obtain⟨v,q,rfl,k2,k3⟩:=h;obtain⟨v',a1,a2⟩:=yvk h1 hr k2;obtain⟨us,b1,b2⟩:=y48 h1 hr k3;exact⟨v'::us,.cons a1 b1,v',us,rfl,a2,b2⟩
end
theorem yqu(s)(m)(z):∀cs:List (TV D.T),TV.ypy D s m z cs=cs.map (TV.frz D s m z)
 |[]=>rfl
 |c::cs=>by simp[TV.ypy,yqu s m z cs]
theorem y40{s m z v0 r}(h1:∀v,VR D ρ lv (match m with|true=>TV.map s|false=>TV.own s) v->v=v0)(hr:VR D ρ lv z r)(f:Nat->Option (TV D.T)):∀(l) (k),(∀j x v,f (k+j)=some x->l[j]? = some v->VR D ρ lv x v) ->
  ∃l',FVL v0 r l l'∧∀j x v,f (k+j)=some x->l'[j]? = some v->VR D ρ lv (TV.frz D s m z x) v
 |[],k,h=>⟨[],.nil,λj x v _ hv=>by simp at hv⟩
 |u::l,k,h=>by
  obtain⟨l',a1,a2⟩:=y40 h1 hr f l (k+1) λj x v hx hv=>h (j+1) x v (by grind) (by simpa using hv)
  cases hf:f k with
  |none=>
   refine⟨u::l',.cons (.keep _) a1,λj x v hx hv =>?_⟩
   cases j with
   |zero=>grind
   |succ j=>grind
  |some y=>
   obtain⟨u',b1,b2⟩:=yvk h1 hr (h 0 y u (by simpa using hf) rfl);refine⟨u'::l',.cons b1 a1,λj x v hx hv =>?_⟩
   cases j with
   |zero=>simp_all
   |succ j=>grind
theorem y3z(hR:TRr D F ρ ts σ){s:Nat}{m:Bool}{z:TV D.T}{v0 r:V}(hz:∀q,z ≠ .own q)(h1:∀v,VR D ρ F.lv (match m with|true=>TV.map s|false=>TV.own s) v->v=v0)(hr:VR D ρ F.lv z r):∀n:Nat,∃os os':List (Nat×kzg),FOL v0 r os os'∧(os.map (·.1)).Nodup ∧
  (∀p∈os,σ.H.L[p.1]? = some (some p.2)∧∃s' o sl',s'<n∧s'≠s∧fnd ts.o s'=some o∧o.live∧ρ[s']? = some sl'∧sl'.k=some p.1) ∧
  ∀s' o sl' i,s'<n->s'≠s->fnd ts.o s'=some o->o.live->ρ[s']? = some sl'->sl'.k=some i->∃ao,(i,ao)∈os'∧∀L',L'[i]? = some (some ao)->(∀j∈sl'.fp,L'[j]? = σ.H.L[j]?)->OR D ρ F.lv L' sl' (TO.map D (TV.frz D s m z) o)
 |0=>⟨[],[],.refl _,by simp,by simp,λs' o sl' i h=>by omega⟩
 |n+1=>by
  obtain⟨os,os',a1,a2,a3,a4⟩:=y3z hR hz h1 hr n
  have skip:(∀o sl' i,n≠s->fnd ts.o n=some o->o.live->ρ[n]? = some sl'->sl'.k=some i->False)->∃os os':List (Nat×kzg),FOL v0 r os os'∧(os.map (·.1)).Nodup ∧
    (∀p∈os,σ.H.L[p.1]? = some (some p.2)∧∃s' o sl',s'<n+1∧s'≠s∧fnd ts.o s'=some o∧o.live∧ρ[s']? = some sl'∧sl'.k=some p.1) ∧
    ∀s' o sl' i,s'<n+1->s'≠s->fnd ts.o s'=some o->o.live->ρ[s']? = some sl'->sl'.k=some i->∃ao,(i,ao)∈os'∧∀L',L'[i]? = some (some ao)->(∀j∈sl'.fp,L'[j]? = σ.H.L[j]?)->OR D ρ F.lv L' sl' (TO.map D (TV.frz D s m z) o):=λhno=>
   ⟨os,os',a1,a2,λp hp=>by obtain⟨b1,s',o,sl',b2,b3⟩:=a3 p hp;exact⟨b1,s',o,sl',by omega,b3⟩,λs' o sl' i c1 c2 c3 c4 c5 c6=>by
     by_cases e:s'=n;subst e;exact(hno o sl' i c2 c3 c4 c5 c6).elim
     exact a4 s' o sl' i (by omega) c2 c3 c4 c5 c6⟩
  by_cases hns:n=s;exact skip λo sl' i hne=>(hne hns).elim
  ·cases ho:fnd ts.o n with
   |none=>exact skip λo sl' i _ h=>by rw[ho]at h;cases h
   |some o=>
    obtain⟨sl',k1,k2⟩:=hR.ob n o ho;by_cases hl:o.live
    ·cases hk:sl'.k with
     |none=>exact skip λo' sl2 i _ h hl' h2 h3=>by rw[k1]at h2;injection h2 with h2;subst h2;rw[hk]at h3;cases h3
     |some i=>
      obtain⟨a,ha⟩:=k2.at hl hk
      have hfresh:i∉os.map (·.1):=λhm=>by
       obtain⟨p,hp,hpi⟩:=Qbc.1 hm;obtain⟨b1,s',o',sl2,b2,b3,b4,b5,b6,b7⟩:=a3 p hp;have:=hR.inj n s' o o' sl' sl2 i ho b4 hl b5 k1 b6 (.inl hk) (.inl (by rw[b7,hpi]));omega
      have step:∀a':kzg,FO v0 r a a'->(∀L':List (Option kzg),L'[i]? = some (some a')->(∀j∈sl'.fp,L'[j]? = σ.H.L[j]?)->OR D ρ F.lv L' sl' (TO.map D (TV.frz D s m z) o))->∃os os':List (Nat×kzg),FOL v0 r os os'∧(os.map (·.1)).Nodup ∧
        (∀p∈os,σ.H.L[p.1]? = some (some p.2)∧∃s' o sl',s'<n+1∧s'≠s∧fnd ts.o s'=some o∧o.live∧ρ[s']? = some sl'∧sl'.k=some p.1) ∧
        ∀s' o sl' i,s'<n+1->s'≠s->fnd ts.o s'=some o->o.live->ρ[s']? = some sl'->sl'.k=some i->∃ao,(i,ao)∈os'∧∀L',L'[i]? = some (some ao)->(∀j∈sl'.fp,L'[j]? = σ.H.L[j]?)->OR D ρ F.lv L' sl' (TO.map D (TV.frz D s m z) o):=λa' hfo hor=>
       ⟨(i,a)::os,(i,a')::os',.cons hfo a1,by simp only[List.map_cons,List.nodup_cons];exact⟨hfresh,a2⟩,λp hp=>by
         rcases Qbg.1 hp with rfl|hp
         exact⟨ha,n,o,sl',by omega,hns,ho,hl,k1,hk⟩
         obtain⟨b1,s',o,sl',b2,b3⟩:=a3 p hp;exact⟨b1,s',o,sl',by omega,b3⟩,λs' o2 sl2 i2 c1 c2 c3 c4 c5 c6=>by
         by_cases e:s'=n;subst e
         rw[ho]at c3;injection c3 with c3;subst c3
         rw[k1]at c5;injection c5 with c5;subst c5
         rw[hk]at c6;injection c6 with c6;subst c6
         exact⟨a',Qak,hor⟩;obtain⟨ao,d1,d2⟩:=a4 s' o2 sl2 i2 (by omega) c2 c3 c4 c5 c6
         exact⟨ao,Qai _ d1,d2⟩⟩
      cases o with
      |cells cs=>
       simp only[OR]at k2;obtain⟨i',vs,e1,e2,e3⟩:=k2
       rw[hk]at e1;injection e1 with e1;subst e1
       rw[ha]at e2;injection e2 with e2;injection e2 with e2;subst e2
       obtain⟨us,f1,f2⟩:=y48 h1 hr e3;rw[yqu]at f2
       exact step (.cells us) (.inr ⟨vs,us,rfl,rfl,f1⟩) λL' hL' hL2=>by simp only[TO.map,OR];exact⟨i,us,hk,hL',f2⟩
      |acc ty' t' xs' w'=>
       have:=k2;refine step a (.inl rfl) λL' hL' hL2 =>?_
       simp only[OR,hk]at k2;simp only[TO.map,OR,hk];obtain⟨e1,e2,ver,cp,e3,e4⟩:=k2;rw[ha]at e4
       exact⟨e1,e2,ver,cp,e3,hL'.trans e4⟩
      |rig=>simp only[OR]at k2;rw[k2.1]at hk;cases hk
      |siter l pos=>
       refine step a (.inl rfl) λL' hL' hL2 =>?_
       simp only[OR]at k2;simp only[TO.map,OR];obtain⟨i',e1,e2⟩:=k2
       rw[hk]at e1;injection e1 with e1;subst e1
       rw[ha]at e2
       exact⟨i,hk,hL'.trans e2⟩
      |mp ty' t' es'=>
       refine step a (.inl rfl) λL' hL' hL2 =>?_
       simp only[OR]at k2;simp only[TO.map,OR];obtain⟨i',ms,e1,e0,e3,e2⟩:=k2
       rw[hk]at e1;injection e1 with e1;subst e1
       rw[ha]at e2
       exact⟨i,ms,hk,e0,e3,hL'.trans e2⟩
      |mit t' last es'=>
       refine step a (.inl rfl) λL' hL' hL2 =>?_
       simp only[OR]at k2;simp only[TO.map,OR];obtain⟨i',fs,vis,e1,e0,e2,e3⟩:=k2
       rw[hk]at e1;injection e1 with e1;subst e1
       rw[ha]at e2
       exact⟨i,fs,vis,hk,e0,hL'.trans e2,e3⟩
      |bld ty' b'=>
       refine step a (.inl rfl) λL' hL' hL2 =>?_
       simp only[OR]at k2;obtain⟨i',u,c,e1,e2,e3,e4⟩:=k2
       rw[hk]at e1;injection e1 with e1;subst e1
       rw[ha]at e2
       cases b' with
       |none=>simp only[TO.map,OR];exact⟨i,u,c,hk,hL'.trans e2,e3,e4⟩
       |some q=>
        cases m with
        |true=>simp only[TO.map,TV.frz,OR];exact⟨i,u,c,hk,hL'.trans e2,e3,e4⟩
        |false=>
         simp only[TO.map,TV.frz];by_cases hq:q=s
         ·rw[Qbq hq];cases z <;> simp only[OR]
          case own q'=>exact(hz q' rfl).elim
         rw[Qbr hq];simp only[OR];exact⟨i,u,c,hk,hL'.trans e2,e3,e4⟩
      |gone=>exact hl.elim
      |deep ty' q' xs' h'=>
       have hsame:∀L':List (Option kzg),L'[i]? = some (some a)->(∀j∈sl'.fp,L'[j]? = σ.H.L[j]?)->OR D ρ F.lv L' sl' (.deep ty' q' xs' h'):=λL' hL' hL2=>by
        have:=k2.mono (L':=L') [] λj hj _=>by
         rcases hj with hj|hj
         rw[hk]at hj;injection hj with hj;subst hj;exact hL'.trans ha.symm
         exact hL2 j hj
        simpa using this
       refine step a (.inl rfl) λL' hL' hL2 =>?_
       cases h' with
       |none=>exact hsame L' hL' hL2
       |some p=>
        obtain⟨n',c',s0⟩:=p;simp only[TO.map]
        cases m with
        |true=>simp only[TV.frz];exact hsame L' hL' hL2
        |false=>
         simp only[TV.frz];by_cases hq:s0=s
         ·rw[Qbq hq];cases z <;> simp only[OR]
          case own q'=>exact(hz q' rfl).elim
         rw[Qbr hq];exact hsame L' hL' hL2
    exact skip λo' sl2 i _ h hl'=>by rw[ho]at h;injection h with h;subst h;exact(hl hl').elim
theorem yel(hR:TRr D F ρ ts σ){s:Nat}{m:Bool}{z:TV D.T}(hz:∀q,z ≠ .own q){v0 r:V}{sl:Slot}(k1:ρ[s]? = some sl)(hd0:ts.d=[]){os':List (Nat×kzg)}
  (a4:∀s' o sl' i,s'<ts.nx->s'≠s->fnd ts.o s'=some o->o.live->ρ[s']? = some sl'->sl'.k=some i->∃ao,(i,ao)∈os'∧∀L',L'[i]? = some (some ao)->(∀j∈sl'.fp,L'[j]? = σ.H.L[j]?)->OR D ρ F.lv L' sl' (TO.map D (TV.frz D s m z) o))
  {t':List V} (c1:FVL v0 r σ.t t') (c2:∀j x v,fnd ts.t (0+j)=some x->t'[j]? = some v->VR D ρ F.lv (TV.frz D s m z x) v) {L':List (Option kzg)}(d1:∀p'∈os',L'[p'.1]? = some (some p'.2)) (d3:L'.length=σ.H.L.length) (d4:∀i,F.out i->L'[i]? = σ.H.L[i]?) (d5:∀s' o sl' i,s'≠s->fnd ts.o s'=some o->o.live->ρ[s']? = some sl'->i∈sl'.fp->L'[i]? = σ.H.L[i]?) :
  TRr D F ρ {ts.zdi D (TV.frz D s m z)with o:=(s,TO.gone)::(ts.zdi D (TV.frz D s m z)).o} ⟨t',⟨F.lv,L',σ.H.E⟩,[],σ.e0⟩:=by
 have hob:∀s' o,fnd ((s,TO.gone)::(ts.zdi D (TV.frz D s m z)).o) s'=some o->(s'=s∧o = .gone)∨(s'≠s∧∃o',fnd ts.o s'=some o'∧o=TO.map D (TV.frz D s m z) o'):=λs' o h=>by
  rw[zz9]at h;split at h
  rename_i e;injection h with h;exact .inl ⟨e.symm,h.symm⟩
  rename_i e;simp only[TS.zdi]at h;rw[zlp (TO.map D (TV.frz D s m z)),Qaf]at h;obtain⟨o',h1,h2⟩:=h;exact .inr ⟨λe'=>e e'.symm,o',h1,h2.symm⟩
 have hlive:∀o:TO D.T,(TO.map D (TV.frz D s m z) o).live->o.live:=λo h=>by cases o <;> first|exact h|trivial
 have old:∀s' o,fnd ((s,TO.gone)::(ts.zdi D (TV.frz D s m z)).o) s'=some o->o.live->s'≠s∧∃o',fnd ts.o s'=some o'∧o'.live∧o=TO.map D (TV.frz D s m z) o':=λs' o h hl=>by
  rcases hob s' o h with ⟨_,rfl⟩|⟨h1,o',h2,rfl⟩
  exact hl.elim;exact⟨h1,o',h2,hlive o' hl,rfl⟩
 refine⟨hR.nx,c1.length.symm.trans hR.nt,λj x hj =>?_,λs' o h =>?_,λs1 s2 o1 o2 sl1 sl2 i h1 h2 l1 l2 r1 r2 =>?_,λs1 o1 sl1 i h1 l1 r1 =>?_,rfl,hR.E,hR.e0,(by simp only[TS.zdi,hd0,List.map_nil];rfl),λi hi =>?_,hR.pin,λs1 o1 sl1 i h1 l1 r1 k1 =>?_,λi s1 v h1 h2=>yvu (f:=TV.frz D s m z) (λs0 s' e u hu=>by
  cases m with
  |true=>simp only[TV.frz,TV.own.injEq]at e;subst e;exact hu
  |false=>
   simp only[TV.frz]at e;split at e;exact(hz _ e).elim
   simp only[TV.own.injEq]at e;subst e;exact hu) (λs0 e=>hR.g i s0 v e h2) h1⟩
 simp only[TS.zdi]at hj;rw[zlp (TV.frz D s m z),Qaf]at hj;obtain⟨y,hy,rfl⟩:=hj;obtain⟨u,e1,e2⟩:=hR.tm j y hy;have hlt:j<t'.length:=by rw[<-c1.length];exact(Qaa.1 e1).1
 exact⟨t'[j],Qab hlt,c2 j y _ (by simpa using hy) (Qab hlt)⟩
 rcases hob s' o h with ⟨rfl,rfl⟩|⟨h1,o',h2,rfl⟩
 exact⟨sl,k1,by simp only[OR]⟩;obtain⟨sl',m1,m2⟩:=hR.ob s' o' h2;refine⟨sl',m1,?_⟩;by_cases hl:o'.live
 cases hk:sl'.k with
 |some i=>
  obtain⟨ao,n1,n2⟩:=a4 s' o' sl' i (by rw[<-hR.nx];exact(Qaa.1 m1).1) h1 h2 hl m1 hk
  exact n2 L' (d1 _ n1) λj hj=>d5 s' o' sl' j h1 h2 hl m1 hj
 |none=>
  cases o' with
  |cells cs=>simp only[OR]at m2;obtain⟨i,_,e,_⟩:=m2;rw[hk]at e;cases e
  |acc ty' t'' xs' w'=>simp only[OR,hk]at m2;simp only[TO.map,OR,hk];exact m2
  |siter l pos=>simp only[OR]at m2;obtain⟨i,e,_⟩:=m2;rw[hk]at e;cases e
  |rig=>exact m2
  |mp ty' t' es'=>simp only[OR]at m2;obtain⟨i,_,e,_⟩:=m2;rw[hk]at e;cases e
  |mit t' last es'=>simp only[OR]at m2;obtain⟨i,_,_,e,_⟩:=m2;rw[hk]at e;cases e
  |bld ty' b'=>simp only[OR]at m2;obtain⟨i,_,_,e,_⟩:=m2;rw[hk]at e;cases e
  |gone=>simp only[TO.map,OR]
  |deep ty' q' xs' h'=>
   simp only[OR,hk]at m2;obtain⟨e1,e2,e3,e4,rfl⟩:=m2;simp only[TO.map,OR,hk];exact⟨e1,e2,e3,e4,trivial⟩
 cases o' with
 |gone=>simp only[TO.map,OR]
 |_=>exact(hl trivial).elim
 obtain⟨_,o1',e1,f1,_⟩:=old s1 o1 h1 l1;obtain⟨_,o2',e2,f2,_⟩:=old s2 o2 h2 l2;exact hR.inj s1 s2 o1' o2' sl1 sl2 i e1 e2 f1 f2 r1 r2;obtain⟨_,o1',e1,f1,_⟩:=old s1 o1 h1 l1;exact hR.mine s1 o1' sl1 i e1 f1 r1;obtain⟨h1,h2⟩:=hR.out i hi;exact⟨by show i<L'.length;rw[d3];exact h1,(d4 i hi).trans h2⟩;obtain⟨hne,o1',e1,f1,_⟩:=old s1 o1 h1 l1;have hq:=hR.fpl s1 o1' sl1 i e1 f1 r1 k1
 exact⟨hq.1,by show ∃a,L'[i]? = _;rw[d5 s1 o1' sl1 i hne e1 f1 r1 k1];exact hq.2⟩
theorem y38(hD:D.Ok P){s:Nat}{ts':TS D.T}(hR:TRr D F ρ ts σ)(h:ts.freeze D s=some ts'):∃τ,zlf σ τ∧TRr D F ρ ts' τ:=by
 unfold TS.freeze at h;split at h;rename_i ty t xs w hd0 ho;injection h with h;subst h;have hd1:σ.d=[]:=by have:=hR.d;rw[hd0]at this;exact this
 obtain⟨sl,k1,k2⟩:=hR.ob s _ ho;have hor:=k2;simp only[OR]at k2;obtain⟨q1,q2,q3⟩:=k2;have hsn:s<ρ.length:=(Qaa.1 k1).1
 have hr:VR D ρ F.lv (.sl t xs 0) (.sl (D.len t) sl.ws false):=by
  simp only[VR];exact⟨.sl t xs sl.ws false q1 q2,by omega,by omega⟩
 obtain⟨os,os',a1,a2,a3,a4⟩:=y3z hR (s:=s) (m:=false) (z:=.sl t xs 0) (v0:=sl.v) (λq h=>by cases h) (λv h=>by
  simp only[VR]at h;obtain⟨q,e1,e2,_⟩:=h;rw[k1]at e1;injection e1 with e1;subst e1;exact e2) hr ts.nx
 have hacc:zbr F.lv σ.H.L [⟨ty,D.len t,sl.v,sl.ws,w⟩] os:=by
  refine⟨⟨[sl.k],rfl,λj k a hj ha =>?_,λi j n hi hj =>?_,λp hp=>⟨(a3 p hp).1,λj hj =>?_⟩⟩,a2⟩
  cases j with
  |zero=>
   simp at hj ha;subst hj;subst ha
   cases hk:sl.k with
   |none=>rw[hk]at q3;exact q3.imp id λq=>⟨q.1.1,q.2⟩
   |some i=>rw[hk]at q3;obtain⟨ver,cp,e1,e2⟩:=q3;exact⟨ver,cp,e1,e2⟩
  |succ j=>simp at hj
  cases i <;> cases j <;> simp at hi hj <;> rfl
  obtain⟨_,s',o,sl',b2,b3,b4,b5,b6,b7⟩:=a3 p hp
  cases j with
  |zero=>
   simp at hj
   exact b3 (hR.inj s' s o _ sl' sl p.1 b4 ho b5 trivial b6 k1 (.inl b7) (.inl hj))
  |succ j=>simp at hj
 obtain⟨t',c1,c2⟩:=y40 (s:=s) (m:=false) (z:=.sl t xs 0) (v0:=sl.v) (λv h=>by
  simp only[VR]at h;obtain⟨q,e1,e2,_⟩:=h;rw[k1]at e1;injection e1 with e1;subst e1;exact e2) hr (fnd ts.t) σ.t 0 λj x v hx hv=>by
  obtain⟨u,e1,e2⟩:=hR.tm j x (by simpa using hx)
  rw[hv]at e1;injection e1 with e1;subst e1;exact e2
 obtain⟨L',⟨d1,d2⟩,d3,d4⟩:=hacc.yvs (j:=0) rfl c1 a1 σ.H.E σ.e0
 have hσ:σ=⟨σ.t,⟨F.lv,σ.H.L,σ.H.E⟩,[],σ.e0⟩:=by
  have e1:=hR.lv;have e2:=hd1;obtain⟨t,⟨l,L,E⟩,d,e0⟩:=σ;simp only at e1 e2;subst e1;subst e2;rfl
 rw[<-hσ]at d2;refine⟨_,d2,?_⟩
 have hfp:∀s' o sl' i,s'≠s->fnd ts.o s'=some o->o.live->ρ[s']? = some sl'->i∈sl'.fp->L'[i]? = σ.H.L[i]? := λs' o' sl' i hne ho' hl' hs' hi=>by
  obtain⟨f1,f2⟩:=hR.fpl s' o' sl' i ho' hl' hs' hi;refine d4 i (hR.lt ho' hl' hs' (.inr hi)) (λp hp e =>?_) λver n e =>?_
  obtain⟨_,s2,o2,sl2,b2,b3,b4,b5,b6,b7⟩:=a3 p hp;have:=hR.inj s2 s' o2 o' sl2 sl' i b4 ho' b5 hl' b6 hs' (.inl (by rw[b7,e])) (.inr hi);subst this
  rw[hs']at b6;injection b6 with b6;subst b6
  exact f1 (by rw[b7,e])
  cases hk:sl.k with
  |none=>rw[hk]at q3;rcases q3 with ⟨q,_⟩|⟨⟨q,_⟩,_⟩ <;> (rw[e]at q;cases q)
  |some j=>
   rw[hk]at q3;obtain⟨ver',cp,q,_⟩:=q3
   rw[e]at q;injection q with _ q;subst q
   exact hne (hR.inj s' s o' _ sl' sl i ho' ho hl' trivial hs' k1 (.inr hi) (.inl hk))
 refine yel hR (λq h=>by cases h) k1 hd0 a4 c1 c2 (λp' hp'=>d1.accs.get (by exact hp')) d3 (λi hi =>?_) hfp;refine d4 i (hR.out i hi).1 (λp hp e =>?_) λver n e =>?_
 obtain⟨_,s',o,sl',b2,b3,b4,b5,b6,b7⟩:=a3 p hp;exact hR.mine s' o sl' i b4 b5 b6 (.inl (by rw[b7,e])) hi
 cases hk:sl.k with
 |none=>rw[hk]at q3;rcases q3 with ⟨q,_⟩|⟨⟨q,_⟩,_⟩ <;> (rw[e]at q;cases q)
 |some j=>
  rw[hk]at q3;obtain⟨ver',cp,q,_⟩:=q3
  rw[e]at q;injection q with _ q;subst q
  exact hR.mine s _ sl i ho trivial k1 (.inl hk) hi
 rename_i ty q xs hd0 ho;injection h with h;subst h;have hd1:σ.d=[]:=by have:=hR.d;rw[hd0]at this;exact this
 obtain⟨sl,k1,k2⟩:=hR.ob s _ ho;obtain⟨u,u1,u2⟩:=(ymz k2).seeH (R:=(· ∈ sl.all)) (λi hi=>hi)
 have hr:VR D ρ F.lv (.sl (.st q) xs 0) u:=by
  simp only[VR];exact⟨u1,by omega,by omega⟩
 have hit:∀v,VR D ρ F.lv (match false with|true=>TV.map s|false=>TV.own s:TV D.T) v->v=sl.v:=λv h=>by
  simp only[VR]at h;obtain⟨q,e1,e2,_⟩:=h;rw[k1]at e1;injection e1 with e1;subst e1;exact e2
 obtain⟨os,os',a1,a2,a3,a4⟩:=y3z hR (s:=s) (m:=false) (z:=.sl (.st q) xs 0) (v0:=sl.v) (λq h=>by cases h) hit hr ts.nx
 obtain⟨t',c1,c2⟩:=y40 (s:=s) (m:=false) (z:=.sl (.st q) xs 0) (v0:=sl.v) hit hr (fnd ts.t) σ.t 0 λj x v hx hv=>by
  obtain⟨u,e1,e2⟩:=hR.tm j x (by simpa using hx)
  rw[hv]at e1;injection e1 with e1;subst e1;exact e2
 have hu2:VH σ.H.lv σ.H.L (· ∈ sl.all) sl.v u:=by rw[hR.lv];exact u2
 obtain⟨d1,d2,d3⟩:=yy1 hd1 hu2 a2 a1 (λp hp=>⟨(a3 p hp).1,λhm=>by
  obtain⟨_,s',o,sl',b2,b3,b4,b5,b6,b7⟩:=a3 p hp
  exact b3 (hR.inj s' s o _ sl' sl p.1 b4 ho b5 trivial b6 k1 (.inl b7) (Slot.zyb.1 hm))⟩) c1
 rw[hR.lv]at d1;refine⟨_,d1,?_⟩
 have hfp:∀s' o sl' n,s'≠s->fnd ts.o s'=some o->o.live->ρ[s']? = some sl'->n∈sl'.fp->_:=λs' o' sl' n hne ho' hl' hs' hi=>by
  obtain⟨f1,f2⟩:=hR.fpl s' o' sl' n ho' hl' hs' hi;refine d3 n (hR.lt ho' hl' hs' (.inr hi)) (λhm =>?_) λp hp e =>?_
  exact hne (hR.inj s' s o' _ sl' sl n ho' ho hl' trivial hs' k1 (.inr hi) (Slot.zyb.1 hm));obtain⟨_,s2,o2,sl2,b2,b3,b4,b5,b6,b7⟩:=a3 p hp;have:=hR.inj s2 s' o2 o' sl2 sl' n b4 ho' b5 hl' b6 hs' (.inl (by rw[b7,e])) (.inr hi);subst this
  rw[hs']at b6;injection b6 with b6;subst b6
  exact f1 (by rw[b7,e])
 refine yel hR (λq h=>by cases h) k1 hd0 a4 c1 c2 d2 (zya _ _ _) (λn hn =>?_) hfp;refine d3 n (hR.out n hn).1 (λhm =>?_) λp hp e =>?_
 exact hR.mine s _ sl n ho trivial k1 (Slot.zyb.1 hm) hn;obtain⟨_,s',o,sl',b2,b3,b4,b5,b6,b7⟩:=a3 p hp;exact hR.mine s' o sl' n b4 b5 b6 (.inl (by rw[b7,e])) hn
 ·rename_i ty t es hd0 ho;split at h
  case isFalse=>cases h
  rename_i hfl;injection h with h;subst h;have hd1:σ.d=[]:=by have:=hR.d;rw[hd0]at this;exact this
  obtain⟨sl,k1,k2⟩:=hR.ob s _ ho;simp only[OR]at k2;obtain⟨i,ms,q1,q2',q4,q3⟩:=k2;have q2:=hfl;have hr:VR D ρ F.lv (.mc t es) (.mapc (es.map λp=>(.str p.1,y8t t p.2))):=by unfold VR;exact⟨q2,rfl⟩
  have hit:∀v,VR D ρ F.lv (match true with|true=>TV.map s|false=>TV.own s:TV D.T) v->v = .map F.lv i:=λv h=>by
   simp only[VR]at h;obtain⟨q,i',e1,e2,e3⟩:=h;rw[k1]at e1;injection e1 with e1;subst e1;rw[q1]at e2;injection e2 with e2;subst e2;exact e3
  obtain⟨os,os',a1,a2,a3,a4⟩:=y3z hR (s:=s) (m:=true) (z:=.mc t es) (λq h=>by cases h) hit hr ts.nx
  obtain⟨t',c1,c2⟩:=y40 (s:=s) (m:=true) (z:=.mc t es) hit hr (fnd ts.t) σ.t 0 λj x v hx hv=>by
   obtain⟨u,e1,e2⟩:=hR.tm j x (by simpa using hx)
   rw[hv]at e1;injection e1 with e1;subst e1;exact e2
  rw[<-hR.lv]at a1 c1
  have q3':σ.H.L[i]? = some (some (.map ((es.map λp=>((.str p.1:PV),y8t t p.2)).map λp=>(p.1.v,p.2.v)))):=by
   rw[q3,List.map_map,q2',List.map_map]
   congr 3
   exact List.map_congr_left λp hp=>by show _=(V.str p.1,(y8t t p.2.1).v);rw[z040 D q2,DR.flat q2 (q4 p hp)]
  obtain⟨d1,d2,d3⟩:=yy9 q3' hd1 a2 a1 (λp hp=>⟨(a3 p hp).1,λe=>by
   obtain⟨_,s',o,sl',b2,b3,b4,b5,b6,b7⟩:=a3 p hp
   exact b3 (hR.inj s' s o _ sl' sl p.1 b4 ho b5 trivial b6 k1 (.inl b7) (.inl (by rw[e];exact q1)))⟩) c1
  rw[hR.lv]at d1;refine⟨_,d1,?_⟩
  have hfp:∀s' o sl' n,s'≠s->fnd ts.o s'=some o->o.live->ρ[s']? = some sl'->n∈sl'.fp->_:=λs' o' sl' n hne ho' hl' hs' hi=>by
   obtain⟨f1,f2⟩:=hR.fpl s' o' sl' n ho' hl' hs' hi;refine d3 n (hR.lt ho' hl' hs' (.inr hi)) (λe =>?_) λp hp e =>?_
   subst e;exact hne (hR.inj s' s o' _ sl' sl n ho' ho hl' trivial hs' k1 (.inr hi) (.inl q1));obtain⟨_,s2,o2,sl2,b2,b3,b4,b5,b6,b7⟩:=a3 p hp;have:=hR.inj s2 s' o2 o' sl2 sl' n b4 ho' b5 hl' b6 hs' (.inl (by rw[b7,e])) (.inr hi);subst this
   rw[hs']at b6;injection b6 with b6;subst b6
   exact f1 (by rw[b7,e])
  refine yel hR (λq h=>by cases h) k1 hd0 a4 c1 c2 d2 (zka _ _ _) (λn hn =>?_) hfp;refine d3 n (hR.out n hn).1 (λe =>?_) λp hp e =>?_
  subst e;exact hR.mine s _ sl n ho trivial k1 (.inl q1) hn;obtain⟨_,s',o,sl',b2,b3,b4,b5,b6,b7⟩:=a3 p hp;exact hR.mine s' o sl' n b4 b5 b6 (.inl (by rw[b7,e])) hn
 cases h
end
section
variable {P : Program} {D : Dat} {F : Fr} {ρ : List Slot} {ts : TS D.T} {σ : St} {lv : Nat}
theorem zn9{α}:∀(a b:List (Nat×α)) (j),fnd (a++b) j=match fnd a j with|some x=>some x|none=>fnd b j
 |[],b,j=>rfl
 |(i,x)::a,b,j=>by
  rw[List.cons_append,zz9,zz9];split;rfl;exact zn9 a b j
theorem ye7{T}:∀(tos) (n s) (o:TO T),fnd (ylv tos n) s=some o->∃a,s=n+a∧tos[a]? = some o
 |[],n,s,o,h=>by cases h
 |t::r,n,s,o,h=>by
  simp[ylv,zz9]at h;split at h
  rename_i e;injection h with h;simp_all
  obtain⟨a,h1,h2⟩:=ye7 r (n+1) s o h;exact⟨a+1,by omega,by simpa using h2⟩
theorem y7w{T}:∀(l) (s) (o:TO T),fnd (y5b l) s=some o->o = .gone∧s∈l
 |[],s,o,h=>by cases h
 |t::r,s,o,h=>by
  simp[y5b,zz9]at h;split at h
  rename_i e;injection h with h;grind
  obtain⟨h1,h2⟩:=y7w r s o h
  grind
theorem y4d{T}:∀(l) (s),fnd (y5b (T:=T) l) s=none->s∉l
 |[],s,h=>by simp
 |t::r,s,h=>by
  simp[y5b,zz9]at h;split at h;cases h;rename_i e;intro hm
  rcases Qbg.1 hm with rfl|hm
  exact e rfl;exact y4d r s h hm
theorem TRr.ztp(hR:TRr D F ρ ts σ)(olds:List Nat)(hold:∀s∈olds,∃o sl,fnd ts.o s=some o∧o.live∧ρ[s]? = some sl)(news:List (TO D.T×Slot))(H':Heap)(hlv:H'.lv=F.lv)(hE:H'.E=F.E)(hlen:σ.H.L.length<=H'.L.length)
  (hL:∀i,i<σ.H.L.length->(∀s∈olds,∀sl,ρ[s]? = some sl->¬sl.has i)->H'.L[i]? = σ.H.L[i]?)
  (hhas:∀p∈news,∀i,p.2.has i->σ.H.L.length<=i∨∃s∈olds,∃sl,ρ[s]? = some sl∧sl.has i)
  (hdis:∀(a b:Nat) (p p':TO D.T×Slot) (i:Nat),news[a]? = some p->news[b]? = some p'->p.2.has i->p'.2.has i->a=b)
  (hor:∀p∈news,OR D (ρ++news.map (·.2)) F.lv H'.L p.2 p.1)
  (hfp:∀p∈news,∀i∈p.2.fp,p.2.k≠some i∧∃a,H'.L[i]? = some (some a)) :
  TRr D F (ρ++news.map (·.2)) (ts.ztp olds (news.map (·.1))) {σ with H:=H'}:=by
 have kinds:∀s o,fnd (ts.ztp olds (news.map (·.1))).o s=some o->(∃a p,s=ts.nx+a∧news[a]? = some p∧p.1=o)∨(o = .gone∧s∈olds)∨(s∉olds∧fnd ts.o s=some o):=λs o h=>by
  simp only[TS.ztp]at h;rw[zn9]at h;split at h;rename_i o' ho';injection h with h;subst h;obtain⟨a,h1,h2⟩:=ye7 _ _ _ _ ho';rw[Qan,Qaf]at h2;obtain⟨p,h3,h4⟩:=h2;exact .inl ⟨a,p,h1,h3,h4⟩;rw[zn9]at h;split at h;rename_i o' ho';injection h with h;subst h;exact .inr (.inl (y7w _ _ _ ho'));rename_i hn;exact .inr (.inr ⟨y4d _ _ hn,h⟩)
 have slotNew:∀(a:Nat) (p:TO D.T×Slot),news[a]? = some p->(ρ++news.map (·.2))[ts.nx+a]? = some p.2:=λa p h=>by
  rw[<-hR.nx,Qav (by omega),show ρ.length+a-ρ.length=a by omega,Qan,h];rfl
 have slotOld:∀s o sl,fnd ts.o s=some o->(ρ++news.map (·.2))[s]? = some sl->ρ[s]? = some sl:=λs o sl ho h=>by
  obtain⟨q,h1,h2⟩:=hR.ob s o ho;rw[lookup_append h1]at h;rw[h1,h]
 have apart:∀s o sl i,fnd ts.o s=some o->o.live->s∉olds->ρ[s]? = some sl->sl.has i->∀s0∈olds,∀sl0,ρ[s0]? = some sl0->¬sl0.has i:=λs o sl i ho hl hno hs hk s0 h0 sl0 h1 h2=>by
  obtain⟨o0,sl1,e1,e2,e3⟩:=hold s0 h0
  rw[h1]at e3;injection e3 with e3;subst e3
  have:=hR.inj s s0 o o0 sl sl0 i ho e1 hl e2 hs h1 hk h2;subst this;exact hno h0
 have mem:∀{a:Nat}{p:TO D.T×Slot},news[a]? = some p->p∈news:=λh=>Qax h
 have newold:∀(a:Nat) (p:TO D.T×Slot) s o sl i,news[a]? = some p->p.2.has i->fnd ts.o s=some o->o.live->s∉olds->ρ[s]? = some sl->sl.has i->False:=λa p s o sl i hp hi ho hl hno hs hk=>by
  rcases hhas p (mem hp) i hi with h|⟨s0,h0,sl0,h1,h2⟩
  have:=hR.lt ho hl hs hk;omega;exact apart s o sl i ho hl hno hs hk s0 h0 sl0 h1 h2
 refine⟨by simp[TS.ztp,hR.nx],hR.nt,λj x hj =>?_,λs o ho =>?_,λs s' o o' sl sl' i h1 h2 l1 l2 r1 r2 k1 k2 =>?_,λs o sl i h1 l1 r1 k1 =>?_,hlv,hE,hR.e0,hR.d.more _,λi hi =>?_,λj sl hj=>lookup_append (hR.pin j sl hj),λs o sl i h1 l1 r1 k1 =>?_,λi s v h1 h2=>(hR.g i s v h1 h2).more _⟩;obtain⟨v,h1,h2⟩:=hR.tm j x hj;exact⟨v,h1,h2.more _⟩
 rcases kinds s o ho with ⟨a,p,rfl,h2,rfl⟩|⟨rfl,h1⟩|⟨h1,h2⟩
 exact⟨p.2,slotNew a p h2,hor p (mem h2)⟩;obtain⟨o0,sl,e1,e2,e3⟩:=hold s h1;exact⟨sl,lookup_append e3,by simp only[OR]⟩;obtain⟨q,e1,e2⟩:=hR.ob s o h2;exact⟨q,lookup_append e1,e2.mono _ λi hi hl=>hL i (hR.lt h2 hl e1 hi) (apart s o q i h2 hl h1 e1 hi)⟩
 rcases kinds s o h1 with ⟨a,p,rfl,a2,rfl⟩|⟨rfl,a1⟩|⟨a1,a2⟩
 rw[slotNew a p a2]at r1;injection r1 with r1;subst r1
 rcases kinds s' o' h2 with ⟨b,p',rfl,b2,rfl⟩|⟨rfl,b1⟩|⟨b1,b2⟩
 rw[slotNew b p' b2]at r2;injection r2 with r2;subst r2
 rw[hdis a b p p' i a2 b2 k1 k2];exact l2.elim;exact(newold a p s' o' sl' i a2 k1 b2 l2 b1 (slotOld _ _ _ b2 r2) k2).elim;exact l1.elim
 rcases kinds s' o' h2 with ⟨b,p',rfl,b2,rfl⟩|⟨rfl,b1⟩|⟨b1,b2⟩
 rw[slotNew b p' b2]at r2;injection r2 with r2;subst r2
 exact(newold b p' s o sl i b2 k2 a2 l1 a1 (slotOld _ _ _ a2 r1) k1).elim;exact l2.elim;exact hR.inj s s' o o' sl sl' i a2 b2 l1 l2 (slotOld _ _ _ a2 r1) (slotOld _ _ _ b2 r2) k1 k2
 rcases kinds s o h1 with ⟨a,p,rfl,a2,rfl⟩|⟨rfl,a1⟩|⟨a1,a2⟩
 rw[slotNew a p a2]at r1;injection r1 with r1;subst r1
 intro ho
 rcases hhas p (mem a2) i k1 with h|⟨s0,h0,sl0,h3,h4⟩
 have:=(hR.out i ho).1;omega;obtain⟨o0,sl1,e1,e2,e3⟩:=hold s0 h0;exact hR.mine s0 o0 sl0 i e1 e2 h3 h4 ho;exact l1.elim;exact hR.mine s o sl i a2 l1 (slotOld _ _ _ a2 r1) k1;obtain⟨h1,h2⟩:=hR.out i hi;refine⟨Qbe h1 hlen,(hL i h1 λs0 h0 sl0 h3 h4 =>?_).trans h2⟩;obtain⟨o0,sl1,e1,e2,e3⟩:=hold s0 h0;exact hR.mine s0 o0 sl0 i e1 e2 h3 h4 hi
 rcases kinds s o h1 with ⟨a,p,rfl,a2,rfl⟩|⟨rfl,a1⟩|⟨a1,a2⟩
 rw[slotNew a p a2]at r1;injection r1 with r1;subst r1
 exact hfp p (mem a2) i k1;exact l1.elim;have q1:=slotOld _ _ _ a2 r1;have hq:=hR.fpl s o sl i a2 l1 q1 k1;refine⟨hq.1,?_⟩;show ∃a,H'.L[i]? = _;rw[hL i (hR.lt a2 l1 q1 (.inr k1)) (apart s o sl i a2 l1 a1 q1 (.inr k1))];exact hq.2
end
end Go.Ab
