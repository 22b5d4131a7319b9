/-
  THE TYPED MACHINE: operations on own objects.
-/
import Derived.Test.YtcaehabdaleamaaGreatLib4
namespace Go.Ab
open Go
set_option linter.unusedVariables false
set_option linter.unusedSimpArgs false
set_option linter.unusedSectionVars false
section
variable {P : Program} {D : Dat} {F : Fr} {ρ : List Slot} {ts : TS D.T} {σ : St} {lv : Nat}
theorem DO.mono{L L':List (Option kz8)}{m:OM}{t:DTy}{x:t.S D.T}{v:V}{fp:List Nat}(h:DO D lv L m t x v fp)(hL:∀i∈fp,L'[i]? = L[i]?):DO D lv L' m t x v fp:=by
 induction h with
 |dat h=>exact .dat h
 |nil h hv=>exact .nil h hv
 |own hj hl hf he ih=>
  exact .own (by rw[hL _ Qak];exact hj) hl hf λn x w c h1 h2 h3=>ih n x w c h1 h2 h3 λi hi=>hL i (Qai _ (List.mem_flatten.2 ⟨c,Qaw h3,hi⟩))
 |el hl hc h ih=>exact .el hl hc λf p u b h1 h2 h3=>ih f p u b h1 h2 h3 λi hi=>hL i (List.mem_flatten.2 ⟨b,Qaw h3,hi⟩)
 |elf ht h=>exact .elf ht h
theorem EO.mono{L L':List (Option kz8)}{q:Nat}{h:Option (Int×Nat×Nat)}{n:Nat}{x:D.T q}{w:V}{c:List Nat}(e:List Slot)(hE:EO D ρ lv L q h n x w c)(hL:∀i∈c,L'[i]? = L[i]?):EO D (ρ++e) lv L' q h n x w c:=by
 obtain⟨vs,cs,h1,h2,h3,rfl,h4⟩:=hE;refine⟨vs,cs,h1,h2,h3,rfl,λf p u b k1 k2 k3 =>?_⟩;have:=h4 f p u b k1 k2 k3;split at this;rename_i s hs;obtain⟨a1,a2,a0,sl',a3,a4⟩:=this;exact⟨a1,a2,a0,sl',lookup_append a3,a4⟩;exact this.mono λi hi=>hL i (List.mem_flatten.2 ⟨b,Qaw k3,hi⟩)
theorem OR.mono{L L':List (Option kz8)}{sl:Slot}{o:TO D.T}(h:OR D ρ lv L sl o)(e:List Slot)(hL:∀i,sl.has i->o.live->L'[i]? = L[i]?):OR D (ρ++e) lv L' sl o:=by
 cases o with
 |cells cs=>
  simp only[OR]at h ⊢;obtain⟨i,vs,h1,h2,h3⟩:=h
  exact⟨i,vs,h1,by rw[hL i (.inl h1) trivial];exact h2,h3.more e⟩
 |acc ty t xs w=>
  simp only[OR]at h ⊢;obtain⟨h1,h2,h3⟩:=h;refine⟨h1,h2,?_⟩
  cases hk:sl.k with
  |none=>rw[hk]at h3;exact h3
  |some i=>
   rw[hk]at h3;obtain⟨ver,cp,k1,k2⟩:=h3
   exact⟨ver,cp,k1,by rw[hL i (.inl hk) trivial];exact k2⟩
 |siter s pos=>
  simp only[OR]at h ⊢;obtain⟨i,h1,h2⟩:=h
  exact⟨i,h1,by rw[hL i (.inl h1) trivial];exact h2⟩
 |mp ty t es=>
  simp only[OR]at h ⊢;obtain⟨i,ms,h1,h2,h4,h3⟩:=h
  exact⟨i,ms,h1,h2,h4,by rw[hL i (.inl h1) trivial];exact h3⟩
 |mit t last es=>
  simp only[OR]at h ⊢;obtain⟨i,fs,vis,h1,h2,h3,h4⟩:=h
  exact⟨i,fs,vis,h1,h2,by rw[hL i (.inl h1) trivial];exact h3,h4⟩
 |bld ty b=>
  simp only[OR]at h ⊢;obtain⟨i,a,c,h1,h2,h3,h4⟩:=h
  exact⟨i,a,c,h1,by rw[hL i (.inl h1) trivial];exact h2,h3,VR.more e h4⟩
 |gone=>simp only[OR]
 |rig=>exact h
 |deep ty q xs hh=>
  simp only[OR]at h ⊢;obtain⟨h1,h3⟩:=h;refine⟨h1,?_⟩
  cases hk:sl.k with
  |none=>rw[hk]at h3;exact h3
  |some i=>
   rw[hk]at h3;obtain⟨ver,cp,fps,k1,k2,k3,k4,k5,k6,k7⟩:=h3;refine⟨ver,cp,fps,k1,by rw[hL i (.inl hk) trivial];exact k2,k3,k4,k5,λn x w c a1 a2 a3=>(k6 n x w c a1 a2 a3).mono e λj hj=>hL j (.inr ?_) trivial,k7⟩;rw[k4];exact List.mem_flatten.2 ⟨c,Qaw a3,hj⟩
theorem OR.at{L:List (Option kz8)}{sl:Slot}{o:TO D.T}{i:Nat}(h:OR D ρ lv L sl o)(hl:o.live)(hk:sl.k=some i):∃a,L[i]? = some (some a):=by
 cases o with
 |cells cs=>
  simp only[OR]at h;obtain⟨i',vs,h1,h2,h3⟩:=h
  rw[hk]at h1;injection h1 with h1;subst h1
  exact⟨_,h2⟩
 |acc ty t xs w=>
  simp only[OR]at h;obtain⟨h1,h2,h3⟩:=h;rw[hk]at h3;obtain⟨ver,cp,k1,k2⟩:=h3
  exact⟨_,k2⟩
 |siter s pos=>
  simp only[OR]at h;obtain⟨i',h1,h2⟩:=h
  rw[hk]at h1;injection h1 with h1;subst h1
  exact⟨_,h2⟩
 |mp ty t es=>
  simp only[OR]at h;obtain⟨i',ms,h1,_,_,h2⟩:=h
  rw[hk]at h1;injection h1 with h1;subst h1
  exact⟨_,h2⟩
 |mit t last es=>
  simp only[OR]at h;obtain⟨i',fs,vis,h1,_,h2,_⟩:=h
  rw[hk]at h1;injection h1 with h1;subst h1
  exact⟨_,h2⟩
 |bld ty b=>
  simp only[OR]at h;obtain⟨i',a,c,h1,h2,h3⟩:=h
  rw[hk]at h1;injection h1 with h1;subst h1
  exact⟨_,h2⟩
 |gone=>exact hl.elim
 |rig=>simp only[OR]at h;rw[h.1]at hk;cases hk
 |deep ty q xs hh=>
  simp only[OR]at h;obtain⟨h1,h3⟩:=h;rw[hk]at h3;obtain⟨ver,cp,fps,k1,k2,k3⟩:=h3;exact⟨_,k2⟩
theorem OR.lt{L:List (Option kz8)}{sl:Slot}{o:TO D.T}{i:Nat}(h:OR D ρ lv L sl o)(hl:o.live)(hk:sl.k=some i):i<L.length:=by
 obtain⟨a,ha⟩:=h.at hl hk;exact(Qaa.1 ha).1
theorem TRr.at(hR:TRr D F ρ ts σ){s i:Nat}{o:TO D.T}{sl:Slot}(ho:fnd ts.o s=some o)(hl:o.live)(hs:ρ[s]? = some sl)(hk:sl.has i):∃a,σ.H.L[i]? = some (some a):=by
 rcases hk with hk|hk
 obtain⟨q,h1,h2⟩:=hR.ob s o ho
 rw[hs]at h1;injection h1 with h1;subst h1
 exact h2.at hl hk;exact(hR.fpl s o sl i ho hl hs hk).2
theorem TRr.lt(hR:TRr D F ρ ts σ){s i:Nat}{o:TO D.T}{sl:Slot}(ho:fnd ts.o s=some o)(hl:o.live)(hs:ρ[s]? = some sl)(hk:sl.has i):i<σ.H.L.length:=by
 obtain⟨a,ha⟩:=hR.at ho hl hs hk;exact(Qaa.1 ha).1
theorem Slot.zj5{sl:Slot}(h:sl.fp=[]){i:Nat}(hk:sl.has i):sl.k=some i:=by
 rcases hk with hk|hk
 exact hk;rw[h]at hk;cases hk
theorem TRr.new(hR:TRr D F ρ ts σ)(to:TO D.T)(sl:Slot)(H':kz3)(hlv:H'.lv=F.lv)(hE:H'.E=F.E)(hlen:σ.H.L.length<=H'.L.length)(hL:∀i,i<σ.H.L.length->H'.L[i]? = σ.H.L[i]?)
  (hk:∀i,sl.k=some i->σ.H.L.length<=i) (hor:OR D (ρ++[sl]) F.lv H'.L sl to) (hfp:sl.fp=[]:=by rfl):TRr D F (ρ++[sl]) (ts.new D to) {σ with H:=H'}:=by
 have hget:(ρ++[sl])[ts.nx]? = some sl:=by rw[<-hR.nx];simp
 have old:∀s o sl',fnd ts.o s=some o->ρ[s]? = some sl'->∀i,sl'.has i->o.live->i<σ.H.L.length:=λs o sl' ho hs i hi hl=>hR.lt ho hl hs hi
 have hlk:∀s o,ts.nx≠s->fnd (ts.new D to).o s=some o->fnd ts.o s=some o:=λs o hne h=>by
  simp only[TS.new,kz5,Qbp hne]at h;exact h
 have hslot:∀s o sl',fnd ts.o s=some o->(ρ++[sl])[s]? = some sl'->ρ[s]? = some sl':=λs o sl' ho h=>by
  obtain⟨q,h1,h2⟩:=hR.ob s o ho;rw[lookup_append h1]at h;rw[h1,h]
 refine⟨by simp[TS.new,hR.nx],hR.nt,λj x hj =>?_,λs o ho =>?_,λs s' o o' sl1 sl2 i h1 h2 l1 l2 r1 r2 k1 k2 =>?_,λs o sl1 i h1 l1 r1 k1 =>?_,hlv,hE,hR.e0,hR.d.more _,λi hi =>?_,λj sl hj=>lookup_append (hR.pin j sl hj),λs o sl1 i h1 l1 r1 k1 =>?_,λi s v h1 h2=>(hR.g i s v h1 h2).more _⟩;obtain⟨v,h1,h2⟩:=hR.tm j x hj;exact⟨v,h1,h2.more _⟩;by_cases hs:ts.nx=s;subst hs
 simp only[TS.new,kz5,if_true,Qbl]at ho;subst ho;exact⟨sl,hget,hor⟩;obtain⟨q,h1,h2⟩:=hR.ob s o (hlk s o hs ho);exact⟨q,lookup_append h1,h2.mono _ λi hi hl=>hL i (hR.lt (hlk s o hs ho) hl h1 hi)⟩;by_cases hs:ts.nx=s <;> by_cases hs':ts.nx=s'
 rw[<-hs,<-hs'];subst hs
 rw[hget]at r1;injection r1 with r1;subst r1
 have hq:=hlk s' o' hs' h2;have:=old s' o' sl2 hq (hslot s' o' sl2 hq r2) i k2 l2;have:=hk i (Slot.zj5 hfp k1);omega;subst hs'
 rw[hget]at r2;injection r2 with r2;subst r2
 have hq:=hlk s o hs h1;have:=old s o sl1 hq (hslot s o sl1 hq r1) i k1 l1;have:=hk i (Slot.zj5 hfp k2);omega;have q1:=hlk s o hs h1;have q2:=hlk s' o' hs' h2;exact hR.inj s s' o o' sl1 sl2 i q1 q2 l1 l2 (hslot s o sl1 q1 r1) (hslot s' o' sl2 q2 r2) k1 k2;by_cases hs:ts.nx=s;subst hs
 rw[hget]at r1;injection r1 with r1;subst r1
 intro ho;have:=(hR.out i ho).1;have:=hk i (Slot.zj5 hfp k1);omega;have q1:=hlk s o hs h1;exact hR.mine s o sl1 i q1 l1 (hslot s o sl1 q1 r1) k1;obtain⟨h1,h2⟩:=hR.out i hi;exact⟨Qbe h1 hlen,(hL i h1).trans h2⟩;by_cases hs:ts.nx=s;subst hs
 rw[hget]at r1;injection r1 with r1;subst r1
 rw[hfp]at k1;cases k1;have q1:=hlk s o hs h1;have r:=hslot s o sl1 q1 r1;obtain⟨hne,a,ha⟩:=hR.fpl s o sl1 i q1 l1 r k1;exact⟨hne,a,by rw[hL i (Qaa.1 ha).1];exact ha⟩
theorem TRr.more(hR:TRr D F ρ ts σ)(to:TO D.T)(sl:Slot)(hk:∀i,sl.k=some i->¬F.out i∧∀s o sl',fnd ts.o s=some o->o.live->ρ[s]? = some sl'->¬sl'.has i)(hor:OR D (ρ++[sl]) F.lv σ.H.L sl to)(hfp:sl.fp=[]:=by rfl):TRr D F (ρ++[sl]) (ts.new D to) σ:=by
 have hget:(ρ++[sl])[ts.nx]? = some sl:=by rw[<-hR.nx];simp
 have hlk:∀s o,ts.nx≠s->fnd (ts.new D to).o s=some o->fnd ts.o s=some o:=λs o hne h=>by
  simp only[TS.new,kz5,Qbp hne]at h;exact h
 have hslot:∀s o sl',fnd ts.o s=some o->(ρ++[sl])[s]? = some sl'->ρ[s]? = some sl':=λs o sl' ho h=>by
  obtain⟨q,h1,h2⟩:=hR.ob s o ho;rw[lookup_append h1]at h;rw[h1,h]
 refine⟨by simp[TS.new,hR.nx],hR.nt,λj x hj =>?_,λs o ho =>?_,λs s' o o' sl1 sl2 i h1 h2 l1 l2 r1 r2 k1 k2 =>?_,λs o sl1 i h1 l1 r1 k1 =>?_,hR.lv,hR.E,hR.e0,hR.d.more _,hR.out,λj sl hj=>lookup_append (hR.pin j sl hj),λs o sl1 i h1 l1 r1 k1 =>?_,λi s v h1 h2=>(hR.g i s v h1 h2).more _⟩;obtain⟨v,h1,h2⟩:=hR.tm j x hj;exact⟨v,h1,h2.more _⟩;by_cases hs:ts.nx=s;subst hs
 simp only[TS.new,kz5,if_true,Qbl]at ho;subst ho;exact⟨sl,hget,hor⟩;obtain⟨q,h1,h2⟩:=hR.ob s o (hlk s o hs ho);exact⟨q,lookup_append h1,h2.mono _ λi hi hl=>rfl⟩;by_cases hs:ts.nx=s <;> by_cases hs':ts.nx=s'
 rw[<-hs,<-hs'];subst hs
 rw[hget]at r1;injection r1 with r1;subst r1
 have hq:=hlk s' o' hs' h2;exact((hk i (Slot.zj5 hfp k1)).2 s' o' sl2 hq l2 (hslot s' o' sl2 hq r2) k2).elim;subst hs'
 rw[hget]at r2;injection r2 with r2;subst r2
 have hq:=hlk s o hs h1;exact((hk i (Slot.zj5 hfp k2)).2 s o sl1 hq l1 (hslot s o sl1 hq r1) k1).elim;have q1:=hlk s o hs h1;have q2:=hlk s' o' hs' h2;exact hR.inj s s' o o' sl1 sl2 i q1 q2 l1 l2 (hslot s o sl1 q1 r1) (hslot s' o' sl2 q2 r2) k1 k2;by_cases hs:ts.nx=s;subst hs
 rw[hget]at r1;injection r1 with r1;subst r1
 exact(hk i (Slot.zj5 hfp k1)).1;have q1:=hlk s o hs h1;exact hR.mine s o sl1 i q1 l1 (hslot s o sl1 q1 r1) k1;by_cases hs:ts.nx=s;subst hs
 rw[hget]at r1;injection r1 with r1;subst r1
 rw[hfp]at k1;cases k1;have q1:=hlk s o hs h1;exact hR.fpl s o sl1 i q1 l1 (hslot s o sl1 q1 r1) k1
theorem yke{L:List (Option kz8)}{i j:Nat}(h:∃a,L[j]? = some (some a))(ao:kz8):∃a,(L.set i (some ao))[j]? = some (some a):=by
 obtain⟨a,ha⟩:=h;by_cases e:i=j;subst e;exact⟨ao,Qap (Qaa.1 ha).1⟩;exact⟨a,by rw[Qam e];exact ha⟩
theorem TRr.upd(hR:TRr D F ρ ts σ){s i:Nat}{o0:TO D.T}{sl:Slot}(hs:fnd ts.o s=some o0)(hl:o0.live)(hr:ρ[s]? = some sl)(hk:sl.k=some i)(to:TO D.T)(ao:kz8)
  (hor:OR D ρ F.lv (σ.H.L.set i (some ao)) sl to):TRr D F ρ (ts.set D s to) {σ with H:={σ.H with L:=σ.H.L.set i (some ao)}}:=by
 have hlk:∀s' o,s≠s'->fnd (ts.set D s to).o s'=some o->fnd ts.o s'=some o:=λs' o hne h=>by
  simp only[TS.set,kz5,Qbp hne]at h;exact h
 have live':∀s' o,fnd (ts.set D s to).o s'=some o->o.live->∃o',fnd ts.o s'=some o'∧o'.live:=λs' o h l=>by
  by_cases he:s=s';subst he;exact⟨o0,hs,hl⟩;exact⟨o,hlk s' o he h,l⟩
 refine⟨hR.nx,hR.nt,hR.tm,λs' o ho =>?_,λs1 s2 o1 o2 sl1 sl2 i' h1 h2 l1 l2 r1 r2 k1 k2 =>?_,λs1 o1 sl1 i1 h1 l1 r1 k1 =>?_,hR.lv,hR.E,hR.e0,hR.d,λj hj =>?_,hR.pin,λs1 o1 sl1 i1 h1 l1 r1 k1 =>?_,hR.g⟩;by_cases he:s=s';subst he;simp only[TS.set,kz5,if_true,Qbl]at ho;subst ho;exact⟨sl,hr,hor⟩;have hq:=hlk s' o he ho;obtain⟨q,h1,h2⟩:=hR.ob s' o hq;refine⟨q,h1,?_⟩
 have:=h2.mono (L':=σ.H.L.set i (some ao)) [] λj hj hl' =>?_
 simpa using this
 have hne:i≠j:=λe=>by
  subst e;exact he (hR.inj s s' o0 o sl q i hs hq hl hl' hr h1 (.inl hk) hj)
 rw[Qam hne];obtain⟨o1',q1,l1'⟩:=live' s1 o1 h1 l1;obtain⟨o2',q2,l2'⟩:=live' s2 o2 h2 l2;exact hR.inj s1 s2 o1' o2' sl1 sl2 i' q1 q2 l1' l2' r1 r2 k1 k2;obtain⟨o1',q1,l1'⟩:=live' s1 o1 h1 l1;exact hR.mine s1 o1' sl1 i1 q1 l1' r1 k1;obtain⟨h1,h2⟩:=hR.out j hj;refine⟨by simpa using h1,?_⟩;have hne:i≠j:=λe=>by subst e;exact hR.mine s o0 sl i hs hl hr (.inl hk) hj
 show(σ.H.L.set i (some ao))[j]? = _;rw[Qam hne];exact h2;obtain⟨o1',q1,l1'⟩:=live' s1 o1 h1 l1;have hq:=hR.fpl s1 o1' sl1 i1 q1 l1' r1 k1;exact⟨hq.1,yke hq.2 ao⟩
theorem TRr.move(hR:TRr D F ρ ts σ){s i:Nat}{o0:TO D.T}{sl:Slot}(hs:fnd ts.o s=some o0)(hl:o0.live)(hr:ρ[s]? = some sl)(hk:sl.k=some i)(to:TO D.T)(ao:kz8)(sl':Slot)(hk':sl'.k=some i)
  (hor:OR D (ρ++[sl']) F.lv (σ.H.L.set i (some ao)) sl' to) (hfp:∀x,x∈sl'.fp->x∈sl.fp:=by exact λ_ h=>by cases h):TRr D F (ρ++[sl']) ((ts.new D to).set D s .gone) {σ with H:={σ.H with L:=σ.H.L.set i (some ao)}}:=by
 have hsub:∀x,sl'.has x->sl.has x:=λx h=>h.elim (λh=>.inl (by rw[<-h,hk',hk])) λh=>.inr (hfp x h)
 have hget:(ρ++[sl'])[ts.nx]? = some sl':=by rw[<-hR.nx];simp
 have hsn:s≠ts.nx:=λe=>by
  have:=(Qaa.1 hr).1;rw[hR.nx,e]at this;omega
 have hlk:∀s' o,o.live->fnd ((ts.new D to).set D s .gone).o s'=some o->s≠s'∧((ts.nx=s'∧o=to)∨(ts.nx≠s'∧fnd ts.o s'=some o)):=λs' o hlo h=>by
  by_cases he:s=s';subst he;simp only[TS.set,kz5,if_true,Qbl]at h;subst h;exact hlo.elim;simp only[TS.set,TS.new,kz5,Qbp he]at h;by_cases hn:ts.nx=s'
  rw[Qbo hn]at h;injection h with h;exact⟨he,.inl ⟨hn,h.symm⟩⟩
  rw[Qbp hn]at h;exact⟨he,.inr ⟨hn,h⟩⟩
 have hslot:∀s o sl1,fnd ts.o s=some o->(ρ++[sl'])[s]? = some sl1->ρ[s]? = some sl1:=λs o sl1 ho h=>by
  obtain⟨q,h1,h2⟩:=hR.ob s o ho;rw[lookup_append h1]at h;rw[h1,h]
 refine⟨by simp[TS.new,TS.set,hR.nx],hR.nt,λj x hj =>?_,λs' o ho =>?_,λs1 s2 o1 o2 sl1 sl2 i' h1 h2 l1 l2 r1 r2 k1 k2 =>?_,λs1 o1 sl1 i1 h1 l1 r1 k1 =>?_,hR.lv,hR.E,hR.e0,hR.d.more _,λj hj =>?_,λj sl hj=>lookup_append (hR.pin j sl hj),λs1 o1 sl1 i1 h1 l1 r1 k1 =>?_,λi s v h1 h2=>(hR.g i s v h1 h2).more _⟩;obtain⟨v,h1,h2⟩:=hR.tm j x hj;exact⟨v,h1,h2.more _⟩;by_cases hlo:o.live
 rcases(hlk s' o hlo ho).2 with ⟨hn,rfl⟩|⟨hn,hq⟩
 subst hn;exact⟨sl',hget,hor⟩;obtain⟨q,h1,h2⟩:=hR.ob s' o hq;refine⟨q,lookup_append h1,h2.mono [sl'] λj hj hl' =>?_⟩
 have hne:i≠j:=λe=>by
  subst e;exact(hlk s' o hlo ho).1 (hR.inj s s' o0 o sl q i hs hq hl hl' hr h1 (.inl hk) hj)
 rw[Qam hne];have hg:o = .gone:=by cases o <;> first|rfl|exact(hlo trivial).elim
 subst hg;by_cases he:s=s';subst he;exact⟨sl,lookup_append hr,by simp only[OR]⟩;simp only[TS.set,TS.new,kz5,Qbp he]at ho;by_cases hn:ts.nx=s';subst hn;exact⟨sl',hget,by simp only[OR]⟩;rw[Qbp hn]at ho;obtain⟨q,h1,h2⟩:=hR.ob s' _ ho;exact⟨q,lookup_append h1,by simp only[OR]⟩;obtain⟨n1,c1⟩:=hlk s1 o1 l1 h1;obtain⟨n2,c2⟩:=hlk s2 o2 l2 h2
 rcases c1 with ⟨e1,rfl⟩|⟨e1,q1⟩ <;> rcases c2 with ⟨e2,rfl⟩|⟨e2,q2⟩
 rw[<-e1,<-e2];subst e1
 rw[hget]at r1;injection r1 with r1;subst r1
 exact(n2 (hR.inj s s2 o0 o2 sl sl2 i' hs q2 hl l2 hr (hslot _ _ _ q2 r2) (hsub _ k1) k2)).elim;subst e2
 rw[hget]at r2;injection r2 with r2;subst r2
 exact(n1 (hR.inj s s1 o0 o1 sl sl1 i' hs q1 hl l1 hr (hslot _ _ _ q1 r1) (hsub _ k2) k1)).elim;exact hR.inj s1 s2 o1 o2 sl1 sl2 i' q1 q2 l1 l2 (hslot _ _ _ q1 r1) (hslot _ _ _ q2 r2) k1 k2;obtain⟨n1,c1⟩:=hlk s1 o1 l1 h1
 rcases c1 with ⟨e1,rfl⟩|⟨e1,q1⟩
 subst e1
 rw[hget]at r1;injection r1 with r1;subst r1
 exact hR.mine s o0 sl i1 hs hl hr (hsub _ k1);exact hR.mine s1 o1 sl1 i1 q1 l1 (hslot _ _ _ q1 r1) k1;obtain⟨h1,h2⟩:=hR.out j hj;refine⟨by simpa using h1,?_⟩;have hne:i≠j:=λe=>by subst e;exact hR.mine s o0 sl i hs hl hr (.inl hk) hj
 show(σ.H.L.set i (some ao))[j]? = _;rw[Qam hne];exact h2;obtain⟨n1,c1⟩:=hlk s1 o1 l1 h1
 rcases c1 with ⟨e1,rfl⟩|⟨e1,q1⟩
 subst e1
 rw[hget]at r1;injection r1 with r1;subst r1
 have hq:=hR.fpl s o0 sl i1 hs hl hr (hfp _ k1);exact⟨by rw[hk',<-hk];exact hq.1,yke hq.2 ao⟩;have hq:=hR.fpl s1 o1 sl1 i1 q1 l1 (hslot _ _ _ q1 r1) k1;exact⟨hq.1,yke hq.2 ao⟩
theorem TRr.drop(hR:TRr D F ρ ts σ)(s:Nat)(hs:s<ts.nx):TRr D F ρ (ts.set D s .gone) σ:=by
 have hlk:∀s' o,o.live->fnd (ts.set D s .gone).o s'=some o->fnd ts.o s'=some o:=λs' o hl h=>by
  simp only[TS.set,kz5]at h;split at h;injection h with h;subst h;exact hl.elim;exact h
 refine⟨hR.nx,hR.nt,hR.tm,λs' o ho =>?_,λs1 s2 o1 o2 sl1 sl2 i' h1 h2 l1 l2=>hR.inj s1 s2 o1 o2 sl1 sl2 i' (hlk _ _ l1 h1) (hlk _ _ l2 h2) l1 l2,λs1 o1 sl1 i1 h1 l1=>hR.mine s1 o1 sl1 i1 (hlk _ _ l1 h1) l1,hR.lv,hR.E,hR.e0,hR.d,hR.out,hR.pin,λs1 o1 sl1 i1 h1 l1=>hR.fpl s1 o1 sl1 i1 (hlk _ _ l1 h1) l1,hR.g⟩;simp only[TS.set,kz5]at ho;split at ho;rename_i he;injection ho with ho;subst ho;subst he
 have:s<ρ.length:=by rw[hR.nx];exact hs
 exact⟨ρ[s],Qab this,by simp only[OR]⟩;exact hR.ob s' o ho
mutual
theorem VR.ren{s s':Nat}{sl sl':Slot}(h1:ρ[s]? = some sl)(h2:ρ[s']? = some sl')(he:sl'.v=sl.v):∀{x:TV D.T}{v:V},VR D ρ lv x v->VR D ρ lv (TV.ren D s s' x) v
 |.own j,v,h=>by
  simp only[TV.ren];split;rename_i hj;subst hj;simp only[VR]at h ⊢;obtain⟨q,k1,k2,k3⟩:=h
  rw[h1]at k1;injection k1 with k1;subst k1
  exact⟨sl',h2,by rw[he];exact k2,k3⟩
  exact h
 |.dp j i off,v,h=>by
  simp only[TV.ren];split;rename_i hj;subst hj;simp only[VR]at h ⊢;obtain⟨q,j',ver,m,k1,k2⟩:=h
  rw[h1]at k1;injection k1 with k1;subst k1
  exact⟨sl',j',ver,m,h2,by rw[he];exact k2⟩
  exact h
 |.bsl q cs,v,h=>by simp only[TV.ren,VR]at h ⊢;obtain⟨vs,k1,k2⟩:=h;exact⟨vs,k1,VRL.ren h1 h2 he k2⟩
 |.agg cs,v,h=>by simp only[TV.ren,VR]at h ⊢;obtain⟨vs,k1,k2⟩:=h;exact⟨vs,k1,VRL.ren h1 h2 he k2⟩
 |.tup cs,v,h=>by simp only[TV.ren,VR]at h ⊢;obtain⟨vs,k1,k2⟩:=h;exact⟨vs,k1,VRL.ren h1 h2 he k2⟩
 |.any,v,h=>by simpa only[TV.ren]using h
 |.bool b,v,h=>by simpa only[TV.ren]using h
 |.int k n,v,h=>by simpa only[TV.ren]using h
 |.str b,v,h=>by simpa only[TV.ren]using h
 |.nilp,v,h=>by simpa only[TV.ren]using h
 |.nils,v,h=>by simpa only[TV.ren]using h
 |.mapn,v,h=>by simpa only[TV.ren]using h
 |.nilf,v,h=>by simpa only[TV.ren]using h
 |.nili,v,h=>by simpa only[TV.ren]using h
 |.sl t xs fl,v,h=>by simpa only[TV.ren]using h
 |.ptr j off,v,h=>by simpa only[TV.ren]using h
 |.bp j off,v,h=>by simpa only[TV.ren]using h
 |.osl j lo,v,h=>by simpa only[TV.ren]using h
 |.map j,v,h=>by simpa only[TV.ren]using h
 |.mc t es,v,h=>by simpa only[TV.ren]using h
 |.ref cs off,v,h=>by simpa only[TV.ren]using h
 |.ap j t i x off,v,h=>by simpa only[TV.ren]using h
 |.fn f a b,v,h=>by simpa only[TV.ren]using h
 |.iface t x,v,h=>by simpa only[TV.ren]using h
theorem VRL.ren{s s':Nat}{sl sl':Slot}(h1:ρ[s]? = some sl)(h2:ρ[s']? = some sl')(he:sl'.v=sl.v):∀{cs:List (TV D.T)}{vs:List V},VRL D ρ lv cs vs->VRL D ρ lv (TV.zms D s s' cs) vs
 |[],vs,h=>by simpa only[TV.zms]using h
 |c::cs,vs,h=>by simp only[TV.zms,VRL]at h ⊢;obtain⟨v,r,k1,k2,k3⟩:=h;exact⟨v,r,k1,VR.ren h1 h2 he k2,VRL.ren h1 h2 he k3⟩
end
theorem yl6{ρ ρ':List Slot}{g:List (Option Nat)}{f:TV D.T->TV D.T}{i s:Nat}{v:V}(hf:∀s0 s',f (.own s0) = .own s'->∀u,VR D ρ lv (.own s0) u->VR D ρ' lv (.own s') u)(hg:∀s0,g[i]? = some (some s0)->VR D ρ lv (.own s0) v)(h:(g.map (gmap D f))[i]? = some (some s)):VR D ρ' lv (.own s) v:=by
 rw[Qan,Qaf]at h;obtain⟨o,h1,h2⟩:=h
 cases o with
 |none=>cases h2
 |some s0=>
  simp only[gmap]at h2;split at h2;rename_i s' e;injection h2 with h2;subst h2;exact hf s0 s' e v (hg s0 h1);cases h2
theorem TRr.z7y(hR:TRr D F ρ ts σ)(f:TV D.T->TV D.T)(hf:∀x v,VR D ρ F.lv x v->VR D ρ F.lv (f x) v):TRr D F ρ (ts.z7y D f) σ:=by
 have hlive:∀o:TO D.T,(TO.map D f o).live->o.live:=λo h=>by cases o <;> first|exact h|trivial
 have hob:∀s o,fnd (ts.z7y D f).o s=some o->∃o',fnd ts.o s=some o'∧o=TO.map D f o':=λs o h=>by
  simp only[TS.z7y]at h;rw[zer (TO.map D f),Qaf]at h;obtain⟨o',h1,h2⟩:=h;exact⟨o',h1,h2.symm⟩
 refine⟨hR.nx,hR.nt,λj x hj =>?_,λs o ho =>?_,λs1 s2 o1 o2 sl1 sl2 i h1 h2 l1 l2 =>?_,λs1 o1 sl1 i h1 l1 =>?_,hR.lv,hR.E,hR.e0,hR.d.imp _ (λxs vs k=>VRL.of (by simp[k.length]) λj c v hc hv=>by
  rw[Qan,Qaf]at hc;obtain⟨c0,hc0,rfl⟩:=hc
  exact hf _ _ (k.zp9 hc0 hv)),hR.out,hR.pin,λs1 o1 sl1 i h1 l1 =>?_,λi s v h1 h2=>yl6 (λs0 s' e u hu=>by have:=hf _ _ hu;rwa[e]at this) (λs0 e=>hR.g i s0 v e h2) h1⟩
 simp only[TS.z7y]at hj;rw[zer f,Qaf]at hj;obtain⟨y,hy,rfl⟩:=hj;obtain⟨v,h1,h2⟩:=hR.tm j y hy;exact⟨v,h1,hf _ _ h2⟩;obtain⟨o',h1,rfl⟩:=hob s o ho;obtain⟨sl,k1,k2⟩:=hR.ob s o' h1;refine⟨sl,k1,?_⟩
 cases o' with
 |cells cs=>
  simp only[TO.map,OR]at k2 ⊢;obtain⟨i,vs,q1,q2,q3⟩:=k2;refine⟨i,vs,q1,q2,.of (by simp[q3.length]) λj c v hc hv =>?_⟩;rw[Qan,Qaf]at hc;obtain⟨c',hc',rfl⟩:=hc
  exact hf _ _ (q3.zp9 hc' hv)
 |acc ty t xs w=>exact k2
 |siter s pos=>exact k2
 |rig=>exact k2
 |mp ty t es=>exact k2
 |mit t last es=>exact k2
 |bld ty b=>
  cases b with
  |none=>exact k2
  |some q=>
   simp only[OR]at k2;obtain⟨i,a,c,q1,q2,q3,q4⟩:=k2;have h5:VR D ρ F.lv (f (.own q)) c:=hf _ _ q4;simp only[TO.map];split;rename_i s' hs';rw[hs']at h5;simp only[OR];exact⟨i,a,c,q1,q2,q3,h5⟩
   simp only[OR]
 |gone=>exact k2
 |deep ty q xs hh=>
  cases hh with
  |none=>exact k2
  |some p=>
   obtain⟨n,c,s0⟩:=p;simp only[TO.map];split;rename_i s1 hs1;simp only[OR]at k2 ⊢;refine⟨k2.1,?_⟩;have k3:=k2.2
   cases hk:sl.k with
   |none=>rw[hk]at k3;cases k3.2.2.2
   |some j=>
    rw[hk]at k3;obtain⟨ver,cp,fps,a1,a2,a3,a4,a5,a6,a7⟩:=k3;refine⟨ver,cp,fps,a1,a2,a3,a4,a5,λm x w b e1 e2 e3 =>?_,λn' f' s' e =>?_⟩;obtain⟨vs,cs,b1,b2,b3,b4,b5⟩:=a6 m x w b e1 e2 e3;refine⟨vs,cs,b1,b2,b3,b4,λf p u d g1 g2 g3 =>?_⟩;have:=b5 f p u d g1 g2 g3;unfold z07 at this ⊢;simp only at this ⊢;split at this;rename_i s2 hs2;split at hs2;rename_i hc;injection hs2 with hs2;subst hs2;rw[Qbo hc]
    obtain⟨d1,d2,hlf,sl2,d3,d4⟩:=this;have h5:=hf (.own s0) u (by simp only[VR];exact⟨sl2,d3,d4,hlf⟩);rw[hs1]at h5;simp only[VR]at h5;obtain⟨sl3,d5,d6,_⟩:=h5;exact⟨d1,d2,hlf,sl3,d5,d6⟩;cases hs2;rename_i hs2;split at hs2;cases hs2;rename_i hc;rw[Qbp hc];exact this;simp only[Qbl,Prod.mk.injEq]at e;obtain⟨rfl,rfl,rfl⟩:=e;exact a7 n c s0 rfl
   simp only[OR]
 obtain⟨o1',q1,rfl⟩:=hob s1 o1 h1;obtain⟨o2',q2,rfl⟩:=hob s2 o2 h2;exact hR.inj s1 s2 o1' o2' sl1 sl2 i q1 q2 (hlive _ l1) (hlive _ l2);obtain⟨o1',q1,rfl⟩:=hob s1 o1 h1;exact hR.mine s1 o1' sl1 i q1 (hlive _ l1);obtain⟨o1',q1,rfl⟩:=hob s1 o1 h1;exact hR.fpl s1 o1' sl1 i q1 (hlive _ l1)
theorem TRr.put(hR:TRr D F ρ ts σ){dst:Option Nat}{x:TV D.T}{v:V}{ts':TS D.T}(h:ts.put D dst x=some ts')(hx:VR D ρ F.lv x v):TRr D F ρ ts' (σ.put dst v):=by
 cases dst with
 |none=>simp only[TS.put,Qbl]at h;subst h;exact hR
 |some d=>
  simp only[TS.put]at h;split at h;rename_i hd;injection h with h;subst h;refine⟨hR.nx,by simp[St.put,hR.nt],λj y hj =>?_,hR.ob,hR.inj,hR.mine,hR.lv,hR.E,hR.e0,hR.d,hR.out,hR.pin,hR.fpl,hR.g⟩;rw[kz5]at hj;simp only[St.put];split at hj;rename_i he;injection hj with hj;subst hj;subst he;exact⟨v,by rw[Qap (by rw[hR.nt];exact hd)],hx⟩;rename_i he;obtain⟨u,h1,h2⟩:=hR.tm j y hj
  exact⟨u,by rw[Qam he];exact h1,h2⟩;cases h
theorem TRr.tell(hR:TRr D F ρ ts σ){d:Nat}{x:TV D.T}{v:V}(h:σ.t[d]? = some v)(hx:VR D ρ F.lv x v):TRr D F ρ {ts with t:=(d,x)::ts.t} σ:=by
 refine⟨hR.nx,hR.nt,λj y hj =>?_,hR.ob,hR.inj,hR.mine,hR.lv,hR.E,hR.e0,hR.d,hR.out,hR.pin,hR.fpl,hR.g⟩;rw[kz5]at hj;split at hj
 rename_i he;injection hj with hj;subst hj;subst he;exact⟨v,h,hx⟩
 exact hR.tm j y hj
end
section
variable {P : Program} {D : Dat}
theorem zqc:∀{l cs z},z60 D l cs = .ok z->∀(j) (p),HL.nth l z j=some p->∃c,cs[j]? = some c∧zcz D p.1 c = .ok p.2
 |[],cs,z,h,j,p,hp=>by simp[HL.nth]at hp
 |t::l,[],z,h,j,p,hp=>by simp[z60]at h
 |t::l,c::cs,z,h,j,p,hp=>by
  simp[z60]at h;split at h;rename_i y hy;split at h;rename_i ys hys;cases h
  cases j with
  |zero=>simp[HL.nth,Qbl]at hp;grind
  |succ j=>
   obtain⟨c',h1,h2⟩:=zqc hys j p hp
   grind
  cases h;cases h;cases h;cases h
theorem yex{t x y}(h:zcz D t (D.leaf t x) = .ok y):y=x:=by
 cases t with
 |bool=>grind[Dat.leaf,zcz]
 |int k=>simp_all[Dat.leaf,zcz]
 |str=>grind[Dat.leaf,zcz]
 |nat=>simp[zcz]at h
 |st i=>simp[zcz]at h
 |sl t=>
  simp_all[Dat.leaf,zcz,z9d,FR.of]
end
theorem z8t:∀(l:List (List Nat)) (n) (c a c'),l[n]? = some c->c.Perm (a++c')->l.flatten.Perm (a++(l.set n c').flatten)
 |[],n,c,a,c',h,_=>by simp at h
 |x::l,0,c,a,c',h,hp=>by
  grind
 |x::l,n+1,c,a,c',h,hp=>by
  refine((z8t l n c a c' (by simpa using h) hp).append_left x).trans ?_
  grind
section
variable {P : Program} {D : Dat} {F : Fr} {ρ : List Slot} {ts : TS D.T} {σ : St} {lv : Nat} {L : List (Option kz8)}
def zgz(D:Dat)(ρ:List Slot)(lv:Nat)(L:List (Option kz8))(q f:Nat)(hole:Option (Nat×Nat))(p:(t:DTy)×t.S D.T)(u:V):Prop :=
 match (match hole with|some (f',c)=>(if f'=f then some c else none)|none=>none)with
 |some c=>(D.ow q f).isSome=true∧u.leaf=true∧∃sl,ρ[c]? = some sl∧u=sl.v
 |none=>DO D lv L (ynt (D.ow q f)) p.1 p.2 u []
theorem zgi{q:Nat}:∀{l:List DTy}{cs:List (TV D.T)}{vs:List V}{f0:Nat}{r:HL D.T l×Option (Nat×Nat)},zuq D q l cs f0 = .ok r->VRL D ρ lv cs vs ->
  cs.length=l.length∧(∀g c,r.2=some (g,c)->f0<=g∧g<f0+l.length)∧∀(f:Nat) (p:(t:DTy)×t.S D.T) (u:V),HL.nth l r.1 f=some p->vs[f]? = some u->zgz D ρ lv L q (f0+f) r.2 p u
 |[],[],vs,f0,r,h,hv=>by
  cases h
  exact⟨rfl,λg c e=>(by cases e),λf p u hp=>(by simp[HL.nth]at hp)⟩
 |[],c::cs,vs,f0,r,h,hv=>by cases h
 |t::l,[],vs,f0,r,h,hv=>by cases h
 |t::l,c::cs,vs,f0,r,h,hv=>by
  simp only[VRL]at hv;obtain⟨v,us,rfl,hv1,hv2⟩:=hv;unfold zuq at h;split at h;rename_i how;split at h;rename_i x hx;split at h;rename_i r' hr';injection h with h;subst h;obtain⟨a1,a2,a3⟩:=zgi hr' hv2;refine⟨by simp[a1],λg c' e=>by have:=a2 g c' e;simp only[List.length_cons];omega,λf p u hp hu =>?_⟩
  cases f with
  |zero=>
   simp only[HL.nth,Qbl]at hp;simp only[List.getElem?_cons_zero,Qbl]at hu;subst hp;subst hu;unfold zgz
   have hno:(match r'.2 with|some (f',c)=>(if f'=f0+0 then some c else none)|none=>none)=none:=by
    cases hh:r'.2 with
    |none=>rfl
    |some g=>have:=a2 g.1 g.2 hh;simp only;rw[Qbp (by omega)]
   simp only[hno];rw[Nat.add_zero,how]
   exact .dat (zey hx hv1)
  |succ f=>
   have:=a3 f p u (by simpa[HL.nth]using hp) (by simpa using hu);rw[show f0+(f+1)=f0+1+f by omega];exact this
  cases h;cases h;cases h;cases h;rename_i ty how;split at h;rename_i r' hr';obtain⟨a1,a2,a3⟩:=zgi hr' hv2
  have hno:(match r'.2 with|some (f',c)=>(if f'=f0+0 then some c else none)|none=>none)=none:=by
   cases hh:r'.2 with
   |none=>rfl
   |some g=>have:=a2 g.1 g.2 hh;simp only;rw[Qbp (by omega)]
  split at h;rename_i x hn;injection h with h;subst h;refine⟨by simp[a1],λg c' e=>by have:=a2 g c' e;simp only[List.length_cons];omega,λf p u hp hu =>?_⟩
  cases f with
  |zero=>
   simp only[HL.nth,Qbl]at hp;simp only[List.getElem?_cons_zero,Qbl]at hu;subst hp;subst hu;unfold zgz;simp only[hno];rw[Nat.add_zero,how];unfold yqa at hn;split at hn;injection hn with hn;injection hn with hn;subst hn;simp only[VR]at hv1;subst hv1;exact .nil (.nil _) (.inl rfl);injection hn with hn;injection hn with _ hn;cases hn
   cases hn
  |succ f=>
   have:=a3 f p u (by simpa[HL.nth]using hp) (by simpa using hu);rw[show f0+(f+1)=f0+1+f by omega];exact this
  rename_i x c' hn;split at h;rename_i hr2;injection h with h;subst h;refine⟨by simp[a1],λg c2 e=>(by injection e with e;injection e with e1 e2;simp only[List.length_cons];omega),λf p u hp hu =>?_⟩
  cases f with
  |zero=>
   simp only[HL.nth,Qbl]at hp;simp only[List.getElem?_cons_zero,Qbl]at hu;subst hp;subst hu;unfold zgz;simp only[Nat.add_zero,if_true];unfold yqa at hn;split at hn;injection hn with hn;injection hn with _ hn;cases hn;injection hn with hn;injection hn with _ hn;injection hn with hn;subst hn;simp only[VR]at hv1;obtain⟨sl,e1,e2,e3⟩:=hv1;exact⟨by rw[how];rfl,e3,sl,e1,e2⟩
   cases hn
  |succ f=>
   have:=a3 f p u (by simpa[HL.nth]using hp) (by simpa using hu);rw[show f0+(f+1)=f0+1+f by omega];unfold zgz at this ⊢;rw[hr2]at this;simp only at this ⊢;rw[Qbp (by omega)];exact this
  cases h;cases h;cases h;cases h
theorem yom{q n x hole i us}(hD:D.Ok P)(hi:i.toNat=n)(hl:us.length=(D.fl q).length)(h:∀(f:Nat) (p:(t:DTy)×t.S D.T) (u:V),HL.nth (D.fl q) x f=some p->us[f]? = some u->zgz D ρ lv L q f hole p u) :
  EO D ρ lv L q (hole.map λp=>(i,p.1,p.2)) n (D.make q x) (.agg us) []:=by
 have hr2:([]:List Nat)=(List.replicate (D.fl q).length ([]:List Nat)).flatten:=by
  grind[List.flatten_eq_nil_iff]
 refine⟨us,List.replicate (D.fl q).length [],rfl,hl,by simp,hr2,λf p u b h1 h2 h3 =>?_⟩;rw[hD.getMake]at h1
 have hb:b=[]:=by
  grind
 subst hb;have:=h f p u h1 h2;unfold zgz at this
 cases hole with
 |none=>exact this
 |some g=>
  obtain⟨f',c⟩:=g;simp[z07]at this ⊢;by_cases hf:f'=f
  simp_all
  simp_all
theorem EO.y2r{q n x w c}(h:EO D ρ lv L q none n x w c)(hh)(hn:∀n' f' s',hh=some (n',f',s')->n'.toNat≠n):EO D ρ lv L q hh n x w c:=by
 obtain⟨vs,cs,a1,a2,a3,a4,a5⟩:=h;refine⟨vs,cs,a1,a2,a3,a4,λf p u b e1 e2 e3 =>?_⟩;have:=a5 f p u b e1 e2 e3
 have hno:z07 hh n f=none:=by
  cases hh with
  |none=>rfl
  |some g=>obtain⟨n',f',s'⟩:=g;simp[z07];grind
 rw[hno];exact this
end
section
variable {P : Program} {D : Dat} {F : Fr} {ρ : List Slot} {ts : TS D.T} {σ : St} {lv : Nat}
theorem ygr{H f op v}(h:pv P H f op=some v):ox P H f op=some (v,H):=by
 cases op
 case call c=>
  grind[pv,ox,z7x]
 all_goals first
  |(unfold ox;simp[h,Qbk];done)
  |(simp[pv]at h;done)
theorem zht(H:kz3)(hlv:H.lv=F.lv)(hE:H.E=F.E):H=⟨F.lv,H.L,F.E⟩:=by cases H;grind
theorem TRr.ztt(hR:TRr D F ρ ts σ)(i)(o):σ.H.set F.lv i o={σ.H with L:=σ.H.L.set i (some o)}:=by
 unfold kz3.set;rw[Qbo hR.lv.symm]
variable (hD : D.Ok P)
include hD
theorem TRr.zlv(hR:TRr D F ρ ts σ){cs vs}(h:VRL D ρ F.lv cs vs) :
  TRr D F (ρ++[⟨.any,some σ.H.L.length,[],[]⟩]) (ts.new D (.cells cs)) {σ with H:=σ.H.push (.cells vs)}∧VR D (ρ++[⟨.any,some σ.H.L.length,[],[]⟩]) F.lv (.ptr ts.nx 0) (.ptr σ.H.lv σ.H.L.length 0):=by
 refine⟨hR.new _ _ _ hR.lv hR.E (by simp[kz3.push]) (λi hi=>by grind[kz3.push]) (λi hi=>by grind) ?_,?_⟩;simp only[OR];exact⟨σ.H.L.length,vs,rfl,by simp[kz3.push],h.more _⟩;exact⟨⟨.any,some σ.H.L.length,[],[]⟩,σ.H.L.length,by rw[<-hR.nx];simp,rfl,by rw[hR.lv]⟩
omit hD in
theorem DR.one{t x v}(h:DR D t x v)(ht:∀i,t ≠ .st i)(hn:t ≠ .nat):v.cells=[v]∧v.leaf=true∧(∀c,z78 v [c]=c)∧∀c:V,c.leaf=true->fits v [c]=true:=by
 cases h with
 |st=>exact(ht _ rfl).elim
 |enc=>exact(ht _ rfl).elim
 |nat=>exact(hn rfl).elim
 |_=>exact⟨rfl,rfl,λ_=>rfl,λc hc=>hc⟩
theorem DR.z78{t y z w vx x off}(hw:DR D t y w)(hx:VR D ρ lv x vx)(hsol:x.kza=true)(hoff:off+x.cells.length<=(D.tv t y).cells.length)
  (hz:asD D t (match D.tv t y with| .agg cs'=>.agg (zd8 cs' off x.cells)|_=>x) = .ok z) (ht:t ≠ .nat) :
  DR D t z (Go.Ab.z78 w (zzi w.cells off vx.cells))∧fits w (zzi w.cells off vx.cells)=true∧off+vx.cells.length<=w.cells.length:=by
 have hc:=VR.y9m (ρ:=ρ) (lv:=lv) hD hw;have hxc:=hx.cells hsol;have hlen:=hxc.length;have hlen2:=hc.length;refine⟨?_,?_,by omega⟩
 all_goals
  by_cases hst:∃i,t = .st i;obtain⟨i,rfl⟩:=hst;obtain⟨us,rfl,k1,k2⟩:=DR.agg hD hw
  first
   |rfl
   |(simp[Dat.tv]at hz
     refine zd4 (ρ:=ρ) (lv:=lv) hD hz ?_;simp only[VR]
     exact⟨_,rfl,VRL.zzi (by grind[Dat.tv,TV.cells]) hxc off⟩)
  have hne:=λi e=>hst ⟨i,e⟩
  have hnagg:(match D.tv t y with| .agg cs'=>TV.agg (zd8 cs' off x.cells)|_=>x)=x:=by
   cases t with
   |st i=>grind
   |_=>rfl
  rw[hnagg]at hz;have hd:=zd4 hD hz hx;obtain⟨a1,a2,a3,a4⟩:=hw.one hne ht;obtain⟨b1,b2,b3,b4⟩:=hd.one hne ht;have:zzi [w] 0 [vx]=[vx]:=rfl
  grind
theorem yko(hR:TRr D F ρ ts σ){s j ty q off i xs h sl ver cp}{fps:List (List Nat)}(ho:fnd ts.o s=some (.deep ty q xs h))(h1:ρ[s]? = some sl)(hk:sl.k=some j)
  (q1:sl.ws.length=xs.length) (e1:sl.v = .hs F.lv j ver 0 sl.ws.length false) (e2:σ.H.L[j]? = some (some (.arr ver ty (D.len (.st q)) sl.ws cp))) (e3:fps.length=xs.length) (e4:sl.fp=fps.flatten) (e5:sl.fp.Nodup)
  (e6:∀(n:Nat) (x:D.T q) (w:V) (c:List Nat),xs[n]? = some x->sl.ws[n]? = some w->fps[n]? = some c->EO D ρ F.lv σ.H.L q h n x w c) (hh:h=none∨∃c',h=some (i,off,c')) {y} (p1:0<=i) (p2:xs[i.toNat]? = some y) (how:(D.ow q off).isSome=true)
  {c slc} (hc:ρ[c]? = some slc) (hcl:slc.v.leaf=true) {vs} {cs:List (List Nat)}(b1:sl.ws[i.toNat]? = some (.agg vs)) (b2:vs.length=(D.fl q).length) (b3:cs.length=(D.fl q).length) (b4:fps[i.toNat]? = some cs.flatten) (hoff:off<(D.fl q).length)
  (b5:∀(f:Nat) (p:(t:DTy)×t.S D.T) (u:V) (b:List Nat),HL.nth (D.fl q) (D.get q y) f=some p->vs[f]? = some u->cs[f]? = some b->f≠off->DO D F.lv σ.H.L (ynt (D.ow q f)) p.1 p.2 u b) :
  TRr D F (ρ++[⟨sl.v,some j,sl.ws.set i.toNat (.agg (vs.set off slc.v)),(fps.set i.toNat (cs.set off []).flatten).flatten⟩]) (ts.zts D s (.deep ty q xs (some (i,off,c)))) {σ with H:={σ.H with L:=σ.H.L.set j (some (.arr ver ty (D.len (.st q)) (sl.ws.set i.toNat (.agg (vs.set off slc.v))) cp))}}:=by
 have hlt:=(Qaa.1 p2).1;have hjl:=(Qaa.1 e2).1;have perm0:sl.fp.Perm ((cs[off]'(by omega))++(fps.set i.toNat (cs.set off []).flatten).flatten):=by grind[z8t]
 have hnd:=(List.nodup_append.1 (perm0.nodup_iff.1 e5)).2.1;have hin2:∀n,n∈(fps.set i.toNat (cs.set off []).flatten).flatten->n∈sl.fp:=λn h=>perm0.mem_iff.2 (List.mem_append_right _ h)
 let ws':=sl.ws.set i.toNat (.agg (vs.set off slc.v))
 let sl':Slot:=⟨sl.v,some j,ws',(fps.set i.toNat (cs.set off []).flatten).flatten⟩
 have hL':∀n∈sl.fp,(σ.H.L.set j (some (.arr ver ty (D.len (.st q)) ws' cp)))[n]? = σ.H.L[n]? := λn hn=>by
  rw[Qam (λe=>(hR.fpl s _ sl n ho trivial h1 hn).1 (by rw[hk,e]))]
 have hor:OR D (ρ++[sl']) F.lv (σ.H.L.set j (some (.arr ver ty (D.len (.st q)) ws' cp))) sl' (.deep ty q xs (some (i,off,c))):=by
  simp only[OR];refine⟨by simp[sl',ws',q1],ver,cp,fps.set i.toNat (cs.set off []).flatten,by simp[sl',ws',e1],by simp[sl',hjl],by simpa using e3,rfl,hnd,λm x w' c' m1 m2 m3 =>?_,λn' f' s' e =>?_⟩;have hcL:=λn hn=>hL' n (hin2 n (List.mem_flatten.2 ⟨c',Qaw m3,hn⟩))
  refine EO.mono (L:=σ.H.L) [sl'] ?_ hcL;by_cases hm:i.toNat=m;subst hm;rw[p2]at m1;cases m1;rw[Qap (by omega)]at m3;cases m3;simp[sl',ws']at m2;rw[Qap (by omega)]at m2;cases m2;refine⟨vs.set off slc.v,cs.set off [],rfl,by simpa using b2,by simpa using b3,rfl,λf' p' u' b' r1 r2 r3 =>?_⟩;by_cases hff:off=f';subst hff
  rw[show z07 (some (i,off,c)) i.toNat off=some c by simp[z07]];rw[Qap (by omega)]at r2 r3;injection r2 with r2;cases r3;grind
  grind[z07]
  simp[sl',ws']at m2;rw[Qam hm]at m2 m3;have:=e6 m x w' c' m1 m2 m3
  have hno:EO D ρ F.lv σ.H.L q none m x w' c':=by
   rcases hh with rfl|⟨c2,rfl⟩
   exact this;obtain⟨vs',cs',d1,d2,d3,d4,d5⟩:=this;refine⟨vs',cs',d1,d2,d3,d4,λf' p' u' b' r1 r2 r3 =>?_⟩
   grind[z07]
  exact hno.y2r _ λn' f' s' e=>(by grind)
  grind
 have hm:=hR.move ho trivial h1 hk (.deep ty q xs (some (i,off,c))) (.arr ver ty (D.len (.st q)) ws' cp) sl' rfl hor hin2;exact hm.z7y (TV.ren D s ts.nx) λx v hxv=>VR.ren (lookup_append h1) (sl':=sl') (by rw[<-hR.nx];simp) rfl hxv
theorem yo2(hR:TRr D F ρ ts σ){s j ty q i xs sl ver cp}{fps:List (List Nat)}(ho:fnd ts.o s=some (.deep ty q xs none))(h1:ρ[s]? = some sl)(hk:sl.k=some j)
  (q1:sl.ws.length=xs.length) (e1:sl.v = .hs F.lv j ver 0 sl.ws.length false) (e2:σ.H.L[j]? = some (some (.arr ver ty (D.len (.st q)) sl.ws cp))) (e3:fps.length=xs.length) (e4:sl.fp=fps.flatten) (e5:sl.fp.Nodup)
  (e6:∀(n:Nat) (x:D.T q) (w:V) (c:List Nat),xs[n]? = some x->sl.ws[n]? = some w->fps[n]? = some c->EO D ρ F.lv σ.H.L q none n x w c) (p1:0<=i) (hlt:i.toNat<xs.length) {x hole us} (hl:us.length=(D.fl q).length)
  (hrow:∀(f:Nat) (p:(t:DTy)×t.S D.T) (u:V),HL.nth (D.fl q) x f=some p->us[f]? = some u->zgz D ρ F.lv σ.H.L q f hole p u) :
  TRr D F (ρ++[⟨sl.v,some j,sl.ws.set i.toNat (.agg us),(fps.set i.toNat []).flatten⟩]) (ts.zts D s (.deep ty q (xs.set i.toNat (D.make q x)) (hole.map λp=>(i,p.1,p.2)))) {σ with H:={σ.H with L:=σ.H.L.set j (some (.arr ver ty (D.len (.st q)) (sl.ws.set i.toNat (.agg us)) cp))}}:=by
 have hjl:=(Qaa.1 e2).1;have b4:fps[i.toNat]? = some (fps[i.toNat]'(by omega)):=Qab (by omega);have perm0:sl.fp.Perm ((fps[i.toNat]'(by omega))++(fps.set i.toNat []).flatten):=by grind[z8t]
 have hnd:=(List.nodup_append.1 (perm0.nodup_iff.1 e5)).2.1;have hin2:∀n,n∈(fps.set i.toNat []).flatten->n∈sl.fp:=λn h=>perm0.mem_iff.2 (List.mem_append_right _ h)
 let ws':=sl.ws.set i.toNat (.agg us)
 let sl':Slot:=⟨sl.v,some j,ws',(fps.set i.toNat []).flatten⟩
 have hL':∀n∈sl.fp,(σ.H.L.set j (some (.arr ver ty (D.len (.st q)) ws' cp)))[n]? = σ.H.L[n]? := λn hn=>by
  rw[Qam (λe=>(hR.fpl s _ sl n ho trivial h1 hn).1 (by rw[hk,e]))]
 have hor:OR D (ρ++[sl']) F.lv (σ.H.L.set j (some (.arr ver ty (D.len (.st q)) ws' cp))) sl' (.deep ty q (xs.set i.toNat (D.make q x)) (hole.map λp=>(i,p.1,p.2))):=by
  simp only[OR];refine⟨by simp[sl',ws',q1],ver,cp,fps.set i.toNat [],by simp[sl',ws',e1],by simp[sl',hjl],by simpa using e3,rfl,hnd,λm x' w' c' m1 m2 m3 =>?_,λn' f' s' e =>?_⟩;have hcL:=λn hn=>hL' n (hin2 n (List.mem_flatten.2 ⟨c',Qaw m3,hn⟩))
  refine EO.mono (L:=σ.H.L) [sl'] ?_ hcL;simp[sl',ws']at m2;by_cases hm:i.toNat=m;subst hm;rw[Qap (by omega)]at m1 m2 m3;injection m1 with m1;injection m2 with m2;injection m3 with m3;subst m1;subst m2;subst m3;exact yom hD rfl hl hrow;rw[Qam hm]at m1 m2 m3
  exact(e6 m x' w' c' m1 m2 m3).y2r _ λn' f' s' e=>(by
   grind[Qaf])
  grind[Qaf]
 have hm:=hR.move ho trivial h1 hk (.deep ty q (xs.set i.toNat (D.make q x)) (hole.map λp=>(i,p.1,p.2))) (.arr ver ty (D.len (.st q)) ws' cp) sl' rfl hor hin2;exact hm.z7y (TV.ren D s ts.nx) λx v hxv=>VR.ren (lookup_append h1) (sl':=sl') (by rw[<-hR.nx];simp) rfl hxv
theorem y4q{R}(hR:TRr D F ρ ts σ){t s ty q off:Nat}{i xs hh x va vx k kf}{r:R}(h:ybd D ts ty q xs hh s i off x k kf=some r)(ho:fnd ts.o s=some (.deep ty q xs hh))
  (ha:VR D ρ F.lv (.dp s i off) va) (hx:VR D ρ F.lv x vx) (hs:x.kza=true) (hcond:(vx.kza&&(P.info? t).isSome&&vx.cells.length==P.cellsOf t)=true) :
  (∃z ts' v H' ρ',z92 P σ.H t va vx=some (v,H')∧VR D ρ' F.lv z v∧TRr D F ρ' ts' {σ with H:=H'}∧k z ts'=some r)∨∃s,kf s=some r:=by
 simp only[VR]at ha;obtain⟨sl,j',ver',m,h1,g1,g2,g3,rfl⟩:=ha;obtain⟨sl',k1,k2⟩:=hR.ob s _ ho;rw[h1]at k1;cases k1;simp only[OR]at k2;obtain⟨q1,q3⟩:=k2
 have base:∀{y:D.T q},xs[i.toNat]? = some y->∃(j ver:Nat) (cp:Option Nat) (fps:List (List Nat)),sl.k=some j∧sl.v = .hs F.lv j ver 0 sl.ws.length false∧σ.H.L[j]? = some (some (.arr ver ty (D.len (.st q)) sl.ws cp))∧fps.length=xs.length∧sl.fp=fps.flatten∧sl.fp.Nodup ∧
   (∀(n:Nat) (x:D.T q) (w:V) (c:List Nat),xs[n]? = some x->sl.ws[n]? = some w->fps[n]? = some c->EO D ρ F.lv σ.H.L q hh n x w c)∧j'=j∧ver'=ver:=λ{y} p2=>by
  cases hk:sl.k with
  |none=>grind
  |some j=>
   rw[hk]at q3;obtain⟨ver,cp,fps,e1,e2,e3,e4,e5,e6,e7⟩:=q3;have g1':=g1
   rw[e1]at g1';injection g1' with _ a1 a4 _ a5
   exact⟨j,ver,cp,fps,rfl,e1,e2,e3,e4,e5,e6,a1.symm,a4.symm⟩
 unfold ybd at h;split at h;rename_i c;simp[VR]at hx;obtain⟨slc,c1,rfl,c3⟩:=hx;have hvc:slc.v.cells=[slc.v]:=by cases hv:slc.v <;> first|rfl|(rw[hv]at c3;simp[V.leaf]at c3)
 split at h;rename_i ty' how hblt;have hofl:=Nat.le_of_ble_eq_true hblt
 have core:(hh=none∨∃c',hh=some (i,off,c'))->∀{y:D.T q},ix xs i=some y->k .any (ts.zts D s (.deep ty q xs (some (i,off,c))))=some r->∃z ts' v H' ρ',z92 P σ.H t (.ap F.lv j' ver' i.toNat off) slc.v=some (v,H')∧VR D ρ' F.lv z v∧TRr D F ρ' ts' {σ with H:=H'}∧k z ts'=some r:=λhhc {y} hy hk'=>by
  obtain⟨p1,p2⟩:=zdd hy;obtain⟨j,ver,cp,fps,hk,e1,e2,e3,e4,e5,e6,rfl,rfl⟩:=base p2;have hlt:=(Qaa.1 p2).1;have hw:sl.ws[i.toNat]? = some (sl.ws[i.toNat]'(by omega)):=Qab (by omega);have hc0:fps[i.toNat]? = some (fps[i.toNat]'(by omega)):=Qab (by omega);obtain⟨vs,cs,b1,b2,b3,b4,b5⟩:=e6 i.toNat y _ _ p2 hw hc0;rw[b1]at hw;rw[b4]at hc0
  have hsp:zzi vs off slc.v.cells=vs.set off slc.v:=by
   rw[hvc];unfold zzi;rw[List.set_eq_take_append_cons_drop,Qbo (by omega)];simp
  refine⟨.any,_,.any,σ.H.set F.lv j' (.arr ver' ty (D.len (.st q)) (sl.ws.set i.toNat (.agg (vs.set off slc.v))) cp),ρ++[⟨sl.v,some j',sl.ws.set i.toNat (.agg (vs.set off slc.v)),(fps.set i.toNat (cs.set off []).flatten).flatten⟩],?_,by simp[VR],?_,hk'⟩;unfold z92;rw[Qbo hcond];simp only[hR.get e2,if_true,hw];rw[Qbo ⟨by rw[hvc];show off+1<=vs.length;omega,rfl⟩]
  show some (V.any,σ.H.set F.lv j' (.arr ver' ty (D.len (.st q)) (sl.ws.set i.toNat (.agg (zzi vs off slc.v.cells))) cp))=_;rw[hsp];rw[hR.ztt];refine yko hD hR ho h1 hk q1 e1 e2 e3 e4 e5 e6 hhc p1 p2 (by rw[how];rfl) c1 c3 hw b2 b3 hc0 hofl λf p u b t1 t2 t3 hne =>?_
  have:=b5 f p u b t1 t2 t3
  have hno:z07 hh i.toNat f=none:=by
   rcases hhc with rfl|⟨c',rfl⟩
   rfl
   grind[z07]
  grind
 split at h;obtain⟨y,hy,h⟩:=yzv h
 grind
 rename_i p;obtain⟨n,f',c'⟩:=p;split at h;rename_i hff;have hff:=Qaj hff;subst hff;obtain⟨_,hs,h⟩:=yzv h
 have hni:n=i:=by
  grind[y7u]
 subst hni;obtain⟨y,hy,h⟩:=yzv h;exact .inl (core (.inr ⟨c',rfl⟩) hy h)
 grind
 cases h;rename_i cells;simp[VR]at hx;obtain⟨us,rfl,hx⟩:=hx;split at h;split at h;split at h;rename_i rr hrr;obtain⟨y,hy,h⟩:=yzv h;obtain⟨p1,p2⟩:=zdd hy;obtain⟨j,ver,cp,fps,hk,e1,e2,e3,e4,e5,e6,rfl,rfl⟩:=base p2;have hlt:=(Qaa.1 p2).1;obtain⟨a1,a2,a3⟩:=zgi (L:=σ.H.L) hrr hx;have hw:sl.ws[i.toNat]? = some (sl.ws[i.toNat]'(by omega)):=Qab (by omega)
 obtain⟨vs,cs,b1,b2,b3,b4,b5⟩:=e6 i.toNat y _ _ p2 hw (Qab (show i.toNat<fps.length by omega));rw[b1]at hw;have hul:us.length=(D.fl q).length:=by rw[<-hx.length];exact a1
 have hsp:zzi vs 0 us=us:=by
  grind[zzi]
 refine .inl ⟨.any,_,.any,σ.H.set F.lv j' (.arr ver' ty (D.len (.st q)) (sl.ws.set i.toNat (.agg us)) cp),ρ++[⟨sl.v,some j',sl.ws.set i.toNat (.agg us),(fps.set i.toNat []).flatten⟩],?_,by simp[VR],?_,h⟩;unfold z92;rw[Qbo hcond];simp only[hR.get e2,if_true,hw];rw[Qbo ⟨by show 0+us.length<=vs.length;omega,rfl⟩]
 show some (V.any,σ.H.set F.lv j' (.arr ver' ty (D.len (.st q)) (sl.ws.set i.toNat (.agg (zzi vs 0 us))) cp))=_;rw[hsp];rw[hR.ztt]
 exact yo2 hD hR ho h1 hk q1 e1 e2 e3 e4 e5 e6 p1 hlt hul λf p u t1 t2=>by
  have:=a3 f p u t1 t2
  grind
 exact .inr ⟨_,h⟩;cases h
 grind
 cases h;cases h
theorem ydf{R}(hR:TRr D F ρ ts σ){t a x va vx k kf}{r:R}(h:zyb P D ts t a x k kf=some r)(ha:VR D ρ F.lv a va)(hx:VR D ρ F.lv x vx) :
  (∃z ts' v H' ρ',z92 P σ.H t va vx=some (v,H')∧VR D ρ' F.lv z v∧TRr D F ρ' ts' {σ with H:=H'}∧k z ts'=some r)∨∃s,kf s=some r:=by
 unfold zyb at h;split at h;rename_i hc;simp[Qag,Qbg]at hc;obtain⟨⟨c1,c2⟩,c3⟩:=hc;have hcells:=hx.cells c1
 have hcond:(vx.kza&&(P.info? t).isSome&&vx.cells.length==P.cellsOf t)=true:=by
  simp[Qag,Qbg];exact⟨⟨hx.kza c1,c2⟩,by rw[<-hcells.length];exact c3⟩
 split at h;rename_i s off;simp only[VR]at ha;obtain⟨sl,i,h1,h2,rfl⟩:=ha;split at h;rename_i cs ho;split at h;rename_i hoff;left;obtain⟨sl',k1,k2⟩:=hR.ob s _ ho;rw[h1]at k1;cases k1;simp only[OR]at k2;obtain⟨i',vs,q1,q2,q3⟩:=k2;rw[h2]at q1;cases q1;have hlt:=(Qaa.1 q2).1;refine⟨.any,_,.any,σ.H.set F.lv i (.cells (zzi vs off vx.cells)),ρ,?_,by simp[VR],?_,h⟩;unfold z92;rw[Qbo hcond]
 simp only[hR.get q2];rw[Qbo (by rw[<-hcells.length,<-q3.length];exact hoff)];rw[hR.ztt];exact hR.upd ho trivial h1 h2 _ _ (by simp only[OR];exact⟨i,_,h2,by simp[hlt],q3.zzi hcells off⟩);cases h;cases h;rename_i s τ i y off;simp only[VR]at ha;obtain⟨sl,w,h1,h2,h3,h4,h5⟩:=ha;split at h;rename_i ty τ' xs ho;split at h;rename_i hoff;obtain⟨sl',k1,k2⟩:=hR.ob s _ ho;rw[h1]at k1;cases k1;simp only[OR]at k2
 obtain⟨q1,q2,q3⟩:=k2;obtain⟨rfl,hnat,hoff⟩:=hoff;split at h;rename_i z hz;left;obtain⟨d1,d2,d3⟩:=DR.z78 hD h4 hx c1 hoff hz hnat
 cases hk:sl.k with
 |none=>
  rw[hk]at q3
  rcases q3 with ⟨e1,e2⟩|⟨e1,e2⟩
  grind
  grind
 |some j=>
  rw[hk]at q3 h5;obtain⟨ver,cp,e1,e2⟩:=q3;obtain⟨ver',n,e3,rfl⟩:=h5
  rw[e1]at e3;injection e3 with _ _ e3 _ e4;subst e3;subst e4
  have hlt:=(Qaa.1 e2).1;have hit:=(Qaa.1 h3).1
  let ws':=sl.ws.set i.toNat (Go.Ab.z78 w (zzi w.cells off vx.cells))
  let sl':Slot:=⟨sl.v,some j,ws',[]⟩
  have hor:OR D (ρ++[sl']) F.lv (σ.H.L.set j (some (.arr ver ty (D.len τ) ws' cp))) sl' (.acc ty τ (xs.set i.toNat z) true):=by
   grind[OR]
  have hm:=hR.move ho trivial h1 hk (.acc ty τ (xs.set i.toNat z) true) (.arr ver ty (D.len τ) ws' cp) sl' rfl hor;refine⟨.any,_,.any,σ.H.set F.lv j (.arr ver ty (D.len τ) ws' cp),ρ++[sl'],?_,by simp only[VR],?_,h⟩;unfold z92;rw[Qbo hcond];simp only[hR.get e2,if_true,h3]
  grind
  rw[hR.ztt];have:=hm.z7y (TV.ren D s ts.nx) λx v hxv=>VR.ren (lookup_append h1) (sl':=sl') (by rw[<-hR.nx];simp) rfl hxv
  exact this
 exact .inr ⟨_,h⟩;cases h;cases h;cases h;rename_i s i off;simp only[VR]at ha;obtain⟨sl,j',ver',m,h1,g1,g2,g3,rfl⟩:=ha;split at h;rename_i ty q xs hh ho;split at h;rename_i hoff;obtain⟨hflat,hoff⟩:=hoff;obtain⟨y,hy,h⟩:=yzv h;obtain⟨sl',k1,k2⟩:=hR.ob s _ ho
 rw[h1]at k1;injection k1 with k1;subst k1
 simp only[OR]at k2;obtain⟨q1,q3⟩:=k2;obtain⟨p1,p2⟩:=zdd hy;have hlt:i.toNat<xs.length:=(Qaa.1 p2).1;split at h
 ·rename_i z hz;left
  cases hk:sl.k with
  |none=>grind
  |some j=>
  rw[hk]at q3;obtain⟨ver,cp,fps,e1,e2,e3,e4,e5,e6,e7⟩:=q3
  rw[e1]at g1;injection g1 with _ g1 g4 _ g5;subst g1;subst g4
  have hw:sl.ws[i.toNat]? = some (sl.ws[i.toNat]'(by omega)):=Qab (by omega);have hc0:fps[i.toNat]? = some (fps[i.toNat]'(by omega)):=Qab (by omega);obtain⟨vs,cs,b1,b2,b3,b4,b5⟩:=e6 i.toNat y _ _ p2 hw hc0;have hlen:=hcells.length;have hjl:=(Qaa.1 e2).1
  let w':V:=.agg (zzi vs off vx.cells)
  let ws':=sl.ws.set i.toNat w'
  let sl':Slot:=⟨sl.v,some j,ws',sl.fp⟩
  have hsp:(zzi vs off vx.cells).length=vs.length:=by
   unfold zzi;simp only[List.length_append,Qax,List.length_drop];omega
  have hor:OR D (ρ++[sl']) F.lv (σ.H.L.set j (some (.arr ver ty (D.len (.st q)) ws' cp))) sl' (.deep ty q (xs.set i.toNat (D.make q z)) hh):=by
   have hL':∀n∈sl.fp,(σ.H.L.set j (some (.arr ver ty (D.len (.st q)) ws' cp)))[n]? = σ.H.L[n]? := λn hn=>by
    rw[Qam (λe=>(hR.fpl s _ sl n ho trivial h1 hn).1 (by rw[hk,e]))]
   simp only[OR];refine⟨by simp[sl',ws',q1],ver,cp,fps,by simp[sl',ws',e1],by simp[sl',hjl],by simpa using e3,e4,e5,λa x' u' c' r1 r2 r3 =>?_,λn f s' e=>by grind⟩;have hcL:∀n∈c',(σ.H.L.set j (some (.arr ver ty (D.len (.st q)) ws' cp)))[n]? = σ.H.L[n]? := λn hn=>hL' n (by rw[e4];exact List.mem_flatten.2 ⟨c',Qaw r3,hn⟩)
   simp only[sl',ws']at r2;by_cases hia:i.toNat=a;subst hia;rw[Qap hlt]at r1;rw[Qap (by omega)]at r2;injection r1 with r1;injection r2 with r2;subst r1;subst r2
   rw[hc0]at r3;injection r3 with r3;subst r3
   refine EO.mono (L:=σ.H.L) [sl'] ⟨_,cs,rfl,by rw[hsp];exact b2,b3,b4,λf p u b t1 t2 t3 =>?_⟩ hcL;rw[hD.getMake]at t1;obtain⟨c,u1,u2⟩:=zqc hz f p t1;have hf:=(HL.zb1 _ _ _ _ t1).1;by_cases hin:off<=f∧f<off+x.cells.length
   have hown:D.ow q f=none:=by
    have:=Qas.1 hflat (f-off) (List.mem_range.2 (by omega))
    simp_all
   have hnh:z07 hh i.toNat f=none:=by
    cases hho:z07 hh i.toNat f with
    |none=>rfl
    |some s'=>
     obtain⟨pf,hpf,_⟩:=HL.ze0 (D.fl q) (D.get q y) f hf
     grind
   obtain⟨pf,hpf,_⟩:=HL.ze0 (D.fl q) (D.get q y) f hf;have hbb:=b5 f pf _ b hpf (Qab (show f<vs.length by omega)) t3;rw[hnh]at hbb ⊢;simp only at hbb ⊢;rw[hown]at hbb ⊢;have hb0:b=[]:=by cases hbb;rfl
   subst hb0
   have v1:x.cells[f-off]? = some c:=by
    grind[zd8,z99,Qau]
   have v2:vx.cells[f-off]? = some u:=by
    grind[zzi]
   exact .dat (zey u2 (hcells.zp9 v1 v2))
   have v1:(D.leaves (D.fl q) (D.get q y))[f]? = some c:=by
    unfold zd8 at u1;by_cases hlo:f<off;rw[Qay,Qal (by simp only[Qax,z99];omega),Qav,Qbo hlo]at u1;exact u1;rw[Qau (by simp only[List.length_append,Qax,z99];omega),Qbb]at u1;rw[<-u1];congr 1;simp only[List.length_append,Qax,z99];omega
   have v2:vs[f]? = some u:=by
    unfold zzi at t2;by_cases hlo:f<off;rw[Qay,Qal (by simp only[Qax];omega),Qav,Qbo hlo]at t2;exact t2;rw[Qau (by grind),Qbb]at t2;rw[<-t2];congr 1;simp only[List.length_append,Qax];omega
   rw[zbb,Qaf]at v1;obtain⟨py,v3,v4⟩:=v1
   have hty:py.1=p.1:=by
    grind[HL.zb1]
   grind[yex]
   grind[EO.mono]
  have hm:=hR.move ho trivial h1 hk (.deep ty q (xs.set i.toNat (D.make q z)) hh) (.arr ver ty (D.len (.st q)) ws' cp) sl' rfl hor (λ_ h=>h);refine⟨.any,_,.any,σ.H.set F.lv j (.arr ver ty (D.len (.st q)) ws' cp),ρ++[sl'],?_,by simp only[VR],?_,h⟩;unfold z92;rw[Qbo hcond];simp only[hR.get e2,if_true,hw];rw[Qbo ⟨by simp_all,by rw[b1];rfl⟩];rw[b1];rfl;rw[hR.ztt]
  have:=hm.z7y (TV.ren D s ts.nx) λx v hxv=>VR.ren (lookup_append h1) (sl':=sl') (by rw[<-hR.nx];simp) rfl hxv
  exact this
 exact .inr ⟨_,h⟩;cases h;exact y4q hD hR h ho (by simp only[VR];grind) hx c1 hcond;cases h;rename_i s;simp only[VR]at ha;obtain⟨sl,i,h1,h2,rfl⟩:=ha;split at h;rename_i ty b q ho;left;obtain⟨sl',k1,k2⟩:=hR.ob s _ ho
 rw[h1]at k1;injection k1 with k1;subst k1
 simp only[OR]at k2;obtain⟨i',u,c,q1,q2,q3,q4⟩:=k2
 rw[h2]at q1;injection q1 with q1;subst q1
 have hlt:=(Qaa.1 q2).1
 have hxl:vx.cells=[vx]:=by
  have h3:=hx;simp only[VR]at h3;obtain⟨_,_,_,h4⟩:=h3
  cases vx <;> first|rfl|(simp[V.leaf]at h4)
 refine⟨.any,_,.any,σ.H.set F.lv i (.arr 0 ty 2 [.agg [u,vx]] (some 1)),ρ,?_,by simp only[VR],?_,h⟩;unfold z92;rw[Qbo hcond];simp only[hR.get q2,if_true,List.getElem?_cons_zero];rw[Qbo (by rw[hxl];exact⟨by simp[V.cells],rfl⟩),hxl];rfl;rw[hR.ztt];exact hR.upd ho trivial h1 h2 _ _ (by simp only[OR];exact⟨i,u,vx,h2,by simp[hlt],q3,hx⟩);cases h;cases h;cases h
def DRL(D:Dat)(t:DTy)(xs:List (t.S D.T))(ws:List V):Prop:=ws.length=xs.length∧∀(j:Nat) (x) (w),xs[j]? = some x->ws[j]? = some w->DR D t x w
omit hD in
theorem DRL.append{t xs ys ws us}(h:DRL D t xs ws)(k:DRL D t ys us):DRL D t (xs++ys) (ws++us):=by
 refine⟨by simp[h.1,k.1],λj x w hx hw =>?_⟩;rw[Qba]at hx hw;rw[h.1]at hw;split at hx;rw[Qbo ‹_›]at hw;exact h.2 j x w hx hw;rw[Qbp ‹_›]at hw;exact k.2 _ x w hx hw
omit hD in
theorem DRL.nil(t):DRL D t ([]:List (t.S D.T)) []:=⟨rfl,λj x w hx=>by simp at hx⟩
omit hD in
theorem yjq(hR:TRr D F ρ ts σ){τ x vx ys}(h:tSrc D ts τ x=some ys)(hx:VR D ρ F.lv x vx):∃us,zfa σ.H (D.len τ) vx=some us∧DRL D τ ys us:=by
 unfold tSrc at h;split at h;cases h;simp[VR]at hx;subst hx;exact⟨[],rfl,DRL.nil _⟩;rename_i t xs fl;obtain⟨rfl,rfl⟩:=z4c h;simp[VR]at hx;obtain⟨hx,_⟩:=hx
 cases hx with
 |nil=>exact⟨[],rfl,DRL.nil _⟩
 |sl _ _ ws full hl hh=>exact⟨ws,by simp[zfa,z7t],hl,hh⟩
 rename_i s;split at h;rename_i ty t xs w ho;obtain⟨rfl,rfl⟩:=z4c h;simp[VR]at hx;obtain⟨sl,h1,rfl,hleaf⟩:=hx;obtain⟨sl',k1,k2⟩:=hR.ob s _ ho;rw[h1]at k1;cases k1;simp only[OR]at k2;obtain⟨q1,q2,q3⟩:=k2;refine⟨sl.ws,?_,q1,q2⟩
 cases hk:sl.k with
 |none=>
  grind[zfa,z7t]
 |some j=>
  rw[hk]at q3;obtain⟨ver,cp,e1,e2⟩:=q3;rw[e1];simp[zfa,z7t,hR.get e2]
 cases h;rename_i s;split at h;cases h;simp[VR]at hx;subst hx;refine⟨s.map λb=>.int .u8 b.toNat,by simp[zfa,Dat.len],?_,λj x w hx hw =>?_⟩;rw[List.length_map];show s.length=(yiu s).length;rw[yiu,List.length_map];replace hx:(s.map λb=>((b.toNat:Nat):Int))[j]? = some x:=hx;rw[Qan]at hx hw
 cases hb:s[j]? with
 |none=>grind
 |some b=>
  rw[hb]at hx hw;injection hx with hx;injection hw with hw;subst hx;subst hw;exact .int .u8 _
 cases h;cases h
omit hD in
theorem zeq(hR:TRr D F ρ ts σ){τ e v xs ys ws us w}(hx:DRL D τ xs ws)(hy:DRL D τ ys us)(hroom:xs.length+ys.length<=zau)
  (hv:(v = .nils∧ws=[])∨((v = .sl (D.len τ) ws true∧τ ≠ .int .u8)∧(w=true->ws=[]))) :
  ∃v' H' sl',z03 σ.H e (D.len τ) v us=some (v',H')∧v'.leaf=true∧sl'.v=v'∧TRr D F (ρ++[sl']) (ts.new D (.acc e τ (xs++ys) w)) {σ with H:=H'}∧(∀i,sl'.k=some i->i=σ.H.L.length)∧∀i,sl'.k≠some i->H'.L[i]? = σ.H.L[i]? := by
 have hxy:=hx.append hy
 cases us with
 |nil=>
  have hy0:=Qao (by rw[<-hy.1];rfl);subst hy0;refine⟨v,σ.H,⟨v,none,ws,[]⟩,?_,?_,rfl,?_,(λi h=>by cases h),λi _=>rfl⟩
  rcases hv with ⟨rfl,_⟩|⟨⟨rfl,_⟩,_⟩ <;> simp[z03]
  rcases hv with ⟨rfl,_⟩|⟨⟨rfl,_⟩,_⟩ <;> rfl
  have:=hR.new (.acc e τ (xs++[]) w) ⟨v,none,ws,[]⟩ σ.H hR.lv hR.E (Qbn _) (λ_ _=>rfl) (by simp) (by simp[List.append_nil];exact⟨hx.1,hx.2,hv⟩)
  exact this
 |cons y r=>
  have hlen:ws.length+(y::r).length<=zau:=by rw[hx.1,hy.1];exact hroom
  refine⟨.hs F.lv σ.H.L.length 0 0 (ws++y::r).length false,σ.H.push (.arr 0 e (D.len τ) (ws++y::r) none),⟨.hs F.lv σ.H.L.length 0 0 (ws++y::r).length false,some σ.H.L.length,ws++y::r,[]⟩,?_,rfl,rfl,?_,(λi h=>by grind),λi h =>?_⟩
  rcases hv with ⟨rfl,rfl⟩|⟨⟨rfl,_⟩,_⟩
  simp only[z03];rw[Qbo (by simpa using hlen)];simp[hR.lv];simp only[z03,if_true];rw[Qbo (by simpa using hlen)];simp[hR.lv]
  exact hR.new _ _ _ hR.lv hR.E (by simp[kz3.push]) (λi hi=>by grind[kz3.push]) (λi hi=>by grind)
   (by simp only[OR];exact⟨hxy.1,hxy.2,0,none,rfl,by simp[kz3.push]⟩)
  grind[kz3.push]
theorem yr9{q e:Nat}{x hole us ws xs fps L L'}(sl')(q1:ws.length=xs.length)(e3:fps.length=xs.length)(hl:us.length=(D.fl q).length)
  (hrow:∀(f:Nat) (p:(t:DTy)×t.S D.T) (u:V),HL.nth (D.fl q) x f=some p->us[f]? = some u->zgz D ρ lv L q f hole p u) (hL:∀i∈fps.flatten,L'[i]? = L[i]?)
  (e6:∀(n:Nat) (x:D.T q) (w:V) (c:List Nat),xs[n]? = some x->ws[n]? = some w->fps[n]? = some c->EO D ρ lv L q none n x w c) :
  ∀(n) (y) (w) (c),(xs++[D.make q x])[n]? = some y->(ws++[.agg us])[n]? = some w->(fps++[[]])[n]? = some c->EO D (ρ++[sl']) lv L' q (hole.map λp=>((xs.length:Int),p.1,p.2)) n y w c:=λn y w c h1 h2 h3=>by
 rw[Qba]at h1 h2 h3;by_cases hn:n<xs.length;rw[Qbo hn]at h1;rw[Qbo (by omega)]at h2 h3
 exact EO.mono (L:=L) [sl'] ((e6 n y w c h1 h2 h3).y2r _ λn' f' s' e=>(by
  grind[Qaf])) λi hi=>hL i (List.mem_flatten.2 ⟨c,Qaw h3,hi⟩)
 have hn0:n=xs.length:=by
  grind
 subst hn0;rw[q1,Nat.sub_self]at h2;rw[e3,Nat.sub_self]at h3;simp at h1 h2 h3;subst h1;subst h2;subst h3;exact EO.mono (L:=L) [sl'] (yom hD (by simp) hl hrow) (by simp)
theorem y2u{R}(hR:TRr D F ρ ts σ){t u q s cells vs vx k kf}{r:R}(h:y1n P D ts t u s q cells k kf=some r)(hs:VR D ρ F.lv s vs)(hx:VR D ρ F.lv (.bsl q [.agg cells]) vx) :
  (∃z ts' v H' ρ',hAppend P σ.H t u vs vx=some (v,H')∧VR D ρ' F.lv z v∧TRr D F ρ' ts' {σ with H:=H'}∧k z ts'=some r)∨∃s,kf s=some r:=by
 simp only[VR,VRL]at hx;obtain⟨ws0,rfl,w0,r0,rfl,⟨us,rfl,hx⟩,rfl⟩:=hx;unfold y1n at h;split at h;rename_i e du hu hdu;split at h;rename_i i hi;split at h;rename_i z hz;split at h;rename_i hc;simp[Qaq]at hc;obtain⟨⟨⟨⟨c1,c2⟩,c3⟩,c4⟩,c5⟩:=hc
 have happ:∀v' H',z03 σ.H e (D.len (.st q)) vs [.agg us]=some (v',H')->hAppend P σ.H t u vs (.sl (D.len (.st q)) [.agg us] true)=some (v',H'):=λv' H' ha=>by
  simp_all[hAppend,zfa,z7t]
 have own:∀(sl':Slot) (v':V),sl'.v=v'->v'.leaf=true->VR D (ρ++[sl']) F.lv (.own ts.nx) v':=λsl' v' h1 h2=>by
  simp[VR];exact⟨sl',by rw[<-hR.nx];simp,h1.symm,h2⟩
 split at h;rename_i rr hrr;obtain⟨a1,a2,a3⟩:=zgi (L:=σ.H.L) hrr hx;have hul:us.length=(D.fl q).length:=by rw[<-hx.length];exact a1
 have hrow:∀(f:Nat) (p:(t:DTy)×t.S D.T) (u:V),HL.nth (D.fl q) rr.1 f=some p->us[f]? = some u->zgz D ρ F.lv σ.H.L q f rr.2 p u:=λf p u t1 t2=>by
  simp_all
 have fresh:1<=zau->(vs = .nils∨vs = .sl (D.len (.st q)) [] true)->∃v' H' sl',z03 σ.H e (D.len (.st q)) vs [.agg us]=some (v',H')∧v'.leaf=true∧sl'.v=v'∧TRr D F (ρ++[sl']) (ts.new D (.deep e q ([]++[D.make q rr.1]) (rr.2.map λp=>((([]:List (D.T q)).length:Int),p.1,p.2)))) {σ with H:=H'}:=λhroom hv=>by
  refine⟨.hs F.lv σ.H.L.length 0 0 1 false,σ.H.push (.arr 0 e (D.len (.st q)) [.agg us] none),⟨.hs F.lv σ.H.L.length 0 0 1 false,some σ.H.L.length,[.agg us],[]⟩,?_,rfl,rfl,?_⟩
  rcases hv with rfl|rfl
  simp only[z03];rw[Qbo (by simpa using hroom)];simp[hR.lv];simp only[z03,if_true];rw[Qbo (by simpa using hroom)];simp[hR.lv];refine hR.new _ _ _ hR.lv hR.E (by simp[kz3.push]) (λi hi=>by grind[kz3.push]) (λi hi=>by grind) ?_;simp only[OR];refine⟨rfl,0,none,[[]],rfl,by simp[kz3.push],rfl,rfl,List.nodup_nil,?_,λn f s' e =>?_⟩
  exact yr9 hD (e:=e) (xs:=[]) (ws:=[]) (fps:=[]) (L:=σ.H.L) _ rfl rfl hul hrow (by simp) (λn x w c h=>by simp at h)
  grind[Qaf]
 split at h;obtain⟨zs,hzs,h⟩:=yzv h;obtain⟨hroom,rfl⟩:=zqw hzs;simp[VR]at hs;subst hs;obtain⟨v',H',sl',b1,b2,b3,b4⟩:=fresh (by simpa using hroom) (.inl rfl)
 grind
 rename_i s;split at h;rename_i e' q' xs' hh ho;split at h;rename_i he;subst he;split at h;split at h;rename_i xs hl;obtain⟨zs,hzs,h⟩:=yzv h;obtain⟨hroom,rfl⟩:=zqw hzs;obtain⟨eq1,eq2⟩:=z4c hl;injection eq1 with eq1;subst eq1;replace eq2:=eq2.symm;subst eq2;simp[VR]at hs;obtain⟨sl,h1,rfl,hleaf⟩:=hs;obtain⟨sl',k1,k2⟩:=hR.ob s _ ho;rw[h1]at k1;cases k1;simp only[OR]at k2;obtain⟨q1,q3⟩:=k2
 have hsn:∀o,s<(ts.new D o).nx:=λo=>by
  have:=(Qaa.1 h1).1;simp[TS.new];rw[<-hR.nx];omega
 cases hk:sl.k with
 |none=>
  rw[hk]at q3;obtain⟨rfl,hv,_,_⟩:=q3;obtain⟨v',H',sl',b1,b2,b3,b4⟩:=fresh hroom hv
  exact .inl ⟨_,_,v',H',_,happ _ _ b1,own sl' v' b3 b2,b4.drop s (hsn _),h⟩
 |some j=>
  rw[hk]at q3;obtain⟨ver,cp,fps,e1,e2,e3,e4,e5,e6,e7⟩:=q3;have hlt:=(Qaa.1 e2).1;have hlen:sl.ws.length+[V.agg us].length<=zau:=by rw[q1];exact hroom
  let sl':Slot:=⟨.hs F.lv j (ver+1) 0 (sl.ws++[V.agg us]).length false,some j,sl.ws++[V.agg us],sl.fp⟩
  have hL':∀n∈sl.fp,(σ.H.L.set j (some (.arr (ver+1) e' (D.len (.st q')) (sl.ws++[V.agg us]) none)))[n]? = σ.H.L[n]? := λn hn=>by
   rw[Qam (λe=>(hR.fpl s _ sl n ho trivial h1 hn).1 (by rw[hk,e]))]
  have hm:=hR.move ho trivial h1 hk (.deep e' q' (xs'++[D.make q' rr.1]) (rr.2.map λp=>((xs'.length:Int),p.1,p.2))) (.arr (ver+1) e' (D.len (.st q')) (sl.ws++[V.agg us]) none) sl' rfl
   (by
     simp only[OR];refine⟨by simp[sl',q1],ver+1,none,fps++[[]],rfl,by simp[sl',hlt],by simp[e3],by simp[sl',e4],e5,?_,λn f s' e =>?_⟩;exact yr9 hD (e:=e') (L:=σ.H.L) sl' q1 e3 hul hrow (λn hn=>hL' n (by rw[e4];exact hn)) e6
     grind[Qaf]) (λ_ h=>h)
  refine .inl ⟨_,_,sl'.v,σ.H.set F.lv j (.arr (ver+1) e' (D.len (.st q')) (sl.ws++[V.agg us]) none),_,happ _ _ ?_,own sl' sl'.v rfl rfl,by rw[hR.ztt];exact hm,h⟩;rw[e1];simp[z03,hR.get e2,true_and]
  grind
 cases h
 grind
 cases h;cases h;cases h;exact .inr ⟨_,h⟩;cases h;cases h;cases h;cases h;cases h
omit hD in
theorem zom{R}(hR:TRr D F ρ ts σ){t u s x vs vx k}{r:R}(h:yb7 P D ts t u s x k=some r)(hs:VR D ρ F.lv s vs)(hx:VR D ρ F.lv x vx) :
  ∃z ts' v H' ρ',hAppend P σ.H t u vs vx=some (v,H')∧VR D ρ' F.lv z v∧TRr D F ρ' ts' {σ with H:=H'}∧k z ts'=some r ∧
   ((∀q,s ≠ .own q)->∃sl' o,ρ'=ρ++[sl']∧ts'=ts.new D o∧o.live∧(∀i,sl'.k=some i->i=σ.H.L.length)∧∀i,sl'.k≠some i->H'.L[i]? = σ.H.L[i]?):=by
 unfold yb7 at h;split at h;rename_i e du hu hdu;split at h;rename_i i τ hi hτ;split at h;rename_i z hz;split at h;rename_i hc;simp[Qaq]at hc;obtain⟨⟨⟨⟨c1,c2⟩,c3⟩,c4⟩,c5⟩:=hc;split at h;rename_i ys xs w old hys hdst;obtain⟨zs,hzs,h⟩:=yzv h;obtain⟨hroom,rfl⟩:=zqw hzs;obtain⟨us,hus,hyu⟩:=yjq hR hys hx
 have happ:∀v' H',z03 σ.H e (D.len τ) vs us=some (v',H')->hAppend P σ.H t u vs vx=some (v',H'):=λv' H' ha=>by
  unfold hAppend;rw[hu,hdu];simp only[hi,hz];rw[<-c5,hus];simp only;rw[Qbo (by simp[Qaq];exact⟨⟨⟨c1,by omega⟩,c3⟩,by omega⟩)];exact ha
 have own:∀(sl':Slot) (v':V),sl'.v=v'->v'.leaf=true->VR D (ρ++[sl']) F.lv (.own ts.nx) v':=λsl' v' h1 h2=>by
  simp[VR];exact⟨sl',by rw[<-hR.nx];simp,h1.symm,h2⟩
 unfold tDst at hdst;split at hdst;simp[Prod.mk.injEq]at hdst;obtain⟨rfl,rfl,rfl⟩:=hdst;simp[VR]at hs;subst hs;obtain⟨v',H',sl',a1,a2,a3,a4,a5⟩:=zeq (e:=e) hR (w:=true) (DRL.nil τ) hyu hroom (.inl ⟨rfl,rfl⟩);exact⟨_,_,v',H',_,happ _ _ a1,own sl' v' a3 a2,a4,h,λ_=>⟨sl',_,rfl,rfl,trivial,a5⟩⟩;by_cases hu8:τ = .int .u8;rw[Qbo hu8]at hdst;cases hdst;rw[Qbp hu8,Qaf]at hdst
 obtain⟨xs',hl,hdst⟩:=hdst;simp[Prod.mk.injEq]at hdst;obtain⟨rfl,rfl,rfl⟩:=hdst;obtain⟨rfl,rfl⟩:=z4c hl;simp only[VR]at hs;obtain⟨hs,hf,_⟩:=hs;obtain⟨ws,rfl⟩:=hf (by omega)
 cases hs with
 |sl _ _ _ _ hl hh=>
  obtain⟨v',H',sl',a1,a2,a3,a4,a5⟩:=zeq (e:=e) hR (w:=false) ⟨hl,hh⟩ hyu hroom (.inr ⟨⟨rfl,hu8⟩,by simp⟩);exact⟨_,_,v',H',_,happ _ _ a1,own sl' v' a3 a2,a4,h,λ_=>⟨sl',_,rfl,rfl,trivial,a5⟩⟩
 by_cases hu8:τ = .int .u8;rw[Qbo hu8]at hdst;cases hdst;rw[Qbp hu8,Qaf]at hdst;obtain⟨xs',hl,hdst⟩:=hdst;simp[Prod.mk.injEq]at hdst;obtain⟨rfl,rfl,rfl⟩:=hdst;obtain⟨rfl,rfl⟩:=z4c hl;simp only[VR]at hs;obtain⟨hs,hf,hf2⟩:=hs;obtain⟨ws,rfl⟩:=hf (by omega);have hx0:=hf2 trivial
 cases hs with
 |sl _ _ _ _ hl hh=>
  obtain⟨v',H',sl',a1,a2,a3,a4,a5⟩:=zeq (e:=e) hR (w:=true) ⟨hl,hh⟩ hyu hroom (.inr ⟨⟨rfl,hu8⟩,λ_=>Qao (by rw[hl,hx0];rfl)⟩);exact⟨_,_,v',H',_,happ _ _ a1,own sl' v' a3 a2,a4,h,λ_=>⟨sl',_,rfl,rfl,trivial,a5⟩⟩
 rename_i s;split at hdst;rename_i e' t' xs' w' ho;split at hdst;rename_i he;subst he;rw[Qaf]at hdst;obtain⟨xs'',hl,hdst⟩:=hdst;simp[Prod.mk.injEq]at hdst;obtain⟨rfl,rfl,rfl⟩:=hdst;obtain⟨rfl,rfl⟩:=z4c hl;simp[VR]at hs;obtain⟨sl,h1,rfl,hleaf⟩:=hs;obtain⟨sl',k1,k2⟩:=hR.ob s _ ho;rw[h1]at k1;cases k1;simp only[OR]at k2;obtain⟨q1,q2,q3⟩:=k2
 have hsn:∀o,s<(ts.new D o).nx:=λo=>by
  have:=(Qaa.1 h1).1;simp[TS.new];rw[<-hR.nx];omega
 cases hk:sl.k with
 |none=>
  rw[hk]at q3;obtain⟨v',H',sl',a1,a2,a3,a4,a5⟩:=zeq (e:=e') hR (w:=w') ⟨q1,q2⟩ hyu hroom q3
  exact⟨_,_,v',H',_,happ _ _ a1,own sl' v' a3 a2,a4.drop s (hsn _),h,λq=>(q s rfl).elim⟩
 |some j=>
  rw[hk]at q3;obtain⟨ver,cp,e1,e2⟩:=q3;have hlt:=(Qaa.1 e2).1;have hxy:=DRL.append ⟨q1,q2⟩ hyu;have hlen:sl.ws.length+us.length<=zau:=by rw[q1,hyu.1];exact hroom
  let sl':Slot:=⟨.hs F.lv j (ver+1) 0 (sl.ws++us).length false,some j,sl.ws++us,[]⟩
  have hm:=hR.move ho trivial h1 hk (.acc e' _ (_++ys) w') (.arr (ver+1) e' (D.len t') (sl.ws++us) none) sl' rfl
   (by simp only[OR];exact⟨hxy.1,hxy.2,ver+1,none,rfl,by simp[sl',hlt]⟩)
  refine⟨_,_,sl'.v,σ.H.set F.lv j (.arr (ver+1) e' (D.len t') (sl.ws++us) none),_,happ _ _ ?_,own sl' sl'.v rfl rfl,by rw[hR.ztt];exact hm,h,λq=>(q s rfl).elim⟩;rw[e1];simp only[z03,hR.get e2,true_and];rw[Qbo hlen];simp[sl']
 cases hdst;cases hdst;cases hdst;cases h;cases h;cases h;cases h;cases h
omit hD in
theorem yqq(hR:TRr D F ρ ts σ){t τ}:VR D (ρ++[⟨.any,some σ.H.L.length,[],[]⟩]) F.lv (TV.map ts.nx:TV D.T) (.map σ.H.lv σ.H.L.length)∧TRr D F (ρ++[⟨.any,some σ.H.L.length,[],[]⟩]) (ts.new D (.mp t τ [])) {σ with H:=σ.H.push (.map [])}:=by
 refine⟨?_,?_⟩;simp only[VR];exact⟨⟨.any,some σ.H.L.length,[],[]⟩,σ.H.L.length,by rw[<-hR.nx];simp,rfl,by rw[hR.lv]⟩
 exact hR.new _ _ _ hR.lv hR.E (by simp[kz3.push]) (λi hi=>by grind[kz3.push]) (λi hi=>by grind)
  (by exact⟨σ.H.L.length,[],rfl,rfl,(by simp),(by simp[kz3.push])⟩)
omit hD in
theorem y06{R}(hR:TRr D F ρ ts σ){t r' vr k}{r:R}(h:y1a P D ts t r' k=some r)(h1:∀z,r'=some z->∃v,vr=some v∧VR D ρ F.lv z v)(h2:r'=none->vr=none) :
  ∃z ts' v H' ρ',zll P σ.H t vr=some (v,H')∧VR D ρ' F.lv z v∧TRr D F ρ' ts' {σ with H:=H'}∧k z ts'=some r:=by
 unfold y1a at h;split at h;rename_i kt e hu;split at h;rename_i τ hτ;obtain⟨a1,a2⟩:=yqq hR (t:=t) (τ:=τ);exact⟨_,_,_,_,_,by rw[h2 rfl];rfl,a1,a2,h⟩;rename_i τ q n hτ;obtain⟨a1,a2⟩:=yqq hR (t:=t) (τ:=τ);obtain⟨v,e1,e2⟩:=h1 _ rfl
 grind[VR,zll]
 cases h;cases h
theorem zo5{R}(hR:TRr D F ρ ts σ){t m key x vm vk vx k}{r:R}(h:zxc P D ts t m key x k=some r)(hm:VR D ρ F.lv m vm)(hk:VR D ρ F.lv key vk)(hx:VR D ρ F.lv x vx) :
  ∃z ts' v H' ρ',zba P σ.H t vm vk vx=some (v,H')∧VR D ρ' F.lv z v∧TRr D F ρ' ts' {σ with H:=H'}∧k z ts'=some r:=by
 unfold zxc at h;split at h;rename_i kt e q s hu;simp[VR]at hk;subst hk;split at h;rename_i ty τ es hkt ho;split at h;rename_i y hy;simp only[VR]at hm;obtain⟨sl,i,h1,h2,rfl⟩:=hm;obtain⟨sl',k1,k2⟩:=hR.ob _ _ ho;rw[h1]at k1;cases k1;simp only[OR]at k2;obtain⟨i',ms,q1,q2,q4,q3⟩:=k2;rw[h2]at q1;cases q1;have hv:=zd4 hD hy hx;have hlt:=(Qaa.1 q3).1
 have hup:=yk1 (P:=P) (f:=λx:τ.S D.T×V=>x.2) (lv:=σ.H.lv) (E:=σ.H.E) hu hkt q3 s (y,vx) rfl;refine⟨.any,_,.any,{σ.H with L:=σ.H.L.set i (some (.map ((zx4 ms s (y,vx)).map λp=>(.str p.1,p.2.2))))},ρ,?_,by simp[VR],?_,h⟩;rw[<-hR.lv];exact hup
 exact hR.upd ho trivial h1 h2 (.mp ty τ (zx4 es s y)) (.map ((zx4 ms s (y,vx)).map λp=>(.str p.1,p.2.2))) (by
  simp only[OR];refine⟨i,zx4 ms s (y,vx),h2,?_,λp hp =>?_,by simp[hlt]⟩;rw[q2];exact yq9 Prod.fst s (y,vx) ms
  rcases yol hp with h|h
  rw[h];exact hv
  exact q4 p h)
 cases h;cases h;cases h
omit hD in
theorem yei{R}(hR:TRr D F ρ ts σ){b x vx k}{r:R}(h:yrx D ts x b k=some r)(hx:VR D ρ F.lv x vx) :
  ∃z ts' v H' ρ',y7i σ.H vx b=some (v,H')∧VR D ρ' F.lv z v∧TRr D F ρ' ts' {σ with H:=H'}∧k z ts'=some r:=by
 unfold yrx at h;split at h;rename_i s;simp only[VR]at hx;obtain⟨sl,i,h1,h2,rfl⟩:=hx;split at h;rename_i l pos ho;obtain⟨sl',k1,k2⟩:=hR.ob s _ ho;rw[h1]at k1;cases k1;simp[OR]at k2;obtain⟨i',q1,q2⟩:=k2;rw[h2]at q1;cases q1;have hlt:=(Qaa.1 q2).1;rw[zs5]at h;split at h;rename_i hc;have hc':=Qac hc
 refine⟨_,_,.tup [.bool true,.int .i64 pos,.int .i32 (zef l pos).1],σ.H.set F.lv i (.siter l (pos+(zef l pos).2)),ρ,?_,?_,?_,h⟩;simp only[y7i,hR.get q2];rw[Qbo hc'];simp only[VR,VRL];exact⟨_,rfl,_,_,rfl,rfl,_,_,rfl,rfl,_,_,rfl,rfl,rfl⟩;rw[hR.ztt];exact hR.upd ho trivial h1 h2 _ _ (by grind[OR]);rename_i hc;have hc':=λh=>hc (decide_eq_true h)
 refine⟨_,_,.tup [.bool false],σ.H,ρ,?_,?_,hR,h⟩;simp only[y7i,hR.get q2];rw[Qbp hc'];simp only[VR,VRL];grind;cases h;cases h
omit hD in
theorem DRL.take{t xs ws}(h:DRL D t xs ws)(n):DRL D t (xs.take n) (ws.take n):=by
 refine⟨by simp[h.1],λj x w hx hw =>?_⟩;rw[Qav]at hx hw;split at hx;rename_i hj;rw[Qbo hj]at hw;exact h.2 j x w hx hw;cases hx
omit hD in
theorem DRL.drop{t xs ws}(h:DRL D t xs ws)(n):DRL D t (xs.drop n) (ws.drop n):=by
 refine⟨by simp[h.1],λj x w hx hw =>?_⟩;rw[Qbb]at hx hw;exact h.2 _ x w hx hw
omit hD in
theorem y2v{R}(hR:TRr D F ρ ts σ){t x lo vx vlo k kf}{r:R}(h:tCut P D ts t x lo k kf=some r)(hx:VR D ρ F.lv x vx)(hlo:VR D ρ F.lv lo vlo) :
  (∃z v,zc2 P σ.H t vx (some vlo) none none=some v∧VR D ρ F.lv z v∧k z=some r)∨kf=some r:=by
 unfold tCut at h;split at h;rename_i s a;split at h;rename_i e ty τ xs hu ho;split at h;rename_i hc;left;obtain⟨_,hcut,h⟩:=yzv h;unfold yh7 at hcut;split at hcut;rename_i hcut';obtain⟨c1,c2,c3⟩:=hcut';simp[VR]at hx hlo;subst hlo;obtain⟨sl,h1,rfl,hleaf⟩:=hx;obtain⟨sl',k1,k2⟩:=hR.ob s _ ho;rw[h1]at k1;cases k1;simp only[OR]at k2;obtain⟨q1,q2,q3⟩:=k2
 cases hk:sl.k with
 |none=>
  rw[hk]at q3
  rcases q3 with ⟨_,e2⟩|⟨_,e2⟩
  grind
  grind
 |some j=>
  rw[hk]at q3;obtain⟨ver,cp,e1,e2⟩:=q3;have hp:=zoq (P:=P) (n:=sl.ws.length) hu hc.1 hc.2 (hR.get e2) (a:=a) c1 (by omega);refine⟨_,_,by rw[e1];exact hp,?_,h⟩;simp only[VR];refine⟨sl,j,ver,h1,hk,e1,c1,by omega,?_⟩;split;exact .inl rfl
  grind
 cases hcut;cases h;cases h;exact .inr h
omit hD in
theorem yea{R}(hR:TRr D F ρ ts σ){t d s vd vs k}{r:R}(h:yrt P D ts t d s k=some r)(hd:VR D ρ F.lv d vd)(hs:VR D ρ F.lv s vs) :
  ∃z ts' v H' ρ',zr5 P σ.H t vd vs=some (v,H')∧VR D ρ' F.lv z v∧TRr D F ρ' ts' {σ with H:=H'}∧k z ts'=some r:=by
 unfold yrt at h;split at h;rename_i s a s' b;split at h;rename_i hss;subst hss;split at h;rename_i e ty τ xs hu ho;split at h;rename_i hc;obtain⟨ys,hys,h⟩:=yzv h;unfold zp0 at hys;split at hys;rename_i hb;injection hys with hys;obtain⟨b1,b2,b3,b4⟩:=hb;simp only[VR]at hd hs;obtain⟨sl,j,ver,d1,d2,d3,d4,d5,d6⟩:=hd;obtain⟨sl1,j1,ver1,f1,f2,f3,f4,f5,f6⟩:=hs;rw[d1]at f1;cases f1;rw[d2]at f2;cases f2;rw[d3]at f3;cases f3
 obtain⟨sl',k1,k2⟩:=hR.ob s _ ho;rw[d1]at k1;cases k1;simp only[OR]at k2;obtain⟨q1,q2,q3⟩:=k2;rw[d2]at q3;obtain⟨ver',cp,e1,e2⟩:=q3;rw[d3]at e1;cases e1;have hlt:=(Qaa.1 e2).1
 have f6':vs = .hs F.lv j ver b.toNat (sl.ws.length-b.toNat) false:=by
  grind
 subst f6'
 let n:=min (sl.ws.length-b.toNat) (sl.ws.length-a.toNat)
 let ws':=sl.ws.take a.toNat++((sl.ws.drop b.toNat).take n++sl.ws.drop (a.toNat+n))
 let sl':Slot:=⟨sl.v,some j,ws',[]⟩
 have hwl:ws'.length=sl.ws.length:=by grind
 have hdrl:DRL D τ ys ws':=by
  rw[<-hys];simp[ws',n,q1];exact(DRL.take ⟨q1,q2⟩ _).append (((DRL.drop ⟨q1,q2⟩ _).take _).append (DRL.drop ⟨q1,q2⟩ _))
 have hor:OR D (ρ++[sl']) F.lv (σ.H.L.set j (some (.arr ver ty (D.len τ) ws' cp))) sl' (.acc ty τ ys true):=by
  simp only[OR];refine⟨hdrl.1,hdrl.2,ver,cp,?_,by simp[sl',hlt]⟩
  grind
 have hm:=hR.move ho trivial d1 d2 (.acc ty τ ys true) (.arr ver ty (D.len τ) ws' cp) sl' rfl hor;have hm2:=hm.z7y (TV.ren D s ts.nx) λx v hxv=>VR.ren (lookup_append d1) (sl':=sl') (by rw[<-hR.nx];simp) rfl hxv
 have hget:=hR.get e2
 rcases d6 with d6|⟨d6,sz,rfl⟩
 subst d6;refine⟨.any,_,.int .i64 (min (sl.ws.length-b.toNat) (sl.ws.length-a.toNat):Nat),σ.H.set F.lv j (.arr ver ty (D.len τ) ws' cp),ρ++[sl'],?_,by simp[VR],?_,h⟩;simp only[zr5,hu,hget];rw[Qbo hc.2,Qbo ⟨trivial,trivial,trivial⟩,Qbo ⟨trivial,hc.1⟩];rw[hR.ztt];exact hm2;have hn:n=0:=by simp[n];omega
 have hws:ws'=sl.ws:=by
  simp[ws',hn,List.take_append_drop]
 have hset:σ.H.L.set j (some (.arr ver ty (D.len τ) ws' cp))=σ.H.L:=by
  rw[hws];refine List.ext_getElem? λq =>?_
  rw[Qbd];split
  grind
  rfl
 rw[hset]at hm2;refine⟨.any,_,.int .i64 0,σ.H,ρ++[sl'],?_,by simp[VR],hm2,h⟩
 simp_all[zr5]
 cases hys;cases h;cases h;cases h;cases h
theorem y7o{R}(hR:TRr D F ρ ts σ){op k kf}{r:R}(h:tOp P D ts op k kf=some r) :
  (∃z ts' v H' ρ',ox P σ.H σ.ev op=some (v,H')∧VR D ρ' F.lv z v∧TRr D F ρ' ts' {σ with H:=H'}∧k z ts'=some r)∨∃s,kf s=some r:=by
 have pure:∀{op:Op},tP P D ts op (λv=>k v ts) kf=some r->(∃z ts' v H' ρ',ox P σ.H σ.ev op=some (v,H')∧VR D ρ' F.lv z v∧TRr D F ρ' ts' {σ with H:=H'}∧k z ts'=some r)∨∃s,kf s=some r:=λ{op} h=>by
  rcases y00 hD hR h with ⟨x,v,h1,h2,h3⟩|h
  exact .inl ⟨x,ts,v,σ.H,ρ,ygr h1,h2,hR,h3⟩;exact .inr h
 unfold tOp at h;split at h;split at h;rename_i z hz;split at h;rename_i hs;left;obtain⟨v,h1,h2⟩:=zbl (ρ:=ρ) (lv:=F.lv) hz;obtain⟨h3,h4⟩:=hR.zlv hD (h2.cells hs);exact⟨_,_,_,_,_,by simp only[ox,zpx,h1];rw[Qbo (h2.kza hs)],h4,h3,h⟩;cases h;cases h;split at h;rename_i x hx;split at h;rename_i hs;left;have h2:=hR.ev hx;obtain⟨h3,h4⟩:=hR.zlv hD (h2.cells hs)
 exact⟨_,_,_,_,_,by simp only[ox,yon];rw[Qbo (h2.kza hs)],h4,h3,h⟩;cases h;cases h;split at h;rename_i ha hx
 rcases ydf hD hR h (hR.ev ha) (hR.ev hx)with ⟨z,ts',v,H',ρ',h1,h2⟩|h
 grind[ox]
 exact .inr h;cases h;split at h;rename_i r' hr;left;obtain⟨a1,a2⟩:=hR.oev hr;obtain⟨z,ts',v,H',ρ',h1,h2⟩:=y06 hR h a1 a2
 grind[ox]
 cases h;split at h;rename_i hm hk hx;left;obtain⟨z,ts',v,H',ρ',h1,h2⟩:=zo5 hD hR h (hR.ev hm) (hR.ev hk) (hR.ev hx)
 grind[ox]
 cases h;split at h;rename_i hm hk hx;left;obtain⟨z,ts',v,H',ρ',h1,h2⟩:=zo5 hD hR h (hR.ev hm) (hR.ev hk) (hR.ev hx)
 grind[ox]
 cases h;split at h;rename_i str hx;split at h;rename_i hu;left;have h1:=hR.ev hx;simp[VR]at h1;refine⟨_,_,.ptr σ.H.lv σ.H.L.length 0,σ.H.push (.siter str 0),ρ++[⟨.any,some σ.H.L.length,[],[]⟩],by simp[ox,y9f,h1,hu],?_,?_,h⟩;simp only[VR];exact⟨⟨.any,some σ.H.L.length,[],[]⟩,σ.H.L.length,by rw[<-hR.nx];simp,rfl,by rw[hR.lv]⟩
 exact hR.new _ _ _ hR.lv hR.E (by simp[kz3.push]) (λi hi=>by grind[kz3.push]) (λi hi=>by grind)
  (by simp only[OR];exact⟨σ.H.L.length,rfl,by simp[kz3.push]⟩)
 cases h;cases h;split at h;rename_i hi;left;obtain⟨z,ts',v,H',ρ',h1,h2⟩:=yei hR h (hR.ev hi)
 grind[ox]
 cases h;split at h;rename_i c;split at h;rename_i s x t u hcal hargs htys;split at h;rename_i hs hx
 rcases y2u hD hR h (hR.ev hs) (hR.ev hx)with ⟨z,ts',v,H',ρ',h1,h2⟩|h
 grind[ox]
 exact .inr h;rename_i hs hx;left;obtain⟨z,ts',v,H',ρ',h1,h2,h2b,h2c,_⟩:=zom hR h (hR.ev hs) (hR.ev hx)
 grind[ox]
 cases h;rename_i d s t u hcal hargs htys;split at h;rename_i hd hs;left;obtain⟨z,ts',v,H',ρ',h1,h2⟩:=yea hR h (hR.ev hd) (hR.ev hs)
 grind[ox]
 cases h;exact pure h;exact pure h
end
def ze1(H:kz3):kz3:=⟨H.lv,[],λ_ _=>none⟩
def yj6(g:Gh):Gh:={g with dom:=λ_ _=>False}
theorem zfg(H)(l i):(ze1 H).get l i=none:=by
 unfold kz3.get ze1;split <;> simp
theorem yi2{g H b}:¬Own g (ze1 H) b:=λ⟨l,i,o,ho,_⟩=>by rw[zfg]at ho;cases ho
theorem y8i{W g H}(h:Good W g H):Good W (yj6 g) (ze1 H) :=
 ⟨λl i o ho=>(by rw[zfg]at ho;cases ho),λl i o ho=>(by rw[zfg]at ho;cases ho),λl i o l' i' o' ho=>(by rw[zfg]at ho;cases ho),λl i hd=>hd.elim,λl i o ho=>(by rw[zfg]at ho;cases ho),h.glob.zuo (λb hb=>(yi2 hb).elim),h.base⟩
theorem yht{W g H v u c}(hG:Good W g H)(h:VS H (λ_ _=>False) v u)(hr:Rel W g H v c):Rel W (yj6 g) (ze1 H) u c :=
 VS.rel hG (λ_ _ h=>h.elim) (λ_ _ h=>h.elim) (λ_ _ h=>h.elim) (λ_ _ h=>h.elim) (λ_ _ h=>h.elim) (λb hb=>(yi2 hb).elim) (λi o _ hb=>yi2 hb) h hr
inductive VFl:V->Prop where
 |bool (b:Bool):VFl (.bool b)
 |int (k:IntKind) (n:Int):VFl (.int k n)
 |str (s:B8):VFl (.str s)
 |nils:VFl .nils
 |sl0 (sz:Nat) (b:Bool):VFl (.sl sz [] b)
 |agg (vs:List V) (h:∀(j:Nat) (v:V),vs[j]? = some v->VFl v):VFl (.agg vs)
 |tup (vs:List V) (h:∀(j:Nat) (v:V),vs[j]? = some v->VFl v):VFl (.tup vs)
theorem VFl.rel{v}(h:VFl v){W W' g g' H H'}:∀{c},Rel W g H v c->Rel W' g' H' v c:=by
 induction h with
 |bool b=>intro c hc;cases hc;exact .bool _
 |int k n=>intro c hc;cases hc;exact .int _ _
 |str s=>intro c hc;cases hc;exact .str _
 |nils=>intro c hc;cases hc;exact .nils
 |sl0 sz b=>
  intro c hc
  cases hc with
  |slnil=>exact .slnil _ _
  |sle _ _ a cap hf=>exact .sle _ _ a cap hf
  |sl _ _ _ b o cap c hb hz hcap hf hs hc h1 hr=>exact .sle _ _ _ cap λh=>hf h
 |agg vs h ih=>
  intro c hc
  cases hc with
  |agg _ cs hn h1 hr=>exact .agg vs cs hn h1 λj v hj=>ih j v hj (hr j v hj)
 |tup vs h ih=>
  intro c hc
  cases hc with
  |tup _ cs hn hr=>exact .tup vs cs hn λj v hj=>ih j v hj (hr j v hj)
theorem ydz{P f vs us r H}(hc:y2w P f us r)(h:VSL H (λ_ _=>False) vs us)(hr:VFl r):zns P f vs H r H:=λW g cargs hG hA=>by
 have hlen:=h.length
 have hA':zi0 W (yj6 g) (ze1 H) us cargs:=⟨hA.1.trans hlen,λj u hj=>by
  have hlt:=(Qaa.1 hj).1;have hv:vs[j]? = some (vs[j]'(by omega)):=Qab _
  exact yht hG (h.get j _ u hv hj) (hA.2 j _ hv)⟩
 have grow:∀{W':World}{g':Gh},Step W (yj6 g) (ze1 H) W' g' (ze1 H)->Grow W W':=λst=>⟨st.os,st.tape,st.output,st.size,λb hb=>st.block b hb yi2⟩
 rcases hc (ze1 H) W (yj6 g) cargs (y8i hG) hA' with ⟨e,hcalls⟩|⟨c,W',g',e,st,gd,rl⟩
 exact .inl ⟨e,hcalls.mono λe W' ⟨c,g',e1,st,gd,rl⟩=>⟨c,g,e1,(grow st).step,hG.grow (grow st),hr.rel rl⟩⟩;exact .inr ⟨c,W',g,e,(grow st).step,hG.grow (grow st),hr.rel rl⟩
theorem ygi{P:Program}{f:Nat}{us vs:List V}{H:kz3}{Post:Out->kz3->Prop}(hc:znr P f us (ze1 H) Post)(h:VSL H (λ_ _=>False) vs us)(hr:∀out H',Post out H'->∃r,out = .ret r∧VFl r) :
  znr P f vs H λout H'=>H'=H∧∃r H1,out = .ret r∧Post (.ret r) H1:=λW g cargs hG hA=>by
 have hlen:=h.length
 have hA':zi0 W (yj6 g) (ze1 H) us cargs:=⟨hA.1.trans hlen,λj u hj=>by
  have hlt:=(Qaa.1 hj).1;have hv:vs[j]? = some (vs[j]'(by omega)):=Qab _
  exact yht hG (h.get j _ u hv hj) (hA.2 j _ hv)⟩
 obtain⟨e,hcalls⟩:=hc W (yj6 g) cargs (y8i hG) hA';refine⟨e,hcalls.mono λe W' ⟨o,H',g',p1,st,gd,rl⟩ =>?_⟩;have gr:Grow W W':=⟨st.os,st.tape,st.output,st.size,λb hb=>st.block b hb yi2⟩;obtain⟨r,rfl,hf⟩:=hr o H' p1;obtain⟨c,e1,e2⟩:=rl;exact⟨.ret r,H,g,⟨rfl,r,H',rfl,p1⟩,gr.step,hG.grow gr,c,e1,hf.rel e2⟩
section
variable {P : Program} {D : Dat} {F : Fr} {ρ : List Slot} {ts : TS D.T} {σ : St} {lv : Nat} {L : List (Option kz8)} {E : Nat → Nat → Option kz8}
theorem zdn{α:Type}{Q:Nat->α->Prop}:∀n:Nat,(∀j,j<n->∃a,Q j a)->∃l:List α,l.length=n∧∀j a,l[j]? = some a->Q j a
 |0,_=>⟨[],rfl,λj a h=>by simp at h⟩
 |n+1,h=>by
  obtain⟨l,h1,h2⟩:=zdn n λj hj=>h j (by omega)
  obtain⟨a,ha⟩:=h n (by omega);refine⟨l++[a],by simp[h1],λj b hb =>?_⟩
  grind
theorem DR.kin(hD:D.Ok P){t x v}(h:DR D t x v)(Dm):V.kin Dm v:=by
 induction h with
 |bool|int|str|nat|nil=>simp[V.kin]
 |sl t xs ws full hl h ih=>
  exact zab λw hw=>by
   obtain⟨j,hj⟩:=Qbj hw;have hlt:=(Qaa.1 hj).1
   exact ih j _ w (Qab (by omega)) hj
 |st i x vs hl h ih=>
  exact zab λw hw=>by
   obtain⟨j,hj⟩:=Qbj hw;have hlt:=(Qaa.1 hj).1;obtain⟨p,hp,_⟩:=HL.ze0 (D.fl i) (D.get i x) j (by omega)
   exact ih j p w hp hj
 |enc i x=>exact hD.kin i x Dm
def Seen(H:kz3):OM->V->V->Prop
 |.el,v,u=>v.cells.length=u.cells.length∧∀(j:Nat) (a b),v.cells[j]? = some a->u.cells[j]? = some b->VS H (λ_ _=>False) a b
 |.dat,v,u=>VS H (λ_ _=>False) v u
 |.own _,v,u=>VS H (λ_ _=>False) v u
theorem DO.see(hD:D.Ok P){m:OM}{t:DTy}{x:t.S D.T}{v:V}{fp:List Nat}(h:DO D lv L m t x v fp) :
  ∃u,DR D t x u∧Seen ⟨lv,L,E⟩ m v u:=by
 induction h with
 |dat h=>exact⟨_,h,.keep _ (h.kin hD _)⟩
 |nil h hv=>exact⟨_,h,.keep _ (h.kin hD _)⟩
 | @own ty t xs j ver cp ws fps hL hl hf he ih=>
   obtain⟨us,e1,e2⟩:=zdn (Q:=λn u=>∀(x:t.S D.T) (w:V),xs[n]? = some x->ws[n]? = some w->DR D t x u∧w.cells.length=u.cells.length∧∀(j:Nat) (a b:V),w.cells[j]? = some a->u.cells[j]? = some b->VS ⟨lv,L,E⟩ (λ_ _=>False) a b) xs.length λn hn=>by
    obtain⟨u,h1,h2⟩:=ih n _ _ _ (Qab hn) (Qab (show n<ws.length by omega)) (Qab (show n<fps.length by omega));refine⟨u,λx w hx hw =>?_⟩
    rw[Qab hn]at hx;injection hx with hx;subst hx
    rw[Qab (show n<ws.length by omega)]at hw;injection hw with hw;subst hw
    exact⟨h1,h2⟩
   refine⟨.sl (D.len t) us false,.sl t xs us false e1 λn x u hx hu =>?_,?_⟩;have hn:=(Qaa.1 hx).1;exact(e2 n u hu x _ hx (Qab (show n<ws.length by omega))).1;refine .hs lv j ver ty (D.len t) 0 ws.length false ws us cp rfl ?_ (by omega) (λn w u hw hu =>?_) λn w u c a b hw hu ha hb =>?_
   show(if lv=lv then (L[j]?).join else _)=_;rw[Qbo rfl,hL];rfl;rw[Nat.zero_add]at hw;have hn:=(Qaa.1 hw).1;exact(e2 n u hu _ w (Qab (show n<xs.length by omega)) hw).2.1;rw[Nat.zero_add]at hw;have hn:=(Qaa.1 hw).1
   exact(e2 n u hu _ w (Qab (show n<xs.length by omega)) hw).2.2 c a b ha hb
 | @el i x vs cs hl hc h ih=>
   obtain⟨us,e1,e2⟩:=zdn (Q:=λf u=>∀(p:(t:DTy)×t.S D.T) (w:V),HL.nth (D.fl i) (D.get i x) f=some p->vs[f]? = some w->DR D p.1 p.2 u∧VS ⟨lv,L,E⟩ (λ_ _=>False) w u) (D.fl i).length λf hf=>by
    obtain⟨p,hp,_⟩:=HL.ze0 (D.fl i) (D.get i x) f hf;obtain⟨u,h1,h2⟩:=ih f p _ _ hp (Qab (show f<vs.length by omega)) (Qab (show f<cs.length by omega));refine⟨u,λp' w hp' hw =>?_⟩
    rw[hp]at hp';injection hp' with hp';subst hp'
    rw[Qab (show f<vs.length by omega)]at hw;injection hw with hw;subst hw
    refine⟨h1,?_⟩
    cases how:D.ow i f with
    |none=>rw[how]at h2;exact h2
    |some ty=>rw[how]at h2;exact h2
   refine⟨.agg us,.st i x us e1 λf p u hp hu =>?_,?_⟩;have hf:=(HL.zb1 _ _ _ _ hp).1;exact(e2 f u hu p _ hp (Qab (show f<vs.length by omega))).1;refine⟨by show vs.length=us.length;omega,λf a b ha hb =>?_⟩;replace ha:vs[f]? = some a:=ha;replace hb:us[f]? = some b:=hb;have hf:=(Qaa.1 ha).1;obtain⟨p,hp,_⟩:=HL.ze0 (D.fl i) (D.get i x) f (by omega)
   exact(e2 f b hb p a hp ha).2
 |elf ht h=>exact⟨_,h,rfl,λj a b ha hb=>by rw[ha]at hb;injection hb with hb;subst hb;exact .keep _ (z65 (zhg (h.kin hD _)) j a ha)⟩
end
section
variable {P : Program} {D : Dat} {F : Fr} {ρ : List Slot} {ts : TS D.T} {σ : St} {lv : Nat} {L : List (Option kz8)}
def Slot.all(sl:Slot):List Nat:=sl.k.toList++sl.fp
theorem Slot.zn9{sl:Slot}{i}:i∈sl.all↔sl.has i:=by
 simp_all[Slot.all,Slot.has]
theorem zp1{t}(h:D.zg8 t=true):∀i f,f<(D.fl i).length->t = .st i->D.ow i f=none:=λi f hf e=>by
 simp_all[Dat.zg8,Dat.owns]
theorem ytl{ty t xs sl}(h:OR D ρ lv L sl (.acc ty t xs true))(ht:D.zg8 t=true):DO D lv L (.own ty) (.sl t) xs sl.v sl.k.toList:=by
 simp only[OR]at h;obtain⟨h1,h2,h3⟩:=h
 cases hk:sl.k with
 |none=>
  rw[hk]at h3;have hx:sl.ws=[]->xs=[]:=λe=>Qao (by rw[<-h1,e];rfl)
  rcases h3 with ⟨e1,e2⟩|⟨⟨e1,_⟩,e2⟩
  have:=hx e2;subst this;rw[e1];exact .nil (.nil _) (.inl rfl);have e3:=e2 trivial;have:=hx e3;subst this;rw[e1,e3]
  exact .nil (.sl _ _ _ _ rfl (λj x w hj=>by simp at hj)) (.inr rfl)
 |some j=>
  rw[hk]at h3;obtain⟨ver,cp,e1,e2⟩:=h3;rw[e1]
  have hr:([]:List Nat)=(List.replicate xs.length ([]:List Nat)).flatten:=by
   grind[List.flatten_eq_nil_iff]
  show DO D lv L (.own ty) (.sl t) xs _ (j::[]);rw[hr];refine .own e2 h1 (by simp) λn x w c a1 a2 a3 =>?_
  rw[Qbi]at a3;split at a3;cases a3;have hdr:=h2 n x w a1 a2
  cases t with
  |st i=>
   cases hdr with
   |st _ _ vs hl h=>
    have hr2:([]:List Nat)=(List.replicate (D.fl i).length ([]:List Nat)).flatten:=by
     grind[List.flatten_eq_nil_iff]
    rw[hr2];refine .el hl (by simp) λf p u b b1 b2 b3 =>?_
    rw[Qbi]at b3;split at b3;rename_i hf;cases b3;rw[zp1 ht i f hf rfl];exact .dat (h f p u b1 b2)
    cases b3
   |enc=>exact .elf (zp1 ht) (.enc i x)
  |_=>exact .elf (λi f _ e=>by cases e) hdr
  cases a3
theorem yd9{ty q xs sl}(h:OR D ρ lv L sl (.deep ty q xs none)):DO D lv L (.own ty) (.sl (.st q)) xs sl.v sl.all:=by
 obtain⟨h1,h3⟩:=h;unfold Slot.all
 cases hk:sl.k with
 |none=>
  rw[hk]at h3;obtain⟨rfl,e2,e3,_⟩:=h3;rw[e3]
  rcases e2 with e2|e2
  rw[e2];exact .nil (.nil _) (.inl rfl)
  rw[e2];exact .nil (.sl _ _ _ _ rfl (λj x w hj=>by simp at hj)) (.inr rfl)
 |some j=>
  rw[hk]at h3;obtain⟨ver,cp,fps,e1,e2,e3,e4,e5,e6,e7⟩:=h3;rw[e1,e4];refine .own e2 h1 e3 λn x w c a1 a2 a3 =>?_
  obtain⟨vs,cs,rfl,b2,b3,rfl,b5⟩:=e6 n x w c a1 a2 a3;exact .el b2 b3 λf p u b g1 g2 g3=>b5 f p u b g1 g2 g3
inductive VH (lv:Nat) (L:List (Option kz8)) (R:Nat->Prop):V->V->Prop where
 |keep (v:V):VH lv L R v v
 |hs (i ver ty sz n:Nat) (full:Bool) (xs ys:List V) (cp:Option Nat) (hR:R i) (hg:L[i]? = some (some (.arr ver ty sz xs cp))) (hn:ys.length=n)
  (h1:∀(j:Nat) (x y:V),xs[j]? = some x->ys[j]? = some y->x.cells.length=y.cells.length) (h2:∀(j:Nat) (x y:V) (t:Nat) (v u:V),xs[j]? = some x->ys[j]? = some y->x.cells[t]? = some v->y.cells[t]? = some u->VH lv L R v u) :
  VH lv L R (.hs lv i ver 0 n full) (.sl sz ys false)
theorem VH.rel{W g H H' R}(hGood:Good W g H)(hlv:H.lv=lv)(hL:H.L=L)(hf:∀{x:V}{c:Value},Rel W g H x c->Rel W g H' x c)(hloc:∀i o,R i->H.get H.lv i=some o->¬Own g H' (o.blk g H.lv i)){v u}(h:VH lv L R v u):∀{c},Rel W g H v c->Rel W g H' u c:=by
 induction h with
 |keep v=>exact λh=>hf h
 |hs i ver ty sz n full xs ys cp hR hg' hn h1 h2 ih=>
  intro c hc
  have hg:H.get H.lv i=some (.arr ver ty sz xs cp):=by
   unfold kz3.get;grind
  subst hlv
  cases hc with
  |hs _ _ _ _ _ _ a m cap hd hv ha=>
   obtain⟨rfl,rfl,⟨hcap',hcap2,hff⟩,hle⟩:=ha _ _ _ _ hg;obtain⟨cur,k1,k2,k3,k3',k4,k5,k6⟩:=zrf hGood hg
   have get:∀j y,ys[j]? = some y->∃x,xs[j]? = some x∧j<m:=λj y hj=>by
    grind
   have cells:∀(j:Nat) (y:V) (t:Nat) (u:V),ys[j]? = some y->y.cells[t]? = some u->∃x v,xs[j]? = some x∧x.cells[t]? = some v∧Rel W g H' u (cur.getD (j * sz+t) undef)∧(cur.getD (j * sz+t) undef).oneCell'=true∧j * sz+t<cur.size:=λj y t u hj ht=>by
    obtain⟨x,hx,hjm⟩:=get j y hj;have hl:=h1 j x y hx hj;have hxl:=k6.1 _ _ hx;have htl:=(Qaa.1 ht).1;have hv':x.cells[t]? = some (x.cells[t]'(by omega)):=Qab _;refine⟨x,_,hx,hv',ih j x y t _ u hx hj hv' ht (k6.2.2 _ _ _ _ hx hv'),k6.2.1 _ _ _ _ hx hv',?_⟩;rw[k3];exact zti (by omega) (by omega)
   rw[<-hn];refine .sl sz ys false (g.ab H.lv i) (0 * sz) cap (λj t=>cur.getD (j * sz+t) undef) (λho=>hloc i _ hR hg ho) k2 (by omega) (by simp) (λj y hj =>?_) (λj y t u hj ht =>?_) (λj y t u hj ht =>?_) (λj y t u hj ht =>?_);obtain⟨x,hx,_⟩:=get j y hj;rw[<-h1 j x y hx hj];exact k6.1 _ _ hx;obtain⟨x,v,_,_,_,_,e⟩:=cells j y t u hj ht;have:=cell_of k1 e
   grind
   obtain⟨x,v,_,_,_,e,_⟩:=cells j y t u hj ht;exact e;obtain⟨x,v,_,_,e,_,_⟩:=cells j y t u hj ht;exact e
def SeenH(lv:Nat)(L:List (Option kz8))(R:Nat->Prop):OM->V->V->Prop
 |.el,v,u=>v.cells.length=u.cells.length∧∀(j:Nat) (a b),v.cells[j]? = some a->u.cells[j]? = some b->VH lv L R a b
 |.dat,v,u=>VH lv L R v u
 |.own _,v,u=>VH lv L R v u
theorem DO.seeH{R:Nat->Prop}{m:OM}{t:DTy}{x:t.S D.T}{v:V}{fp:List Nat}(h:DO D lv L m t x v fp):(∀i∈fp,R i)->∃u,DR D t x u∧SeenH lv L R m v u:=by
 induction h with
 |dat h=>exact λ_=>⟨_,h,.keep _⟩
 |nil h hv=>exact λ_=>⟨_,h,.keep _⟩
 | @own ty t xs j ver cp ws fps hL hl hf he ih=>
   intro hR
   obtain⟨us,e1,e2⟩:=zdn (Q:=λn u=>∀(x:t.S D.T) (w:V),xs[n]? = some x->ws[n]? = some w->DR D t x u∧w.cells.length=u.cells.length∧∀(j:Nat) (a b:V),w.cells[j]? = some a->u.cells[j]? = some b->VH lv L R a b) xs.length λn hn=>by
    have hc:fps[n]? = some (fps[n]'(by omega)):=Qab (show n<fps.length by omega);obtain⟨u,h1,h2⟩:=ih n _ _ _ (Qab hn) (Qab (show n<ws.length by omega)) hc (λi hi=>hR i (Qai _ (List.mem_flatten.2 ⟨_,Qaw hc,hi⟩)));refine⟨u,λx w hx hw =>?_⟩
    rw[Qab hn]at hx;injection hx with hx;subst hx
    rw[Qab (show n<ws.length by omega)]at hw;injection hw with hw;subst hw
    exact⟨h1,h2⟩
   refine⟨.sl (D.len t) us false,.sl t xs us false e1 λn x u hx hu =>?_,?_⟩;have hn:=(Qaa.1 hx).1;exact(e2 n u hu x _ hx (Qab (show n<ws.length by omega))).1;refine .hs j ver ty (D.len t) ws.length false ws us cp (hR j Qak) hL (by omega) (λn w u hw hu =>?_) λn w u c a b hw hu ha hb =>?_
   have hn:=(Qaa.1 hw).1;exact(e2 n u hu _ w (Qab (show n<xs.length by omega)) hw).2.1;have hn:=(Qaa.1 hw).1
   exact(e2 n u hu _ w (Qab (show n<xs.length by omega)) hw).2.2 c a b ha hb
 | @el i x vs cs hl hc h ih=>
   intro hR
   obtain⟨us,e1,e2⟩:=zdn (Q:=λf u=>∀(p:(t:DTy)×t.S D.T) (w:V),HL.nth (D.fl i) (D.get i x) f=some p->vs[f]? = some w->DR D p.1 p.2 u∧VH lv L R w u) (D.fl i).length λf hf=>by
    obtain⟨p,hp,_⟩:=HL.ze0 (D.fl i) (D.get i x) f hf;have hcf:cs[f]? = some (cs[f]'(by omega)):=Qab (show f<cs.length by omega);obtain⟨u,h1,h2⟩:=ih f p _ _ hp (Qab (show f<vs.length by omega)) hcf (λi hi=>hR i (List.mem_flatten.2 ⟨_,Qaw hcf,hi⟩));refine⟨u,λp' w hp' hw =>?_⟩
    rw[hp]at hp';injection hp' with hp';subst hp'
    rw[Qab (show f<vs.length by omega)]at hw;injection hw with hw;subst hw
    refine⟨h1,?_⟩
    cases how:D.ow i f with
    |none=>rw[how]at h2;exact h2
    |some ty=>rw[how]at h2;exact h2
   refine⟨.agg us,.st i x us e1 λf p u hp hu =>?_,?_⟩;have hf:=(HL.zb1 _ _ _ _ hp).1;exact(e2 f u hu p _ hp (Qab (show f<vs.length by omega))).1;refine⟨by show vs.length=us.length;omega,λf a b ha hb =>?_⟩;replace ha:vs[f]? = some a:=ha;replace hb:us[f]? = some b:=hb;have hf:=(Qaa.1 ha).1;obtain⟨p,hp,_⟩:=HL.ze0 (D.fl i) (D.get i x) f (by omega)
   exact(e2 f b hb p a hp ha).2
 |elf ht h=>exact λ_=>⟨_,h,rfl,λj a b ha hb=>by rw[ha]at hb;injection hb with hb;subst hb;exact .keep _⟩
def zv6(L:List (Option kz8))(all:List Nat)(os:List (Nat×kz8)):List (Option kz8):=(List.range L.length).map λk=>if k∈all then none else match os.find? (λp=>p.1==k)with|some p=>some p.2|none=>(L[k]?).join
theorem zn1(L)(all)(os):(zv6 L all os).length=L.length:=by simp[zv6]
theorem zmz{L all os k}(hk:k<L.length):(zv6 L all os)[k]? = some (if k∈all then none else match os.find? (λp=>p.1==k)with|some p=>some p.2|none=>(L[k]?).join):=by
 grind[zv6]
theorem yod{σ:St}{all:List Nat}{v r:V}(hd:σ.d=[])(hv:VH σ.H.lv σ.H.L (· ∈ all) v r){os os':List (Nat×kz8)}(h5:(os.map (·.1)).Nodup)(hos:FOL v r os os')(h4:∀p∈os,σ.H.L[p.1]? = some (some p.2)∧p.1∉all)
  {t':List V} (ht:FVL v r σ.t t') :
  zj1 σ ⟨t',⟨σ.H.lv,zv6 σ.H.L all os',σ.H.E⟩,[],σ.e0⟩∧(∀p'∈os',(zv6 σ.H.L all os')[p'.1]? = some (some p'.2))∧∀n,n<σ.H.L.length->n∉all->(∀p∈os,p.1≠n)->(zv6 σ.H.L all os')[n]? = σ.H.L[n]? := by
 have hnd:(os'.map (·.1)).Nodup:=by rw[hos.map];exact h5
 have hfind:∀p'∈os',os'.find? (λp=>p.1==p'.1)=some p':=λp' hp'=>by
  cases hq:os'.find? (λp=>p.1==p'.1)with
  |none=>rw[List.find?_eq_none]at hq;have:=hq p' hp';simp at this
  |some q=>
   have hq1:=List.find?_some hq;have hq2:=List.mem_of_find?_eq_some hq;simp at hq1;obtain⟨a,ha⟩:=List.mem_iff_getElem?.1 hp';obtain⟨b,hb⟩:=List.mem_iff_getElem?.1 hq2;have ha':(os'.map (·.1))[a]? = some p'.1:=by simp[ha]
   have hb':(os'.map (·.1))[b]? = some p'.1:=by simp[hb,hq1]
   have hlt:=(Qaa.1 ha').1;have:=(List.getElem?_inj hlt hnd).1 (ha'.trans hb'.symm);subst this;rw[ha]at hb;exact hb.symm
 have hfor:∀p'∈os',∃o,σ.H.L[p'.1]? = some (some o)∧p'.1∉all∧FO v r o p'.2:=λp' hp'=>by
  obtain⟨o,ho,hf⟩:=hos.mem p' hp';exact⟨o,(h4 _ ho).1,(h4 _ ho).2,hf⟩
 refine⟨?_,λp' hp' =>?_,λn hn hni hno =>?_⟩;refine y2a (v:=v) (r:=r) (zn1 _ _ _) (λm o' hm =>?_) ht hd λW g hG hown hf c hc =>?_
 have hlt:m<σ.H.L.length:=by have:=(Qaa.1 hm).1;rw[zn1]at this;exact this
 rw[zmz hlt]at hm;injection hm with hm;split at hm;cases hm;split at hm;rename_i p hp;injection hm with hm;have hp1:=List.find?_some hp;simp at hp1;obtain⟨o,h1,_,h3⟩:=hfor p (List.mem_of_find?_eq_some hp);exact⟨o,by rw[<-hp1];exact h1,by rw[<-hm];exact h3⟩;refine⟨o',?_,.inl rfl⟩;rw[Qab hlt]at hm ⊢;simp at hm;rw[hm];refine VH.rel hG rfl rfl hf (λi o hi hget ⟨l,i',o',ho',hob⟩ =>?_) hv hc
 have hgot:∃o,σ.H.get l i'=some o∧o'.blk g l i'=o.blk g l i'∧¬(l=σ.H.lv∧i'∈all):=by
  unfold kz3.get at ho' ⊢;dsimp only at ho' ⊢;by_cases hl:l=σ.H.lv;rw[Qbo hl]at ho' ⊢
  cases hq:(zv6 σ.H.L all os')[i']? with
  |none=>rw[hq]at ho';simp at ho'
  |some q=>
   have hlt:i'<σ.H.L.length:=by have:=(Qaa.1 hq).1;rw[zn1]at this;exact this
   rw[zmz hlt]at ho';simp only[Option.join_some]at ho';split at ho';cases ho';rename_i hne;split at ho';rename_i p hp;injection ho' with ho';have hp1:=List.find?_some hp;simp at hp1;obtain⟨o,h1,_,h3⟩:=hfor p (List.mem_of_find?_eq_some hp);rw[hp1]at h1;exact⟨o,by rw[h1];rfl,by rw[<-ho'];exact h3.blk g l i',λe=>hne e.2⟩;exact⟨o',ho',rfl,λe=>hne e.2⟩
  rw[Qbp hl]at ho' ⊢;exact⟨o',ho',rfl,λe=>hl e.1⟩
 obtain⟨o2,w1,w2,w3⟩:=hgot;obtain⟨e1,e2⟩:=hG.inj _ _ _ _ _ _ w1 hget (by rw[<-w2];exact hob);exact w3 ⟨e1,by rw[e2];exact hi⟩;obtain⟨o,h1,h2,_⟩:=hfor p' hp';have hlt:=(Qaa.1 h1).1;rw[zmz hlt,Qbp h2,hfind p' hp'];rw[zmz hn,Qbp hni]
 have:os'.find? (λp=>p.1==n)=none:=by
  rw[List.find?_eq_none];intro p hp;have:p.1∈os.map (·.1):=by rw[<-hos.map];exact List.mem_map_of_mem hp
  obtain⟨q,hq,hqn⟩:=Qbc.1 this;have:=hno q hq;simp;omega
 rw[this,Qab hn];rfl
end
end Go.Ab
