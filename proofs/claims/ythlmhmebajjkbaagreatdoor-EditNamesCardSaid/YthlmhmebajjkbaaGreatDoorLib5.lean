/-
  THE TYPED MACHINE: operations on own objects.
-/
import Derived.Test.YthlmhmebajjkbaaGreatDoorLib4
namespace Go.Ab
open Go
set_option linter.unusedVariables false
set_option linter.unusedSimpArgs false
set_option linter.unusedSectionVars false
section
variable {P : Program} {D : Dat} {F : Fr} {ρ : List Slot} {ts : TS D.T} {σ : St} {lv : Nat}
theorem DO.mono {L L':List (Option kz2)} {m:OM} {t:DTy} {x:t.S D.T} {v:V} {fp:List Nat} (h:DO D lv L m t x v fp) (hL:∀i∈fp,L'[i]? = L[i]?):DO D lv L' m t x v fp:=by
 induction h with
 |dat h=>exact .dat h
 |nil h hv=>exact .nil h hv
 |own hj hl hf he ih=>
  exact .own (by rw [hL _ Qai];exact hj) hl hf λn x w c h1 h2 h3=>ih n x w c h1 h2 h3 λi hi=>hL i (Qag _ (List.mem_flatten.2 ⟨c,Qav h3,hi⟩))
 |el hl hc h ih=>exact .el hl hc λf p u b h1 h2 h3=>ih f p u b h1 h2 h3 λi hi=>hL i (List.mem_flatten.2 ⟨b,Qav h3,hi⟩)
 |elf ht h=>exact .elf ht h
theorem EO.mono {L L':List (Option kz2)} {q:Nat} {h:Option (Int×Nat×Nat)} {n:Nat} {x:D.T q} {w:V} {c:List Nat} (e:List Slot) (hE:EO D ρ lv L q h n x w c) (hL:∀i∈c,L'[i]? = L[i]?):EO D (ρ++e) lv L' q h n x w c:=by
 obtain ⟨vs,cs,h1,h2,h3,rfl,h4⟩:=hE;refine ⟨vs,cs,h1,h2,h3,rfl,λf p u b k1 k2 k3 => ?_⟩;have:=h4 f p u b k1 k2 k3;split at this
 ·rename_i s hs;obtain ⟨a1,a2,a0,sl',a3,a4⟩:=this;exact ⟨a1,a2,a0,sl',lookup_append a3,a4⟩
 ·exact this.mono λi hi=>hL i (List.mem_flatten.2 ⟨b,Qav k3,hi⟩)
theorem OR.mono {L L':List (Option kz2)} {sl:Slot} {o:TO D.T} (h:OR D ρ lv L sl o) (e:List Slot) (hL:∀i,sl.has i->o.live->L'[i]? = L[i]?):OR D (ρ++e) lv L' sl o:=by
 cases o with
 |cells cs=>
  simp only [OR] at h ⊢;obtain ⟨i,vs,h1,h2,h3⟩:=h
  exact ⟨i,vs,h1,by rw [hL i (.inl h1) trivial];exact h2,h3.more e⟩
 |acc ty t xs w=>
  simp only [OR] at h ⊢;obtain ⟨h1,h2,h3⟩:=h;refine ⟨h1,h2,?_⟩
  cases hk:sl.k with
  |none=>rw [hk] at h3;exact h3
  |some i=>
   rw [hk] at h3;obtain ⟨ver,cp,k1,k2⟩:=h3
   exact ⟨ver,cp,k1,by rw [hL i (.inl hk) trivial];exact k2⟩
 |siter s pos=>
  simp only [OR] at h ⊢;obtain ⟨i,h1,h2⟩:=h
  exact ⟨i,h1,by rw [hL i (.inl h1) trivial];exact h2⟩
 |mp ty t es=>
  simp only [OR] at h ⊢;obtain ⟨i,ms,h1,h2,h4,h3⟩:=h
  exact ⟨i,ms,h1,h2,h4,by rw [hL i (.inl h1) trivial];exact h3⟩
 |mit t last es=>
  simp only [OR] at h ⊢;obtain ⟨i,fs,vis,h1,h2,h3,h4⟩:=h
  exact ⟨i,fs,vis,h1,h2,by rw [hL i (.inl h1) trivial];exact h3,h4⟩
 |bld ty b=>
  simp only [OR] at h ⊢;obtain ⟨i,a,c,h1,h2,h3,h4⟩:=h
  exact ⟨i,a,c,h1,by rw [hL i (.inl h1) trivial];exact h2,h3,VR.more e h4⟩
 |gone=>simp only [OR]
 |deep ty q xs hh=>
  simp only [OR] at h ⊢;obtain ⟨h1,h3⟩:=h;refine ⟨h1,?_⟩
  cases hk:sl.k with
  |none=>rw [hk] at h3;exact h3
  |some i=>
   rw [hk] at h3;obtain ⟨ver,cp,fps,k1,k2,k3,k4,k5,k6,k7⟩:=h3;refine ⟨ver,cp,fps,k1,by rw [hL i (.inl hk) trivial];exact k2,k3,k4,k5,λn x w c a1 a2 a3=>(k6 n x w c a1 a2 a3).mono e λj hj=>hL j (.inr ?_) trivial,k7⟩;rw [k4];exact List.mem_flatten.2 ⟨c,Qav a3,hj⟩
theorem OR.at {L:List (Option kz2)} {sl:Slot} {o:TO D.T} {i:Nat} (h:OR D ρ lv L sl o) (hl:o.live) (hk:sl.k=some i):∃a,L[i]? = some (some a):=by
 cases o with
 |cells cs=>
  simp only [OR] at h;obtain ⟨i',vs,h1,h2,h3⟩:=h
  rw [hk] at h1;injection h1 with h1;subst h1
  exact ⟨_,h2⟩
 |acc ty t xs w=>
  simp only [OR] at h;obtain ⟨h1,h2,h3⟩:=h;rw [hk] at h3;obtain ⟨ver,cp,k1,k2⟩:=h3
  exact ⟨_,k2⟩
 |siter s pos=>
  simp only [OR] at h;obtain ⟨i',h1,h2⟩:=h
  rw [hk] at h1;injection h1 with h1;subst h1
  exact ⟨_,h2⟩
 |mp ty t es=>
  simp only [OR] at h;obtain ⟨i',ms,h1,_,_,h2⟩:=h
  rw [hk] at h1;injection h1 with h1;subst h1
  exact ⟨_,h2⟩
 |mit t last es=>
  simp only [OR] at h;obtain ⟨i',fs,vis,h1,_,h2,_⟩:=h
  rw [hk] at h1;injection h1 with h1;subst h1
  exact ⟨_,h2⟩
 |bld ty b=>
  simp only [OR] at h;obtain ⟨i',a,c,h1,h2,h3⟩:=h
  rw [hk] at h1;injection h1 with h1;subst h1
  exact ⟨_,h2⟩
 |gone=>exact hl.elim
 |deep ty q xs hh=>
  simp only [OR] at h;obtain ⟨h1,h3⟩:=h;rw [hk] at h3;obtain ⟨ver,cp,fps,k1,k2,k3⟩:=h3;exact ⟨_,k2⟩
theorem OR.lt {L:List (Option kz2)} {sl:Slot} {o:TO D.T} {i:Nat} (h:OR D ρ lv L sl o) (hl:o.live) (hk:sl.k=some i):i<L.length:=by
 obtain ⟨a,ha⟩:=h.at hl hk;exact (Qaa.1 ha).1
theorem TRr.at (hR:TRr D F ρ ts σ) {s i:Nat} {o:TO D.T} {sl:Slot} (ho:fnd ts.o s=some o) (hl:o.live) (hs:ρ[s]? = some sl) (hk:sl.has i):∃a,σ.H.L[i]? = some (some a):=by
 rcases hk with hk|hk
 ·obtain ⟨q,h1,h2⟩:=hR.ob s o ho
  rw [hs] at h1;injection h1 with h1;subst h1
  exact h2.at hl hk
 ·exact (hR.fpl s o sl i ho hl hs hk).2
theorem TRr.lt (hR:TRr D F ρ ts σ) {s i:Nat} {o:TO D.T} {sl:Slot} (ho:fnd ts.o s=some o) (hl:o.live) (hs:ρ[s]? = some sl) (hk:sl.has i):i<σ.H.L.length:=by
 obtain ⟨a,ha⟩:=hR.at ho hl hs hk;exact (Qaa.1 ha).1
theorem Slot.zvz {sl:Slot} (h:sl.fp=[]) {i:Nat} (hk:sl.has i):sl.k=some i:=by
 rcases hk with hk|hk
 ·exact hk
 ·rw [h] at hk;cases hk
theorem TRr.new (hR:TRr D F ρ ts σ) (to:TO D.T) (sl:Slot) (H':Heap) (hlv:H'.lv=F.lv) (hE:H'.E=F.E) (hlen:σ.H.L.length<=H'.L.length) (hL:∀i,i<σ.H.L.length->H'.L[i]? = σ.H.L[i]?)
  (hk:∀i,sl.k=some i->σ.H.L.length<=i) (hor:OR D (ρ++[sl]) F.lv H'.L sl to) (hfp:sl.fp=[]:=by rfl):TRr D F (ρ++[sl]) (ts.new D to) {σ with H:=H'}:=by
 have hget:(ρ++[sl])[ts.nx]? = some sl:=by rw [<-hR.nx];simp
 have old:∀s o sl',fnd ts.o s=some o->ρ[s]? = some sl'->∀i,sl'.has i->o.live->i<σ.H.L.length:=λs o sl' ho hs i hi hl=>hR.lt ho hl hs hi
 have hlk:∀s o,ts.nx≠s->fnd (ts.new D to).o s=some o->fnd ts.o s=some o:=λs o hne h=>by
  simp only [TS.new,zz7,Qbq hne] at h;exact h
 have hslot:∀s o sl',fnd ts.o s=some o->(ρ++[sl])[s]? = some sl'->ρ[s]? = some sl':=λs o sl' ho h=>by
  obtain ⟨q,h1,h2⟩:=hR.ob s o ho;rw [lookup_append h1] at h;rw [h1,h]
 refine ⟨by simp [TS.new,hR.nx],hR.nt,λj x hj => ?_,λs o ho => ?_,λs s' o o' sl1 sl2 i h1 h2 l1 l2 r1 r2 k1 k2 => ?_,λs o sl1 i h1 l1 r1 k1 => ?_,hlv,hE,hR.e0,hR.d.more _,λi hi => ?_,λj sl hj=>lookup_append (hR.pin j sl hj),λs o sl1 i h1 l1 r1 k1 => ?_,λi s v h1 h2=>(hR.g i s v h1 h2).more _⟩
 ·obtain ⟨v,h1,h2⟩:=hR.tm j x hj;exact ⟨v,h1,h2.more _⟩
 ·by_cases hs:ts.nx=s
  ·subst hs;simp only [TS.new,zz7,if_true,Qbm] at ho;subst ho;exact ⟨sl,hget,hor⟩
  ·obtain ⟨q,h1,h2⟩:=hR.ob s o (hlk s o hs ho);exact ⟨q,lookup_append h1,h2.mono _ λi hi hl=>hL i (hR.lt (hlk s o hs ho) hl h1 hi)⟩
 ·by_cases hs:ts.nx=s <;> by_cases hs':ts.nx=s'
  ·rw [<-hs,<-hs']
  ·subst hs
   rw [hget] at r1;injection r1 with r1;subst r1
   have hq:=hlk s' o' hs' h2;have:=old s' o' sl2 hq (hslot s' o' sl2 hq r2) i k2 l2;have:=hk i (Slot.zvz hfp k1);omega
  ·subst hs'
   rw [hget] at r2;injection r2 with r2;subst r2
   have hq:=hlk s o hs h1;have:=old s o sl1 hq (hslot s o sl1 hq r1) i k1 l1;have:=hk i (Slot.zvz hfp k2);omega
  ·have q1:=hlk s o hs h1;have q2:=hlk s' o' hs' h2;exact hR.inj s s' o o' sl1 sl2 i q1 q2 l1 l2 (hslot s o sl1 q1 r1) (hslot s' o' sl2 q2 r2) k1 k2
 ·by_cases hs:ts.nx=s
  ·subst hs
   rw [hget] at r1;injection r1 with r1;subst r1
   intro ho;have:=(hR.out i ho).1;have:=hk i (Slot.zvz hfp k1);omega
  ·have q1:=hlk s o hs h1;exact hR.mine s o sl1 i q1 l1 (hslot s o sl1 q1 r1) k1
 ·obtain ⟨h1,h2⟩:=hR.out i hi;exact ⟨Qbf h1 hlen,(hL i h1).trans h2⟩
 ·by_cases hs:ts.nx=s
  ·subst hs
   rw [hget] at r1;injection r1 with r1;subst r1
   rw [hfp] at k1;cases k1
  ·have q1:=hlk s o hs h1;have r:=hslot s o sl1 q1 r1;obtain ⟨hne,a,ha⟩:=hR.fpl s o sl1 i q1 l1 r k1;exact ⟨hne,a,by rw [hL i (Qaa.1 ha).1];exact ha⟩
theorem yc6 {L:List (Option kz2)} {i j:Nat} (h:∃a,L[j]? = some (some a)) (ao:kz2):∃a,(L.set i (some ao))[j]? = some (some a):=by
 obtain ⟨a,ha⟩:=h;by_cases e:i=j
 ·subst e;exact ⟨ao,Qao (Qaa.1 ha).1⟩
 ·exact ⟨a,by rw [Qak e];exact ha⟩
theorem TRr.upd (hR:TRr D F ρ ts σ) {s i:Nat} {o0:TO D.T} {sl:Slot} (hs:fnd ts.o s=some o0) (hl:o0.live) (hr:ρ[s]? = some sl) (hk:sl.k=some i) (to:TO D.T) (ao:kz2)
  (hor:OR D ρ F.lv (σ.H.L.set i (some ao)) sl to):TRr D F ρ (ts.set D s to) {σ with H:={σ.H with L:=σ.H.L.set i (some ao)}}:=by
 have hlk:∀s' o,s≠s'->fnd (ts.set D s to).o s'=some o->fnd ts.o s'=some o:=λs' o hne h=>by
  simp only [TS.set,zz7,Qbq hne] at h;exact h
 have live':∀s' o,fnd (ts.set D s to).o s'=some o->o.live->∃o',fnd ts.o s'=some o'∧o'.live:=λs' o h l=>by
  by_cases he:s=s'
  ·subst he;exact ⟨o0,hs,hl⟩
  ·exact ⟨o,hlk s' o he h,l⟩
 refine ⟨hR.nx,hR.nt,hR.tm,λs' o ho => ?_,λs1 s2 o1 o2 sl1 sl2 i' h1 h2 l1 l2 r1 r2 k1 k2 => ?_,λs1 o1 sl1 i1 h1 l1 r1 k1 => ?_,hR.lv,hR.E,hR.e0,hR.d,λj hj => ?_,hR.pin,λs1 o1 sl1 i1 h1 l1 r1 k1 => ?_,hR.g⟩
 ·by_cases he:s=s'
  ·subst he;simp only [TS.set,zz7,if_true,Qbm] at ho;subst ho;exact ⟨sl,hr,hor⟩
  ·have hq:=hlk s' o he ho;obtain ⟨q,h1,h2⟩:=hR.ob s' o hq;refine ⟨q,h1,?_⟩;have:=h2.mono (L':=σ.H.L.set i (some ao)) [] λj hj hl' => ?_
   ·simpa using this
   ·have hne:i≠j:=λe=>by
     subst e;exact he (hR.inj s s' o0 o sl q i hs hq hl hl' hr h1 (.inl hk) hj)
    rw [Qak hne]
 ·obtain ⟨o1',q1,l1'⟩:=live' s1 o1 h1 l1;obtain ⟨o2',q2,l2'⟩:=live' s2 o2 h2 l2;exact hR.inj s1 s2 o1' o2' sl1 sl2 i' q1 q2 l1' l2' r1 r2 k1 k2
 ·obtain ⟨o1',q1,l1'⟩:=live' s1 o1 h1 l1;exact hR.mine s1 o1' sl1 i1 q1 l1' r1 k1
 ·obtain ⟨h1,h2⟩:=hR.out j hj;refine ⟨by simpa using h1,?_⟩;have hne:i≠j:=λe=>by subst e;exact hR.mine s o0 sl i hs hl hr (.inl hk) hj
  show (σ.H.L.set i (some ao))[j]? = _;rw [Qak hne];exact h2
 ·obtain ⟨o1',q1,l1'⟩:=live' s1 o1 h1 l1;have hq:=hR.fpl s1 o1' sl1 i1 q1 l1' r1 k1;exact ⟨hq.1,yc6 hq.2 ao⟩
theorem TRr.move (hR:TRr D F ρ ts σ) {s i:Nat} {o0:TO D.T} {sl:Slot} (hs:fnd ts.o s=some o0) (hl:o0.live) (hr:ρ[s]? = some sl) (hk:sl.k=some i) (to:TO D.T) (ao:kz2) (sl':Slot) (hk':sl'.k=some i)
  (hor:OR D (ρ++[sl']) F.lv (σ.H.L.set i (some ao)) sl' to) (hfp:∀x,x∈sl'.fp->x∈sl.fp:=by exact λ_ h=>by cases h):TRr D F (ρ++[sl']) ((ts.new D to).set D s .gone) {σ with H:={σ.H with L:=σ.H.L.set i (some ao)}}:=by
 have hsub:∀x,sl'.has x->sl.has x:=λx h=>h.elim (λh=>.inl (by rw [<-h,hk',hk])) λh=>.inr (hfp x h)
 have hget:(ρ++[sl'])[ts.nx]? = some sl':=by rw [<-hR.nx];simp
 have hsn:s≠ts.nx:=λe=>by
  have:=(Qaa.1 hr).1;rw [hR.nx,e] at this;omega
 have hlk:∀s' o,o.live->fnd ((ts.new D to).set D s .gone).o s'=some o->s≠s'∧((ts.nx=s'∧o=to)∨(ts.nx≠s'∧fnd ts.o s'=some o)):=λs' o hlo h=>by
  by_cases he:s=s'
  ·subst he;simp only [TS.set,zz7,if_true,Qbm] at h;subst h;exact hlo.elim
  ·simp only [TS.set,TS.new,zz7,Qbq he] at h;by_cases hn:ts.nx=s'
   ·rw [Qbp hn] at h;injection h with h;exact ⟨he,.inl ⟨hn,h.symm⟩⟩
   ·rw [Qbq hn] at h;exact ⟨he,.inr ⟨hn,h⟩⟩
 have hslot:∀s o sl1,fnd ts.o s=some o->(ρ++[sl'])[s]? = some sl1->ρ[s]? = some sl1:=λs o sl1 ho h=>by
  obtain ⟨q,h1,h2⟩:=hR.ob s o ho;rw [lookup_append h1] at h;rw [h1,h]
 refine ⟨by simp [TS.new,TS.set,hR.nx],hR.nt,λj x hj => ?_,λs' o ho => ?_,λs1 s2 o1 o2 sl1 sl2 i' h1 h2 l1 l2 r1 r2 k1 k2 => ?_,λs1 o1 sl1 i1 h1 l1 r1 k1 => ?_,hR.lv,hR.E,hR.e0,hR.d.more _,λj hj => ?_,λj sl hj=>lookup_append (hR.pin j sl hj),λs1 o1 sl1 i1 h1 l1 r1 k1 => ?_,λi s v h1 h2=>(hR.g i s v h1 h2).more _⟩
 ·obtain ⟨v,h1,h2⟩:=hR.tm j x hj;exact ⟨v,h1,h2.more _⟩
 ·by_cases hlo:o.live
  ·rcases (hlk s' o hlo ho).2 with ⟨hn,rfl⟩|⟨hn,hq⟩
   ·subst hn;exact ⟨sl',hget,hor⟩
   ·obtain ⟨q,h1,h2⟩:=hR.ob s' o hq;refine ⟨q,lookup_append h1,h2.mono [sl'] λj hj hl' => ?_⟩
    have hne:i≠j:=λe=>by
     subst e;exact (hlk s' o hlo ho).1 (hR.inj s s' o0 o sl q i hs hq hl hl' hr h1 (.inl hk) hj)
    rw [Qak hne]
  ·have hg:o = .gone:=by cases o <;> first|rfl|exact (hlo trivial).elim
   subst hg;by_cases he:s=s'
   ·subst he;exact ⟨sl,lookup_append hr,by simp only [OR]⟩
   ·simp only [TS.set,TS.new,zz7,Qbq he] at ho;by_cases hn:ts.nx=s'
    ·subst hn;exact ⟨sl',hget,by simp only [OR]⟩
    ·rw [Qbq hn] at ho;obtain ⟨q,h1,h2⟩:=hR.ob s' _ ho;exact ⟨q,lookup_append h1,by simp only [OR]⟩
 ·obtain ⟨n1,c1⟩:=hlk s1 o1 l1 h1;obtain ⟨n2,c2⟩:=hlk s2 o2 l2 h2
  rcases c1 with ⟨e1,rfl⟩|⟨e1,q1⟩ <;> rcases c2 with ⟨e2,rfl⟩|⟨e2,q2⟩
  ·rw [<-e1,<-e2]
  ·subst e1
   rw [hget] at r1;injection r1 with r1;subst r1
   exact (n2 (hR.inj s s2 o0 o2 sl sl2 i' hs q2 hl l2 hr (hslot _ _ _ q2 r2) (hsub _ k1) k2)).elim
  ·subst e2
   rw [hget] at r2;injection r2 with r2;subst r2
   exact (n1 (hR.inj s s1 o0 o1 sl sl1 i' hs q1 hl l1 hr (hslot _ _ _ q1 r1) (hsub _ k2) k1)).elim
  ·exact hR.inj s1 s2 o1 o2 sl1 sl2 i' q1 q2 l1 l2 (hslot _ _ _ q1 r1) (hslot _ _ _ q2 r2) k1 k2
 ·obtain ⟨n1,c1⟩:=hlk s1 o1 l1 h1
  rcases c1 with ⟨e1,rfl⟩|⟨e1,q1⟩
  ·subst e1
   rw [hget] at r1;injection r1 with r1;subst r1
   exact hR.mine s o0 sl i1 hs hl hr (hsub _ k1)
  ·exact hR.mine s1 o1 sl1 i1 q1 l1 (hslot _ _ _ q1 r1) k1
 ·obtain ⟨h1,h2⟩:=hR.out j hj;refine ⟨by simpa using h1,?_⟩;have hne:i≠j:=λe=>by subst e;exact hR.mine s o0 sl i hs hl hr (.inl hk) hj
  show (σ.H.L.set i (some ao))[j]? = _;rw [Qak hne];exact h2
 ·obtain ⟨n1,c1⟩:=hlk s1 o1 l1 h1
  rcases c1 with ⟨e1,rfl⟩|⟨e1,q1⟩
  ·subst e1
   rw [hget] at r1;injection r1 with r1;subst r1
   have hq:=hR.fpl s o0 sl i1 hs hl hr (hfp _ k1);exact ⟨by rw [hk',<-hk];exact hq.1,yc6 hq.2 ao⟩
  ·have hq:=hR.fpl s1 o1 sl1 i1 q1 l1 (hslot _ _ _ q1 r1) k1;exact ⟨hq.1,yc6 hq.2 ao⟩
theorem TRr.drop (hR:TRr D F ρ ts σ) (s:Nat) (hs:s<ts.nx):TRr D F ρ (ts.set D s .gone) σ:=by
 have hlk:∀s' o,o.live->fnd (ts.set D s .gone).o s'=some o->fnd ts.o s'=some o:=λs' o hl h=>by
  simp only [TS.set,zz7] at h;split at h
  ·injection h with h;subst h;exact hl.elim
  ·exact h
 refine ⟨hR.nx,hR.nt,hR.tm,λs' o ho => ?_,λs1 s2 o1 o2 sl1 sl2 i' h1 h2 l1 l2=>hR.inj s1 s2 o1 o2 sl1 sl2 i' (hlk _ _ l1 h1) (hlk _ _ l2 h2) l1 l2,λs1 o1 sl1 i1 h1 l1=>hR.mine s1 o1 sl1 i1 (hlk _ _ l1 h1) l1,hR.lv,hR.E,hR.e0,hR.d,hR.out,hR.pin,λs1 o1 sl1 i1 h1 l1=>hR.fpl s1 o1 sl1 i1 (hlk _ _ l1 h1) l1,hR.g⟩;simp only [TS.set,zz7] at ho;split at ho
 ·rename_i he;injection ho with ho;subst ho;subst he;have:s<ρ.length:=by rw [hR.nx];exact hs
  exact ⟨ρ[s],Qab this,by simp only [OR]⟩
 ·exact hR.ob s' o ho
mutual
theorem VR.ren {s s':Nat} {sl sl':Slot} (h1:ρ[s]? = some sl) (h2:ρ[s']? = some sl') (he:sl'.v=sl.v):∀{x:TV D.T} {v:V},VR D ρ lv x v->VR D ρ lv (TV.ren D s s' x) v
 | .own j,v,h=>by
   simp only [TV.ren];split
   · rename_i hj;subst hj;simp only [VR] at h ⊢;obtain ⟨q,k1,k2,k3⟩:=h
     rw [h1] at k1;injection k1 with k1;subst k1
     exact ⟨sl',h2,by rw [he];exact k2,k3⟩
   · exact h
 | .dp j i off,v,h=>by
   simp only [TV.ren];split
   · rename_i hj;subst hj;simp only [VR] at h ⊢;obtain ⟨q,j',ver,m,k1,k2⟩:=h
     rw [h1] at k1;injection k1 with k1;subst k1
     exact ⟨sl',j',ver,m,h2,by rw [he];exact k2⟩
   · exact h
 | .bsl q cs,v,h=>by simp only [TV.ren,VR] at h ⊢;obtain ⟨vs,k1,k2⟩:=h;exact ⟨vs,k1,VRL.ren h1 h2 he k2⟩
 | .agg cs,v,h=>by simp only [TV.ren,VR] at h ⊢;obtain ⟨vs,k1,k2⟩:=h;exact ⟨vs,k1,VRL.ren h1 h2 he k2⟩
 | .tup cs,v,h=>by simp only [TV.ren,VR] at h ⊢;obtain ⟨vs,k1,k2⟩:=h;exact ⟨vs,k1,VRL.ren h1 h2 he k2⟩
 | .any,v,h=>by simpa only [TV.ren] using h
 | .bool b,v,h=>by simpa only [TV.ren] using h
 | .int k n,v,h=>by simpa only [TV.ren] using h
 | .str b,v,h=>by simpa only [TV.ren] using h
 | .nilp,v,h=>by simpa only [TV.ren] using h
 | .nils,v,h=>by simpa only [TV.ren] using h
 | .mapn,v,h=>by simpa only [TV.ren] using h
 | .nilf,v,h=>by simpa only [TV.ren] using h
 | .nili,v,h=>by simpa only [TV.ren] using h
 | .sl t xs fl,v,h=>by simpa only [TV.ren] using h
 | .ptr j off,v,h=>by simpa only [TV.ren] using h
 | .bp j off,v,h=>by simpa only [TV.ren] using h
 | .osl j lo,v,h=>by simpa only [TV.ren] using h
 | .map j,v,h=>by simpa only [TV.ren] using h
 | .mc t es,v,h=>by simpa only [TV.ren] using h
 | .ref cs off,v,h=>by simpa only [TV.ren] using h
 | .ap j t i x off,v,h=>by simpa only [TV.ren] using h
 | .fn f a b,v,h=>by simpa only [TV.ren] using h
 | .iface t x,v,h=>by simpa only [TV.ren] using h
theorem VRL.ren {s s':Nat} {sl sl':Slot} (h1:ρ[s]? = some sl) (h2:ρ[s']? = some sl') (he:sl'.v=sl.v):∀{cs:List (TV D.T)} {vs:List V},VRL D ρ lv cs vs->VRL D ρ lv (TV.zn7 D s s' cs) vs
 |[],vs,h=>by simpa only [TV.zn7] using h
 |c::cs,vs,h=>by simp only [TV.zn7,VRL] at h ⊢;obtain ⟨v,r,k1,k2,k3⟩:=h;exact ⟨v,r,k1,VR.ren h1 h2 he k2,VRL.ren h1 h2 he k3⟩
end
theorem yd1 {ρ ρ':List Slot} {g:List (Option Nat)} {f:TV D.T->TV D.T} {i s:Nat} {v:V} (hf:∀s0 s',f (.own s0) = .own s'->∀u,VR D ρ lv (.own s0) u->VR D ρ' lv (.own s') u) (hg:∀s0,g[i]? = some (some s0)->VR D ρ lv (.own s0) v) (h:(g.map (gmap D f))[i]? = some (some s)):VR D ρ' lv (.own s) v:=by
 rw [Qal,Qae] at h;obtain ⟨o,h1,h2⟩:=h
 cases o with
 |none=>cases h2
 |some s0=>
  simp only [gmap] at h2;split at h2
  · rename_i s' e;injection h2 with h2;subst h2;exact hf s0 s' e v (hg s0 h1)
  · cases h2
theorem TRr.z7g (hR:TRr D F ρ ts σ) (f:TV D.T->TV D.T) (hf:∀x v,VR D ρ F.lv x v->VR D ρ F.lv (f x) v):TRr D F ρ (ts.z7g D f) σ:=by
 have hlive:∀o:TO D.T,(TO.map D f o).live->o.live:=λo h=>by cases o <;> first|exact h|trivial
 have hob:∀s o,fnd (ts.z7g D f).o s=some o->∃o',fnd ts.o s=some o'∧o=TO.map D f o':=λs o h=>by
  simp only [TS.z7g] at h;rw [zif (TO.map D f),Qae] at h;obtain ⟨o',h1,h2⟩:=h;exact ⟨o',h1,h2.symm⟩
 refine ⟨hR.nx,hR.nt,λj x hj => ?_,λs o ho => ?_,λs1 s2 o1 o2 sl1 sl2 i h1 h2 l1 l2 => ?_,λs1 o1 sl1 i h1 l1 => ?_,hR.lv,hR.E,hR.e0,hR.d.imp _ (λxs vs k=>VRL.of (by simp [k.length]) λj c v hc hv=>by
  rw [Qal,Qae] at hc;obtain ⟨c0,hc0,rfl⟩:=hc
  exact hf _ _ (k.zqa hc0 hv)),hR.out,hR.pin,λs1 o1 sl1 i h1 l1 => ?_,λi s v h1 h2=>yd1 (λs0 s' e u hu=>by have:=hf _ _ hu;rwa [e] at this) (λs0 e=>hR.g i s0 v e h2) h1⟩
 ·simp only [TS.z7g] at hj;rw [zif f,Qae] at hj;obtain ⟨y,hy,rfl⟩:=hj;obtain ⟨v,h1,h2⟩:=hR.tm j y hy;exact ⟨v,h1,hf _ _ h2⟩
 ·obtain ⟨o',h1,rfl⟩:=hob s o ho;obtain ⟨sl,k1,k2⟩:=hR.ob s o' h1;refine ⟨sl,k1,?_⟩
  cases o' with
  |cells cs=>
   simp only [TO.map,OR] at k2 ⊢;obtain ⟨i,vs,q1,q2,q3⟩:=k2;refine ⟨i,vs,q1,q2,.of (by simp [q3.length]) λj c v hc hv => ?_⟩;rw [Qal,Qae] at hc;obtain ⟨c',hc',rfl⟩:=hc
   exact hf _ _ (q3.zqa hc' hv)
  |acc ty t xs w=>exact k2
  |siter s pos=>exact k2
  |mp ty t es=>exact k2
  |mit t last es=>exact k2
  |bld ty b=>
   cases b with
   |none=>exact k2
   |some q=>
    simp only [OR] at k2;obtain ⟨i,a,c,q1,q2,q3,q4⟩:=k2;have h5:VR D ρ F.lv (f (.own q)) c:=hf _ _ q4;simp only [TO.map];split
    · rename_i s' hs';rw [hs'] at h5;simp only [OR];exact ⟨i,a,c,q1,q2,q3,h5⟩
    · simp only [OR]
  |gone=>exact k2
  |deep ty q xs hh=>
   cases hh with
   |none=>exact k2
   |some p=>
    obtain ⟨n,c,s0⟩:=p;simp only [TO.map];split
    · rename_i s1 hs1;simp only [OR] at k2 ⊢;refine ⟨k2.1,?_⟩;have k3:=k2.2
      cases hk:sl.k with
      |none=>rw [hk] at k3;cases k3.2.2.2
      |some j=>
       rw [hk] at k3;obtain ⟨ver,cp,fps,a1,a2,a3,a4,a5,a6,a7⟩:=k3;refine ⟨ver,cp,fps,a1,a2,a3,a4,a5,λm x w b e1 e2 e3 => ?_,λn' f' s' e => ?_⟩
       · obtain ⟨vs,cs,b1,b2,b3,b4,b5⟩:=a6 m x w b e1 e2 e3;refine ⟨vs,cs,b1,b2,b3,b4,λf p u d g1 g2 g3 => ?_⟩;have:=b5 f p u d g1 g2 g3;unfold z0b at this ⊢;simp only at this ⊢;split at this
         · rename_i s2 hs2;split at hs2
           · rename_i hc;injection hs2 with hs2;subst hs2;rw [Qbp hc];obtain ⟨d1,d2,hlf,sl2,d3,d4⟩:=this;have h5:=hf (.own s0) u (by simp only [VR];exact ⟨sl2,d3,d4,hlf⟩);rw [hs1] at h5;simp only [VR] at h5;obtain ⟨sl3,d5,d6,_⟩:=h5;exact ⟨d1,d2,hlf,sl3,d5,d6⟩
           · cases hs2
         · rename_i hs2;split at hs2
           · cases hs2
           · rename_i hc;rw [Qbq hc];exact this
       · simp only [Qbm,Qbr] at e;obtain ⟨rfl,rfl,rfl⟩:=e;exact a7 n c s0 rfl
    · simp only [OR]
 ·obtain ⟨o1',q1,rfl⟩:=hob s1 o1 h1;obtain ⟨o2',q2,rfl⟩:=hob s2 o2 h2;exact hR.inj s1 s2 o1' o2' sl1 sl2 i q1 q2 (hlive _ l1) (hlive _ l2)
 ·obtain ⟨o1',q1,rfl⟩:=hob s1 o1 h1;exact hR.mine s1 o1' sl1 i q1 (hlive _ l1)
 ·obtain ⟨o1',q1,rfl⟩:=hob s1 o1 h1;exact hR.fpl s1 o1' sl1 i q1 (hlive _ l1)
theorem TRr.put (hR:TRr D F ρ ts σ) {dst:Option Nat} {x:TV D.T} {v:V} {ts':TS D.T} (h:ts.put D dst x=some ts') (hx:VR D ρ F.lv x v):TRr D F ρ ts' (σ.put dst v):=by
 cases dst with
 |none=>simp only [TS.put,Qbm] at h;subst h;exact hR
 |some d=>
  simp only [TS.put] at h;split at h
  · rename_i hd;injection h with h;subst h;refine ⟨hR.nx,by simp [St.put,hR.nt],λj y hj => ?_,hR.ob,hR.inj,hR.mine,hR.lv,hR.E,hR.e0,hR.d,hR.out,hR.pin,hR.fpl,hR.g⟩;rw [zz7] at hj;simp only [St.put];split at hj
    · rename_i he;injection hj with hj;subst hj;subst he;exact ⟨v,by rw [Qao (by rw [hR.nt];exact hd)],hx⟩
    · rename_i he;obtain ⟨u,h1,h2⟩:=hR.tm j y hj;exact ⟨u,by rw [Qak he];exact h1,h2⟩
  · cases h
theorem TRr.tell (hR:TRr D F ρ ts σ) {d:Nat} {x:TV D.T} {v:V} (h:σ.t[d]? = some v) (hx:VR D ρ F.lv x v):TRr D F ρ {ts with t:=(d,x)::ts.t} σ:=by
 refine ⟨hR.nx,hR.nt,λj y hj => ?_,hR.ob,hR.inj,hR.mine,hR.lv,hR.E,hR.e0,hR.d,hR.out,hR.pin,hR.fpl,hR.g⟩;rw [zz7] at hj;split at hj
 ·rename_i he;injection hj with hj;subst hj;subst he;exact ⟨v,h,hx⟩
 ·exact hR.tm j y hj
end
section
variable {P : Program} {D : Dat}
theorem zrk:∀{l:List DTy} {cs:List (TV D.T)} {z:HL D.T l},z4z D l cs = .ok z->∀(j:Nat) (p:(t:DTy)×t.S D.T),HL.nth l z j=some p->∃c,cs[j]? = some c∧zgm D p.1 c = .ok p.2
 |[],cs,z,h,j,p,hp=>by simp [HL.nth] at hp
 |t::l,[],z,h,j,p,hp=>by simp [z4z] at h
 |t::l,c::cs,z,h,j,p,hp=>by
  simp only [z4z] at h;split at h
  · rename_i y hy;split at h
    · rename_i ys hys;injection h with h;subst h
      cases j with
      |zero=>simp only [HL.nth,Qbm] at hp;subst hp;exact ⟨c,rfl,hy⟩
      |succ j=>
       obtain ⟨c',h1,h2⟩:=zrk hys j p hp;exact ⟨c',by simpa using h1,h2⟩
    · cases h
    · cases h
  · cases h
  · cases h
theorem y9t {t:DTy} {x y:t.S D.T} (h:zgm D t (D.leaf t x) = .ok y):y=x:=by
 cases t with
 |bool=>simp only [Dat.leaf,zgm] at h;injection h with h;exact h.symm
 |int k=>simp only [Dat.leaf,zgm,if_true] at h;injection h with h;exact h.symm
 |str=>simp only [Dat.leaf,zgm] at h;injection h with h;exact h.symm
 |nat=>simp [Dat.leaf,zgm] at h
 |st i=>simp [Dat.leaf,zgm] at h
 |sl t=>
  simp only [Dat.leaf,zgm,z89,dite_true,FR.of] at h;injection h with h;exact h.symm
end
theorem z69:∀(l:List (List Nat)) (n:Nat) (c a c':List Nat),l[n]? = some c->c.Perm (a++c')->l.flatten.Perm (a++(l.set n c').flatten)
 |[],n,c,a,c',h,_=>by simp at h
 |x::l,0,c,a,c',h,hp=>by
  simp at h;subst h;simp only [List.set_cons_zero,List.flatten_cons,<-Qax]
  exact hp.append_right _
 |x::l,n+1,c,a,c',h,hp=>by
  simp only [List.set_cons_succ,List.flatten_cons];refine ((z69 l n c a c' (by simpa using h) hp).append_left x).trans ?_;rw [<-Qax,<-Qax];exact List.perm_append_comm.append_right _
section
variable {P : Program} {D : Dat} {F : Fr} {ρ : List Slot} {ts : TS D.T} {σ : St} {lv : Nat} {L : List (Option kz2)}
def zkk (D:Dat) (ρ:List Slot) (lv:Nat) (L:List (Option kz2)) (q f:Nat) (hole:Option (Nat×Nat)) (p:(t:DTy)×t.S D.T) (u:V):Prop :=
 match (match hole with|some (f',c)=>(if f'=f then some c else none)|none=>none) with
 |some c=>(D.ow q f).isSome=true∧u.leaf=true∧∃sl,ρ[c]? = some sl∧u=sl.v
 |none=>DO D lv L (ydz (D.ow q f)) p.1 p.2 u []
theorem zk0 {q:Nat}:∀{l:List DTy} {cs:List (TV D.T)} {vs:List V} {f0:Nat} {r:HL D.T l×Option (Nat×Nat)},zyo D q l cs f0 = .ok r->VRL D ρ lv cs vs ->
  cs.length=l.length∧(∀g c,r.2=some (g,c)->f0<=g∧g<f0+l.length)∧∀(f:Nat) (p:(t:DTy)×t.S D.T) (u:V),HL.nth l r.1 f=some p->vs[f]? = some u->zkk D ρ lv L q (f0+f) r.2 p u
 |[],[],vs,f0,r,h,hv=>by
  cases h
  exact ⟨rfl,λg c e=>(by cases e),λf p u hp=>(by simp [HL.nth] at hp)⟩
 |[],c::cs,vs,f0,r,h,hv=>by cases h
 |t::l,[],vs,f0,r,h,hv=>by cases h
 |t::l,c::cs,vs,f0,r,h,hv=>by
  simp only [VRL] at hv;obtain ⟨v,us,rfl,hv1,hv2⟩:=hv;unfold zyo at h;split at h
  · rename_i how;split at h
    · rename_i x hx;split at h
      · rename_i r' hr';injection h with h;subst h;obtain ⟨a1,a2,a3⟩:=zk0 hr' hv2;refine ⟨by simp [a1],λg c' e=>by have:=a2 g c' e;simp only [List.length_cons];omega,λf p u hp hu => ?_⟩
        cases f with
        |zero=>
         simp only [HL.nth,Qbm] at hp;simp only [Qbu,Qbm] at hu;subst hp;subst hu;unfold zkk
         have hno:(match r'.2 with|some (f',c)=>(if f'=f0+0 then some c else none)|none=>none)=none:=by
          cases hh:r'.2 with
          |none=>rfl
          |some g=>have:=a2 g.1 g.2 hh;simp only;rw [Qbq (by omega)]
         simp only [hno];rw [Nat.add_zero,how]
         exact .dat (zio hx hv1)
        |succ f=>
         have:=a3 f p u (by simpa [HL.nth] using hp) (by simpa using hu);rw [show f0+(f+1)=f0+1+f by omega];exact this
      · cases h
      · cases h
    · cases h
    · cases h
  · rename_i ty how;split at h
    · rename_i r' hr';obtain ⟨a1,a2,a3⟩:=zk0 hr' hv2
      have hno:(match r'.2 with|some (f',c)=>(if f'=f0+0 then some c else none)|none=>none)=none:=by
       cases hh:r'.2 with
       |none=>rfl
       |some g=>have:=a2 g.1 g.2 hh;simp only;rw [Qbq (by omega)]
      split at h
      · rename_i x hn;injection h with h;subst h;refine ⟨by simp [a1],λg c' e=>by have:=a2 g c' e;simp only [List.length_cons];omega,λf p u hp hu => ?_⟩
        cases f with
        |zero=>
         simp only [HL.nth,Qbm] at hp;simp only [Qbu,Qbm] at hu;subst hp;subst hu;unfold zkk;simp only [hno];rw [Nat.add_zero,how];unfold yg7 at hn;split at hn
         · injection hn with hn;injection hn with hn;subst hn;simp only [VR] at hv1;subst hv1;exact .nil (.nil _) (.inl rfl)
         · injection hn with hn;injection hn with _ hn;cases hn
         · cases hn
        |succ f=>
         have:=a3 f p u (by simpa [HL.nth] using hp) (by simpa using hu);rw [show f0+(f+1)=f0+1+f by omega];exact this
      · rename_i x c' hn;split at h
        · rename_i hr2;injection h with h;subst h;refine ⟨by simp [a1],λg c2 e=>(by injection e with e;injection e with e1 e2;simp only [List.length_cons];omega),λf p u hp hu => ?_⟩
          cases f with
          |zero=>
           simp only [HL.nth,Qbm] at hp;simp only [Qbu,Qbm] at hu;subst hp;subst hu;unfold zkk;simp only [Nat.add_zero,if_true];unfold yg7 at hn;split at hn
           · injection hn with hn;injection hn with _ hn;cases hn
           · injection hn with hn;injection hn with _ hn;injection hn with hn;subst hn;simp only [VR] at hv1;obtain ⟨sl,e1,e2,e3⟩:=hv1;exact ⟨by rw [how];rfl,e3,sl,e1,e2⟩
           · cases hn
          |succ f=>
           have:=a3 f p u (by simpa [HL.nth] using hp) (by simpa using hu);rw [show f0+(f+1)=f0+1+f by omega];unfold zkk at this ⊢;rw [hr2] at this;simp only at this ⊢;rw [Qbq (by omega)];exact this
        · cases h
      · cases h
    · cases h
    · cases h
theorem yfp {q n:Nat} {x:HL D.T (D.fl q)} {hole:Option (Nat×Nat)} {i:Int} {us:List V} (hD:D.Ok P) (hi:i.toNat=n) (hl:us.length=(D.fl q).length) (h:∀(f:Nat) (p:(t:DTy)×t.S D.T) (u:V),HL.nth (D.fl q) x f=some p->us[f]? = some u->zkk D ρ lv L q f hole p u) :
  EO D ρ lv L q (hole.map λp=>(i,p.1,p.2)) n (D.make q x) (.agg us) []:=by
 have hr2:([]:List Nat)=(List.replicate (D.fl q).length ([]:List Nat)).flatten:=by
  symm;rw [List.flatten_eq_nil_iff];intro l hl;exact (List.mem_replicate.1 hl).2
 refine ⟨us,List.replicate (D.fl q).length [],rfl,hl,by simp,hr2,λf p u b h1 h2 h3 => ?_⟩;rw [hD.getMake] at h1
 have hb:b=[]:=by
  rw [Qbj] at h3;split at h3
  ·injection h3 with h3;exact h3.symm
  ·cases h3
 subst hb;have:=h f p u h1 h2;unfold zkk at this
 cases hole with
 |none=>exact this
 |some g=>
  obtain ⟨f',c⟩:=g;simp only [Qbl,z0b] at this ⊢;by_cases hf:f'=f
  · rw [Qbp ⟨hi,hf⟩];rw [Qbp hf] at this;exact ⟨trivial,this⟩
  · rw [Qbq (λe=>hf e.2)];rw [Qbq hf] at this;exact this
theorem EO.zxa {q n:Nat} {x:D.T q} {w:V} {c:List Nat} (h:EO D ρ lv L q none n x w c) (hh:Option (Int×Nat×Nat)) (hn:∀n' f' s',hh=some (n',f',s')->n'.toNat≠n):EO D ρ lv L q hh n x w c:=by
 obtain ⟨vs,cs,a1,a2,a3,a4,a5⟩:=h;refine ⟨vs,cs,a1,a2,a3,a4,λf p u b e1 e2 e3 => ?_⟩;have:=a5 f p u b e1 e2 e3
 have hno:z0b hh n f=none:=by
  cases hh with
  |none=>rfl
  |some g=>obtain ⟨n',f',s'⟩:=g;simp only [z0b];rw [Qbq (λe=>hn _ _ _ rfl e.1)]
 rw [hno];exact this
end
section
variable {P : Program} {D : Dat} {F : Fr} {ρ : List Slot} {ts : TS D.T} {σ : St} {lv : Nat}
theorem ya4 {H:Heap} {f:Operand->V} {op:Op} {v:V} (h:pv P H f op=some v):ox P H f op=some (v,H):=by
 cases op
 case call c=>
  simp only [pv] at h;unfold ox;simp only;split
  ·rename_i hcal;simp [z5v,hcal] at h
  ·rename_i hcal;simp [z5v,hcal] at h
  ·rw [h];rfl
 all_goals first
  |(unfold ox;simp only [h,Qbl];done)
  |(simp [pv] at h;done)
theorem zl1 (H:Heap) (hlv:H.lv=F.lv) (hE:H.E=F.E):H=⟨F.lv,H.L,F.E⟩:=by cases H;simp only at hlv hE;subst hlv;subst hE;rfl
theorem TRr.ztm (hR:TRr D F ρ ts σ) (i:Nat) (o:kz2):σ.H.set F.lv i o={σ.H with L:=σ.H.L.set i (some o)}:=by
 unfold Heap.set;rw [Qbp hR.lv.symm]
variable (hD : D.Ok P)
include hD
theorem TRr.zyc (hR:TRr D F ρ ts σ) {cs:List (TV D.T)} {vs:List V} (h:VRL D ρ F.lv cs vs) :
  TRr D F (ρ++[⟨.any,some σ.H.L.length,[],[]⟩]) (ts.new D (.cells cs)) {σ with H:=σ.H.push (.cells vs)}∧VR D (ρ++[⟨.any,some σ.H.L.length,[],[]⟩]) F.lv (.ptr ts.nx 0) (.ptr σ.H.lv σ.H.L.length 0):=by
 refine ⟨hR.new _ _ _ hR.lv hR.E (by simp [Heap.push]) (λi hi=>by simp only [Heap.push];rw [Qaj hi]) (λi hi=>by injection hi with hi;omega) ?_,?_⟩
 ·simp only [OR];exact ⟨σ.H.L.length,vs,rfl,by simp [Heap.push],h.more _⟩
 ·simp only [VR];exact ⟨⟨.any,some σ.H.L.length,[],[]⟩,σ.H.L.length,by rw [<-hR.nx];simp,rfl,by rw [hR.lv]⟩
omit hD in
theorem DR.one {t:DTy} {x:t.S D.T} {v:V} (h:DR D t x v) (ht:∀i,t ≠ .st i) (hn:t ≠ .nat):v.cells=[v]∧v.leaf=true∧(∀c,z4n v [c]=c)∧∀c:V,c.leaf=true->fits v [c]=true:=by
 cases h with
 |st=>exact (ht _ rfl).elim
 |enc=>exact (ht _ rfl).elim
 |nat=>exact (hn rfl).elim
 |_=>exact ⟨rfl,rfl,λ_=>rfl,λc hc=>hc⟩
theorem DR.z4n {t:DTy} {y z:t.S D.T} {w vx:V} {x:TV D.T} {off:Nat} (hw:DR D t y w) (hx:VR D ρ lv x vx) (hsol:x.zze=true) (hoff:off+x.cells.length<=(D.tv t y).cells.length)
  (hz:asD D t (match D.tv t y with| .agg cs'=>.agg (zgz cs' off x.cells)|_=>x) = .ok z) (ht:t ≠ .nat) :
  DR D t z (Go.Ab.z4n w (kzs w.cells off vx.cells))∧fits w (kzs w.cells off vx.cells)=true∧off+vx.cells.length<=w.cells.length:=by
 have hc:=VR.y6u (ρ:=ρ) (lv:=lv) hD hw;have hxc:=hx.cells hsol;have hlen:=hxc.length;have hlen2:=hc.length;refine ⟨?_,?_,by omega⟩
 all_goals
  by_cases hst:∃i,t = .st i
  ·obtain ⟨i,rfl⟩:=hst;obtain ⟨us,rfl,k1,k2⟩:=DR.agg hD hw
   first
    |rfl
    |(simp only [Dat.tv] at hz
      refine zgi (ρ:=ρ) (lv:=lv) hD hz ?_;simp only [Go.Ab.z4n,VR]
      exact ⟨_,rfl,VRL.kzs (by simpa [Dat.tv,TV.cells,V.cells] using hc) hxc off⟩)
  ·have hne:∀i,t ≠ .st i:=λi e=>hst ⟨i,e⟩
   have hnagg:(match D.tv t y with| .agg cs'=>TV.agg (zgz cs' off x.cells)|_=>x)=x:=by
    cases t with
    |st i=>exact (hne i rfl).elim
    |_=>rfl
   rw [hnagg] at hz;have hd:=zgi hD hz hx;obtain ⟨a1,a2,a3,a4⟩:=hw.one hne ht;obtain ⟨b1,b2,b3,b4⟩:=hd.one hne ht;have l1:w.cells.length=1:=by rw [a1];rfl
   have l2:vx.cells.length=1:=by rw [b1];rfl
   have hoff0:off=0:=by omega
   subst hoff0;rw [a1,b1];have:kzs [w] 0 [vx]=[vx]:=rfl;rw [this]
   first
    |(rw [a3];exact hd)
    |exact a4 _ b2
theorem yb6 (hR:TRr D F ρ ts σ) {s j ty q off:Nat} {i:Int} {xs:List (D.T q)} {h:Option (Int×Nat×Nat)} {sl:Slot} {ver:Nat} {cp:Option Nat} {fps:List (List Nat)} (ho:fnd ts.o s=some (.deep ty q xs h)) (h1:ρ[s]? = some sl) (hk:sl.k=some j)
  (q1:sl.ws.length=xs.length) (e1:sl.v = .hs F.lv j ver 0 sl.ws.length false) (e2:σ.H.L[j]? = some (some (.arr ver ty (D.len (.st q)) sl.ws cp))) (e3:fps.length=xs.length) (e4:sl.fp=fps.flatten) (e5:sl.fp.Nodup)
  (e6:∀(n:Nat) (x:D.T q) (w:V) (c:List Nat),xs[n]? = some x->sl.ws[n]? = some w->fps[n]? = some c->EO D ρ F.lv σ.H.L q h n x w c) (hh:h=none∨∃c',h=some (i,off,c')) {y:D.T q} (p1:0<=i) (p2:xs[i.toNat]? = some y) (how:(D.ow q off).isSome=true)
  {c:Nat} {slc:Slot} (hc:ρ[c]? = some slc) (hcl:slc.v.leaf=true) {vs:List V} {cs:List (List Nat)} (b1:sl.ws[i.toNat]? = some (.agg vs)) (b2:vs.length=(D.fl q).length) (b3:cs.length=(D.fl q).length) (b4:fps[i.toNat]? = some cs.flatten) (hoff:off<(D.fl q).length)
  (b5:∀(f:Nat) (p:(t:DTy)×t.S D.T) (u:V) (b:List Nat),HL.nth (D.fl q) (D.get q y) f=some p->vs[f]? = some u->cs[f]? = some b->f≠off->DO D F.lv σ.H.L (ydz (D.ow q f)) p.1 p.2 u b) :
  TRr D F (ρ++[⟨sl.v,some j,sl.ws.set i.toNat (.agg (vs.set off slc.v)),(fps.set i.toNat (cs.set off []).flatten).flatten⟩]) (ts.zso D s (.deep ty q xs (some (i,off,c)))) {σ with H:={σ.H with L:=σ.H.L.set j (some (.arr ver ty (D.len (.st q)) (sl.ws.set i.toNat (.agg (vs.set off slc.v))) cp))}}:=by
 have hlt:i.toNat<xs.length:=(Qaa.1 p2).1;have hjl:=(Qaa.1 e2).1;have hb:cs[off]? = some (cs[off]'(by omega)):=Qab (by omega);have perm0:sl.fp.Perm ((cs[off]'(by omega))++(fps.set i.toNat (cs.set off []).flatten).flatten):=by rw [e4];exact z69 fps i.toNat _ _ _ b4 (z69 cs off _ _ [] hb (by simp))
 have hnd:=(List.nodup_append.1 (perm0.nodup_iff.1 e5)).2.1;have hin2:∀n,n∈(fps.set i.toNat (cs.set off []).flatten).flatten->n∈sl.fp:=λn h=>perm0.mem_iff.2 (List.mem_append_right _ h)
 let ws':=sl.ws.set i.toNat (.agg (vs.set off slc.v))
 let sl':Slot:=⟨sl.v,some j,ws',(fps.set i.toNat (cs.set off []).flatten).flatten⟩
 have hL':∀n∈sl.fp,(σ.H.L.set j (some (.arr ver ty (D.len (.st q)) ws' cp)))[n]? = σ.H.L[n]? := λn hn=>by
  rw [Qak (λe=>(hR.fpl s _ sl n ho trivial h1 hn).1 (by rw [hk,e]))]
 have hor:OR D (ρ++[sl']) F.lv (σ.H.L.set j (some (.arr ver ty (D.len (.st q)) ws' cp))) sl' (.deep ty q xs (some (i,off,c))):=by
  simp only [OR];refine ⟨by simp [sl',ws',q1],ver,cp,fps.set i.toNat (cs.set off []).flatten,by simp [sl',ws',e1],by simp [sl',hjl],by simpa using e3,rfl,hnd,λm x w' c' m1 m2 m3 => ?_,λn' f' s' e => ?_⟩
  ·have hcL:∀n∈c',(σ.H.L.set j (some (.arr ver ty (D.len (.st q)) ws' cp)))[n]? = σ.H.L[n]? := λn hn=>hL' n (hin2 n (List.mem_flatten.2 ⟨c',Qav m3,hn⟩))
   refine EO.mono (L:=σ.H.L) [sl'] ?_ hcL;by_cases hm:i.toNat=m
   ·subst hm
    rw [p2] at m1;injection m1 with m1;subst m1
    rw [Qao (by omega)] at m3;injection m3 with m3;subst m3
    simp only [sl',ws'] at m2
    rw [Qao (by omega)] at m2;injection m2 with m2;subst m2
    refine ⟨vs.set off slc.v,cs.set off [],rfl,by simpa using b2,by simpa using b3,rfl,λf' p' u' b' r1 r2 r3 => ?_⟩;by_cases hff:off=f'
    ·subst hff;rw [show z0b (some (i,off,c)) i.toNat off=some c by simp [z0b]];rw [Qao (by omega)] at r2 r3;injection r2 with r2;injection r3 with r3;subst r2;subst r3;exact ⟨rfl,how,hcl,slc,hc,rfl⟩
    ·rw [show z0b (some (i,off,c)) i.toNat f'=none by simp [z0b];exact hff];rw [Qak hff] at r2 r3;exact b5 f' p' u' b' r1 r2 r3 (λe=>hff e.symm)
   ·simp only [sl',ws'] at m2;rw [Qak hm] at m2 m3;have:=e6 m x w' c' m1 m2 m3
    have hno:EO D ρ F.lv σ.H.L q none m x w' c':=by
     rcases hh with rfl|⟨c2,rfl⟩
     ·exact this
     ·obtain ⟨vs',cs',d1,d2,d3,d4,d5⟩:=this;refine ⟨vs',cs',d1,d2,d3,d4,λf' p' u' b' r1 r2 r3 => ?_⟩;have:=d5 f' p' u' b' r1 r2 r3;rw [show z0b (some (i,off,c2)) m f'=none by simp [z0b];exact λe=>(hm e).elim] at this;exact this
    exact hno.zxa _ λn' f' s' e=>(by injection e with e;injection e with e e';subst e;exact hm)
  ·injection e with e;injection e with e e';subst e;exact ⟨p1,hlt⟩
 have hm:=hR.move ho trivial h1 hk (.deep ty q xs (some (i,off,c))) (.arr ver ty (D.len (.st q)) ws' cp) sl' rfl hor hin2;exact hm.z7g (TV.ren D s ts.nx) λx v hxv=>VR.ren (lookup_append h1) (sl':=sl') (by rw [<-hR.nx];simp) rfl hxv
theorem yed (hR:TRr D F ρ ts σ) {s j ty q:Nat} {i:Int} {xs:List (D.T q)} {sl:Slot} {ver:Nat} {cp:Option Nat} {fps:List (List Nat)} (ho:fnd ts.o s=some (.deep ty q xs none)) (h1:ρ[s]? = some sl) (hk:sl.k=some j)
  (q1:sl.ws.length=xs.length) (e1:sl.v = .hs F.lv j ver 0 sl.ws.length false) (e2:σ.H.L[j]? = some (some (.arr ver ty (D.len (.st q)) sl.ws cp))) (e3:fps.length=xs.length) (e4:sl.fp=fps.flatten) (e5:sl.fp.Nodup)
  (e6:∀(n:Nat) (x:D.T q) (w:V) (c:List Nat),xs[n]? = some x->sl.ws[n]? = some w->fps[n]? = some c->EO D ρ F.lv σ.H.L q none n x w c) (p1:0<=i) (hlt:i.toNat<xs.length) {x:HL D.T (D.fl q)} {hole:Option (Nat×Nat)} {us:List V} (hl:us.length=(D.fl q).length)
  (hrow:∀(f:Nat) (p:(t:DTy)×t.S D.T) (u:V),HL.nth (D.fl q) x f=some p->us[f]? = some u->zkk D ρ F.lv σ.H.L q f hole p u) :
  TRr D F (ρ++[⟨sl.v,some j,sl.ws.set i.toNat (.agg us),(fps.set i.toNat []).flatten⟩]) (ts.zso D s (.deep ty q (xs.set i.toNat (D.make q x)) (hole.map λp=>(i,p.1,p.2)))) {σ with H:={σ.H with L:=σ.H.L.set j (some (.arr ver ty (D.len (.st q)) (sl.ws.set i.toNat (.agg us)) cp))}}:=by
 have hjl:=(Qaa.1 e2).1;have b4:fps[i.toNat]? = some (fps[i.toNat]'(by omega)):=Qab (by omega);have perm0:sl.fp.Perm ((fps[i.toNat]'(by omega))++(fps.set i.toNat []).flatten):=by rw [e4];exact z69 fps i.toNat _ _ [] b4 (by simp)
 have hnd:=(List.nodup_append.1 (perm0.nodup_iff.1 e5)).2.1;have hin2:∀n,n∈(fps.set i.toNat []).flatten->n∈sl.fp:=λn h=>perm0.mem_iff.2 (List.mem_append_right _ h)
 let ws':=sl.ws.set i.toNat (.agg us)
 let sl':Slot:=⟨sl.v,some j,ws',(fps.set i.toNat []).flatten⟩
 have hL':∀n∈sl.fp,(σ.H.L.set j (some (.arr ver ty (D.len (.st q)) ws' cp)))[n]? = σ.H.L[n]? := λn hn=>by
  rw [Qak (λe=>(hR.fpl s _ sl n ho trivial h1 hn).1 (by rw [hk,e]))]
 have hor:OR D (ρ++[sl']) F.lv (σ.H.L.set j (some (.arr ver ty (D.len (.st q)) ws' cp))) sl' (.deep ty q (xs.set i.toNat (D.make q x)) (hole.map λp=>(i,p.1,p.2))):=by
  simp only [OR];refine ⟨by simp [sl',ws',q1],ver,cp,fps.set i.toNat [],by simp [sl',ws',e1],by simp [sl',hjl],by simpa using e3,rfl,hnd,λm x' w' c' m1 m2 m3 => ?_,λn' f' s' e => ?_⟩
  ·have hcL:∀n∈c',(σ.H.L.set j (some (.arr ver ty (D.len (.st q)) ws' cp)))[n]? = σ.H.L[n]? := λn hn=>hL' n (hin2 n (List.mem_flatten.2 ⟨c',Qav m3,hn⟩))
   refine EO.mono (L:=σ.H.L) [sl'] ?_ hcL;simp only [sl',ws'] at m2;by_cases hm:i.toNat=m
   ·subst hm;rw [Qao (by omega)] at m1 m2 m3;injection m1 with m1;injection m2 with m2;injection m3 with m3;subst m1;subst m2;subst m3;exact yfp hD rfl hl hrow
   ·rw [Qak hm] at m1 m2 m3
    exact (e6 m x' w' c' m1 m2 m3).zxa _ λn' f' s' e=>(by
     rw [Qae] at e;obtain ⟨g,_,e⟩:=e
     injection e with e e';subst e;exact hm)
  ·rw [Qae] at e;obtain ⟨g,_,e⟩:=e;injection e with e e';subst e;exact ⟨p1,by simpa using hlt⟩
 have hm:=hR.move ho trivial h1 hk (.deep ty q (xs.set i.toNat (D.make q x)) (hole.map λp=>(i,p.1,p.2))) (.arr ver ty (D.len (.st q)) ws' cp) sl' rfl hor hin2;exact hm.z7g (TV.ren D s ts.nx) λx v hxv=>VR.ren (lookup_append h1) (sl':=sl') (by rw [<-hR.nx];simp) rfl hxv
theorem y2z {R:Type} (hR:TRr D F ρ ts σ) {t s ty q off:Nat} {i:Int} {xs:List (D.T q)} {hh:Option (Int×Nat×Nat)} {x:TV D.T} {va vx:V} {k:TV D.T->TS D.T->Option R} {kf:Nat->Option R} {r:R} (h:y7j D ts ty q xs hh s i off x k kf=some r) (ho:fnd ts.o s=some (.deep ty q xs hh))
  (ha:VR D ρ F.lv (.dp s i off) va) (hx:VR D ρ F.lv x vx) (hs:x.zze=true) (hcond:(vx.zze&&(P.info? t).isSome&&vx.cells.length==P.cellsOf t)=true) :
  (∃z ts' v H' ρ',zc7 P σ.H t va vx=some (v,H')∧VR D ρ' F.lv z v∧TRr D F ρ' ts' {σ with H:=H'}∧k z ts'=some r)∨∃s,kf s=some r:=by
 simp only [VR] at ha;obtain ⟨sl,j',ver',m,h1,g1,g2,g3,rfl⟩:=ha;obtain ⟨sl',k1,k2⟩:=hR.ob s _ ho
 rw [h1] at k1;injection k1 with k1;subst k1
 simp only [OR] at k2;obtain ⟨q1,q3⟩:=k2
 have base:∀{y:D.T q},xs[i.toNat]? = some y->∃(j ver:Nat) (cp:Option Nat) (fps:List (List Nat)),sl.k=some j∧sl.v = .hs F.lv j ver 0 sl.ws.length false∧σ.H.L[j]? = some (some (.arr ver ty (D.len (.st q)) sl.ws cp))∧fps.length=xs.length∧sl.fp=fps.flatten∧sl.fp.Nodup ∧
   (∀(n:Nat) (x:D.T q) (w:V) (c:List Nat),xs[n]? = some x->sl.ws[n]? = some w->fps[n]? = some c->EO D ρ F.lv σ.H.L q hh n x w c)∧j'=j∧ver'=ver:=λ{y} p2=>by
  cases hk:sl.k with
  |none=>rw [hk] at q3;rw [q3.1] at p2;simp at p2
  |some j=>
   rw [hk] at q3;obtain ⟨ver,cp,fps,e1,e2,e3,e4,e5,e6,e7⟩:=q3;have g1':=g1
   rw [e1] at g1';injection g1' with _ a1 a4 _ a5
   exact ⟨j,ver,cp,fps,rfl,e1,e2,e3,e4,e5,e6,a1.symm,a4.symm⟩
 unfold y7j at h;split at h
 ·rename_i c;simp only [VR] at hx;obtain ⟨slc,c1,rfl,c3⟩:=hx;have hvc:slc.v.cells=[slc.v]:=by cases hv:slc.v <;> first|rfl|(rw [hv] at c3;simp [V.leaf] at c3)
  split at h
  ·rename_i ty' how hblt;have hofl:off<(D.fl q).length:=Nat.le_of_ble_eq_true hblt
   have core:(hh=none∨∃c',hh=some (i,off,c'))->∀{y:D.T q},ix xs i=some y->k .any (ts.zso D s (.deep ty q xs (some (i,off,c))))=some r->∃z ts' v H' ρ',zc7 P σ.H t (.ap F.lv j' ver' i.toNat off) slc.v=some (v,H')∧VR D ρ' F.lv z v∧TRr D F ρ' ts' {σ with H:=H'}∧k z ts'=some r:=λhhc {y} hy hk'=>by
    obtain ⟨p1,p2⟩:=zh5 hy;obtain ⟨j,ver,cp,fps,hk,e1,e2,e3,e4,e5,e6,rfl,rfl⟩:=base p2;have hlt:i.toNat<xs.length:=(Qaa.1 p2).1;have hw:sl.ws[i.toNat]? = some (sl.ws[i.toNat]'(by omega)):=Qab (by omega);have hc0:fps[i.toNat]? = some (fps[i.toNat]'(by omega)):=Qab (by omega);obtain ⟨vs,cs,b1,b2,b3,b4,b5⟩:=e6 i.toNat y _ _ p2 hw hc0
    rw [b1] at hw;rw [b4] at hc0
    have hsp:kzs vs off slc.v.cells=vs.set off slc.v:=by
     rw [hvc];unfold kzs;rw [List.set_eq_take_append_cons_drop,Qbp (by omega)];simp
    refine ⟨.any,_,.any,σ.H.set F.lv j' (.arr ver' ty (D.len (.st q)) (sl.ws.set i.toNat (.agg (vs.set off slc.v))) cp),ρ++[⟨sl.v,some j',sl.ws.set i.toNat (.agg (vs.set off slc.v)),(fps.set i.toNat (cs.set off []).flatten).flatten⟩],?_,by simp only [VR],?_,hk'⟩
    ·unfold zc7;rw [Qbp hcond];simp only [hR.get e2,if_true,hw];rw [Qbp ⟨by rw [hvc];show off+1<=vs.length;omega,rfl⟩];show some (V.any,σ.H.set F.lv j' (.arr ver' ty (D.len (.st q)) (sl.ws.set i.toNat (.agg (kzs vs off slc.v.cells))) cp))=_;rw [hsp]
    ·rw [hR.ztm];refine yb6 hD hR ho h1 hk q1 e1 e2 e3 e4 e5 e6 hhc p1 p2 (by rw [how];rfl) c1 c3 hw b2 b3 hc0 hofl λf p u b t1 t2 t3 hne => ?_
     have:=b5 f p u b t1 t2 t3
     have hno:z0b hh i.toNat f=none:=by
      rcases hhc with rfl|⟨c',rfl⟩
      ·rfl
      ·simp [z0b];exact λe=>hne e.symm
     rw [hno] at this;exact this
   split at h
   ·obtain ⟨y,hy,h⟩:=z0u h;exact .inl (core (.inl rfl) hy h)
   ·rename_i p;obtain ⟨n,f',c'⟩:=p;split at h
    ·rename_i hff;have hff:f'=off:=Qah hff;subst hff;obtain ⟨_,hs,h⟩:=z0u h
     have hni:n=i:=by
      unfold y3q at hs;split at hs
      ·rename_i e;exact e
      ·cases hs
     subst hni;obtain ⟨y,hy,h⟩:=z0u h;exact .inl (core (.inr ⟨c',rfl⟩) hy h)
    ·exact .inr ⟨s,h⟩
  ·cases h
 ·rename_i cells;simp only [VR] at hx;obtain ⟨us,rfl,hx⟩:=hx;split at h
  ·split at h
   ·split at h
    ·rename_i rr hrr;obtain ⟨y,hy,h⟩:=z0u h;obtain ⟨p1,p2⟩:=zh5 hy;obtain ⟨j,ver,cp,fps,hk,e1,e2,e3,e4,e5,e6,rfl,rfl⟩:=base p2;have hlt:i.toNat<xs.length:=(Qaa.1 p2).1;obtain ⟨a1,a2,a3⟩:=zk0 (L:=σ.H.L) hrr hx;have hw:sl.ws[i.toNat]? = some (sl.ws[i.toNat]'(by omega)):=Qab (by omega)
     obtain ⟨vs,cs,b1,b2,b3,b4,b5⟩:=e6 i.toNat y _ _ p2 hw (Qab (show i.toNat<fps.length by omega));rw [b1] at hw;have hul:us.length=(D.fl q).length:=by rw [<-hx.length];exact a1
     have hsp:kzs vs 0 us=us:=by
      unfold kzs;simp [List.drop_eq_nil_of_le (show vs.length<=us.length by omega)]
     refine .inl ⟨.any,_,.any,σ.H.set F.lv j' (.arr ver' ty (D.len (.st q)) (sl.ws.set i.toNat (.agg us)) cp),ρ++[⟨sl.v,some j',sl.ws.set i.toNat (.agg us),(fps.set i.toNat []).flatten⟩],?_,by simp only [VR],?_,h⟩
     ·unfold zc7;rw [Qbp hcond];simp only [hR.get e2,if_true,hw];rw [Qbp ⟨by show 0+us.length<=vs.length;omega,rfl⟩];show some (V.any,σ.H.set F.lv j' (.arr ver' ty (D.len (.st q)) (sl.ws.set i.toNat (.agg (kzs vs 0 us))) cp))=_;rw [hsp]
     ·rw [hR.ztm]
      exact yed hD hR ho h1 hk q1 e1 e2 e3 e4 e5 e6 p1 hlt hul λf p u t1 t2=>by
       have:=a3 f p u t1 t2;rwa [Nat.zero_add] at this
    ·exact .inr ⟨_,h⟩
    ·cases h
   ·exact .inr ⟨s,h⟩
  ·cases h
 ·cases h
theorem y77 {R:Type} (hR:TRr D F ρ ts σ) {t:Nat} {a x:TV D.T} {va vx:V} {k:TV D.T->TS D.T->Option R} {kf:Nat->Option R} {r:R} (h:zyq P D ts t a x k kf=some r) (ha:VR D ρ F.lv a va) (hx:VR D ρ F.lv x vx) :
  (∃z ts' v H' ρ',zc7 P σ.H t va vx=some (v,H')∧VR D ρ' F.lv z v∧TRr D F ρ' ts' {σ with H:=H'}∧k z ts'=some r)∨∃s,kf s=some r:=by
 unfold zyq at h;split at h
 ·rename_i hc;simp only [Qaf,Qbh] at hc;obtain ⟨⟨c1,c2⟩,c3⟩:=hc;have hcells:=hx.cells c1
  have hcond:(vx.zze&&(P.info? t).isSome&&vx.cells.length==P.cellsOf t)=true:=by
   simp only [Qaf,Qbh];exact ⟨⟨hx.zze c1,c2⟩,by rw [<-hcells.length];exact c3⟩
  split at h
  ·rename_i s off;simp only [VR] at ha;obtain ⟨sl,i,h1,h2,rfl⟩:=ha;split at h
   ·rename_i cs ho;split at h
    ·rename_i hoff;left;obtain ⟨sl',k1,k2⟩:=hR.ob s _ ho
     rw [h1] at k1;injection k1 with k1;subst k1
     simp only [OR] at k2;obtain ⟨i',vs,q1,q2,q3⟩:=k2
     rw [h2] at q1;injection q1 with q1;subst q1
     have hlt:=(Qaa.1 q2).1;refine ⟨.any,_,.any,σ.H.set F.lv i (.cells (kzs vs off vx.cells)),ρ,?_,by simp only [VR],?_,h⟩
     ·unfold zc7;rw [Qbp hcond];simp only [hR.get q2];rw [Qbp (by rw [<-hcells.length,<-q3.length];exact hoff)]
     ·rw [hR.ztm];exact hR.upd ho trivial h1 h2 _ _ (by simp only [OR];exact ⟨i,_,h2,by simp [hlt],q3.kzs hcells off⟩)
    ·cases h
   ·cases h
  ·rename_i s τ i y off;simp only [VR] at ha;obtain ⟨sl,w,h1,h2,h3,h4,h5⟩:=ha;split at h
   ·rename_i ty τ' xs ho;split at h
    ·rename_i hoff;obtain ⟨sl',k1,k2⟩:=hR.ob s _ ho
     rw [h1] at k1;injection k1 with k1;subst k1
     simp only [OR] at k2;obtain ⟨q1,q2,q3⟩:=k2;obtain ⟨rfl,hnat,hoff⟩:=hoff;split at h
     ·rename_i z hz;left;obtain ⟨d1,d2,d3⟩:=DR.z4n hD h4 hx c1 hoff hz hnat
      cases hk:sl.k with
      |none=>
       rw [hk] at q3
       rcases q3 with ⟨e1,e2⟩|⟨e1,e2⟩
       · rw [e2] at h3;simp at h3
       · rw [e2 trivial] at h3;simp at h3
      |some j=>
       rw [hk] at q3 h5;obtain ⟨ver,cp,e1,e2⟩:=q3;obtain ⟨ver',n,e3,rfl⟩:=h5
       rw [e1] at e3;injection e3 with _ _ e3 _ e4;subst e3;subst e4
       have hlt:=(Qaa.1 e2).1;have hit:=(Qaa.1 h3).1
       let ws':=sl.ws.set i.toNat (Go.Ab.z4n w (kzs w.cells off vx.cells))
       let sl':Slot:=⟨sl.v,some j,ws',[]⟩
       have hor:OR D (ρ++[sl']) F.lv (σ.H.L.set j (some (.arr ver ty (D.len τ) ws' cp))) sl' (.acc ty τ (xs.set i.toNat z) true):=by
        simp only [OR];refine ⟨by simp [sl',ws',q1],λa x' v' ha hv' => ?_,ver,cp,by simp [sl',ws',e1],by simp [sl',hlt]⟩;simp only [sl',ws'] at hv';by_cases hia:i.toNat=a
        · subst hia;rw [Qao (by rw [<-q1];exact hit)] at ha;rw [Qao hit] at hv';injection ha with ha;injection hv' with hv';subst ha;subst hv';exact d1
        · rw [Qak hia] at ha hv';exact q2 a x' v' ha hv'
       have hm:=hR.move ho trivial h1 hk (.acc ty τ (xs.set i.toNat z) true) (.arr ver ty (D.len τ) ws' cp) sl' rfl hor;refine ⟨.any,_,.any,σ.H.set F.lv j (.arr ver ty (D.len τ) ws' cp),ρ++[sl'],?_,by simp only [VR],?_,h⟩
       · unfold zc7;rw [Qbp hcond];simp only [hR.get e2,if_true,h3];rw [Qbp ⟨d3,d2⟩]
       · rw [hR.ztm];have:=hm.z7g (TV.ren D s ts.nx) λx v hxv=>VR.ren (lookup_append h1) (sl':=sl') (by rw [<-hR.nx];simp) rfl hxv
         exact this
     ·exact .inr ⟨_,h⟩
     ·cases h
    ·cases h
   ·cases h
  ·rename_i s i off;simp only [VR] at ha;obtain ⟨sl,j',ver',m,h1,g1,g2,g3,rfl⟩:=ha;split at h
   ·rename_i ty q xs hh ho;split at h
    ·rename_i hoff;obtain ⟨hflat,hoff⟩:=hoff;obtain ⟨y,hy,h⟩:=z0u h;obtain ⟨sl',k1,k2⟩:=hR.ob s _ ho
     rw [h1] at k1;injection k1 with k1;subst k1
     simp only [OR] at k2;obtain ⟨q1,q3⟩:=k2;obtain ⟨p1,p2⟩:=zh5 hy;have hlt:i.toNat<xs.length:=(Qaa.1 p2).1;split at h
     ·rename_i z hz;left
      cases hk:sl.k with
      |none=>rw [hk] at q3;rw [q3.1] at hlt;simp at hlt
      |some j=>
      rw [hk] at q3;obtain ⟨ver,cp,fps,e1,e2,e3,e4,e5,e6,e7⟩:=q3
      rw [e1] at g1;injection g1 with _ g1 g4 _ g5;subst g1;subst g4
      have hw:sl.ws[i.toNat]? = some (sl.ws[i.toNat]'(by omega)):=Qab (by omega);have hc0:fps[i.toNat]? = some (fps[i.toNat]'(by omega)):=Qab (by omega);obtain ⟨vs,cs,b1,b2,b3,b4,b5⟩:=e6 i.toNat y _ _ p2 hw hc0;have hlen:=hcells.length;have hjl:=(Qaa.1 e2).1
      let w':V:=.agg (kzs vs off vx.cells)
      let ws':=sl.ws.set i.toNat w'
      let sl':Slot:=⟨sl.v,some j,ws',sl.fp⟩
      have hsp:(kzs vs off vx.cells).length=vs.length:=by
       unfold kzs;simp only [Qan,Qaw,List.length_drop];omega
      have hor:OR D (ρ++[sl']) F.lv (σ.H.L.set j (some (.arr ver ty (D.len (.st q)) ws' cp))) sl' (.deep ty q (xs.set i.toNat (D.make q z)) hh):=by
       have hL':∀n∈sl.fp,(σ.H.L.set j (some (.arr ver ty (D.len (.st q)) ws' cp)))[n]? = σ.H.L[n]? := λn hn=>by
        rw [Qak (λe=>(hR.fpl s _ sl n ho trivial h1 hn).1 (by rw [hk,e]))]
       simp only [OR];refine ⟨by simp [sl',ws',q1],ver,cp,fps,by simp [sl',ws',e1],by simp [sl',hjl],by simpa using e3,e4,e5,λa x' u' c' r1 r2 r3 => ?_,λn f s' e=>by have:=e7 n f s' e;simpa using this⟩;have hcL:∀n∈c',(σ.H.L.set j (some (.arr ver ty (D.len (.st q)) ws' cp)))[n]? = σ.H.L[n]? := λn hn=>hL' n (by rw [e4];exact List.mem_flatten.2 ⟨c',Qav r3,hn⟩)
       simp only [sl',ws'] at r2;by_cases hia:i.toNat=a
       ·subst hia;rw [Qao hlt] at r1;rw [Qao (by omega)] at r2;injection r1 with r1;injection r2 with r2;subst r1;subst r2
        rw [hc0] at r3;injection r3 with r3;subst r3
        refine EO.mono (L:=σ.H.L) [sl'] ⟨_,cs,rfl,by rw [hsp];exact b2,b3,b4,λf p u b t1 t2 t3 => ?_⟩ hcL;rw [hD.getMake] at t1;obtain ⟨c,u1,u2⟩:=zrk hz f p t1;have hf:=(HL.z9v _ _ _ _ t1).1;by_cases hin:off<=f∧f<off+x.cells.length
        ·have hown:D.ow q f=none:=by
          have:=Qar.1 hflat (f-off) (List.mem_range.2 (by omega));rw [show off+(f-off)=f by omega] at this;simpa using this
         have hnh:z0b hh i.toNat f=none:=by
          cases hho:z0b hh i.toNat f with
          |none=>rfl
          |some s'=>
           obtain ⟨pf,hpf,_⟩:=HL.zi0 (D.fl q) (D.get q y) f hf;have:=b5 f pf _ _ hpf (Qab (show f<vs.length by omega)) (Qab (show f<cs.length by omega));rw [hho] at this;obtain ⟨_,h9,_⟩:=this;rw [hown] at h9;cases h9
         obtain ⟨pf,hpf,_⟩:=HL.zi0 (D.fl q) (D.get q y) f hf;have hbb:=b5 f pf _ b hpf (Qab (show f<vs.length by omega)) t3;rw [hnh] at hbb ⊢;simp only at hbb ⊢;rw [hown] at hbb ⊢;have hb0:b=[]:=by cases hbb;rfl
         subst hb0
         have v1:x.cells[f-off]? = some c:=by
          unfold zgz at u1;rw [Qaj (by simp only [Qan,Qaw,z5f];omega),Qat (by simp only [Qaw,z5f];omega)] at u1;rw [<-u1];congr 1;simp only [Qaw,z5f];omega
         have v2:vx.cells[f-off]? = some u:=by
          unfold kzs at t2;rw [Qaj (by simp only [Qan,Qaw];omega),Qat (by simp only [Qaw];omega)] at t2;rw [<-t2];congr 1;simp only [Qaw];omega
         exact .dat (zio u2 (hcells.zqa v1 v2))
        ·have v1:(D.leaves (D.fl q) (D.get q y))[f]? = some c:=by
          unfold zgz at u1;by_cases hlo:f<off
          ·rw [Qax,Qaj (by simp only [Qaw,z5f];omega),Qau,Qbp hlo] at u1;exact u1
          ·rw [Qat (by simp only [Qan,Qaw,z5f];omega),Qbb] at u1;rw [<-u1];congr 1;simp only [Qan,Qaw,z5f];omega
         have v2:vs[f]? = some u:=by
          unfold kzs at t2;by_cases hlo:f<off
          ·rw [Qax,Qaj (by simp only [Qaw];omega),Qau,Qbp hlo] at t2;exact t2
          ·rw [Qat (by simp only [Qan,Qaw];omega),Qbb] at t2;rw [<-t2];congr 1;simp only [Qan,Qaw];omega
         rw [ze6,Qae] at v1;obtain ⟨py,v3,v4⟩:=v1
         have hty:py.1=p.1:=by
          have h8:=(HL.z9v _ _ _ _ v3).2;have h9:=(HL.z9v _ _ _ _ t1).2;rw [h8] at h9;injection h9
         obtain ⟨ty1,a1⟩:=py;obtain ⟨ty2,a2⟩:=p;simp only at hty;subst hty;rw [<-v4] at u2;have:=y9t u2;subst this;exact b5 f _ u b v3 v2 t3
       ·rw [Qak hia] at r1 r2;exact EO.mono (L:=σ.H.L) [sl'] (e6 a x' u' c' r1 r2 r3) hcL
      have hm:=hR.move ho trivial h1 hk (.deep ty q (xs.set i.toNat (D.make q z)) hh) (.arr ver ty (D.len (.st q)) ws' cp) sl' rfl hor (λ_ h=>h);refine ⟨.any,_,.any,σ.H.set F.lv j (.arr ver ty (D.len (.st q)) ws' cp),ρ++[sl'],?_,by simp only [VR],?_,h⟩
      ·unfold zc7;rw [Qbp hcond];simp only [hR.get e2,if_true,hw];rw [Qbp ⟨by rw [b1];show off+vx.cells.length<=vs.length;omega,by rw [b1];rfl⟩];rw [b1];rfl
      ·rw [hR.ztm];have:=hm.z7g (TV.ren D s ts.nx) λx v hxv=>VR.ren (lookup_append h1) (sl':=sl') (by rw [<-hR.nx];simp) rfl hxv
       exact this
     ·exact .inr ⟨_,h⟩
     ·cases h
    ·exact y2z hD hR h ho (by simp only [VR];exact ⟨sl,j',ver',m,h1,g1,g2,g3,rfl⟩) hx c1 hcond
   ·cases h
  ·rename_i s;simp only [VR] at ha;obtain ⟨sl,i,h1,h2,rfl⟩:=ha;split at h
   ·rename_i ty b q ho;left;obtain ⟨sl',k1,k2⟩:=hR.ob s _ ho
    rw [h1] at k1;injection k1 with k1;subst k1
    simp only [OR] at k2;obtain ⟨i',u,c,q1,q2,q3,q4⟩:=k2
    rw [h2] at q1;injection q1 with q1;subst q1
    have hlt:=(Qaa.1 q2).1
    have hxl:vx.cells=[vx]:=by
     have h3:=hx;simp only [VR] at h3;obtain ⟨_,_,_,h4⟩:=h3
     cases vx <;> first|rfl|(simp [V.leaf] at h4)
    refine ⟨.any,_,.any,σ.H.set F.lv i (.arr 0 ty 2 [.agg [u,vx]] (some 1)),ρ,?_,by simp only [VR],?_,h⟩
    ·unfold zc7;rw [Qbp hcond];simp only [hR.get q2,if_true,Qbu];rw [Qbp (by rw [hxl];exact ⟨by simp [V.cells],rfl⟩),hxl];rfl
    ·rw [hR.ztm];exact hR.upd ho trivial h1 h2 _ _ (by simp only [OR];exact ⟨i,u,vx,h2,by simp [hlt],q3,hx⟩)
   ·cases h
  ·cases h
 ·cases h
def DRL (D:Dat) (t:DTy) (xs:List (t.S D.T)) (ws:List V):Prop:=ws.length=xs.length∧∀(j:Nat) (x:t.S D.T) (w:V),xs[j]? = some x->ws[j]? = some w->DR D t x w
omit hD in
theorem DRL.append {t:DTy} {xs ys:List (t.S D.T)} {ws us:List V} (h:DRL D t xs ws) (k:DRL D t ys us):DRL D t (xs++ys) (ws++us):=by
 refine ⟨by simp [h.1,k.1],λj x w hx hw => ?_⟩;rw [Qba] at hx hw;rw [h.1] at hw;split at hx
 ·rw [Qbp ‹_›] at hw;exact h.2 j x w hx hw
 ·rw [Qbq ‹_›] at hw;exact k.2 _ x w hx hw
omit hD in
theorem DRL.nil (t:DTy):DRL D t ([]:List (t.S D.T)) []:=⟨rfl,λj x w hx=>by simp at hx⟩
omit hD in
theorem yca (hR:TRr D F ρ ts σ) {τ:DTy} {x:TV D.T} {vx:V} {ys:List (τ.S D.T)} (h:tSrc D ts τ x=some ys) (hx:VR D ρ F.lv x vx):∃us,zia σ.H (D.len τ) vx=some us∧DRL D τ ys us:=by
 unfold tSrc at h;split at h
 ·injection h with h;subst h;simp only [VR] at hx;subst hx;exact ⟨[],rfl,DRL.nil _⟩
 ·rename_i t xs fl;obtain ⟨rfl,rfl⟩:=z3b h;simp only [VR] at hx;obtain ⟨hx,_⟩:=hx
  cases hx with
  |nil=>exact ⟨[],rfl,DRL.nil _⟩
  |sl _ _ ws full hl hh=>exact ⟨ws,by simp [zia,z6r],hl,hh⟩
 ·rename_i s;split at h
  ·rename_i ty t xs w ho;obtain ⟨rfl,rfl⟩:=z3b h;simp only [VR] at hx;obtain ⟨sl,h1,rfl,hleaf⟩:=hx;obtain ⟨sl',k1,k2⟩:=hR.ob s _ ho
   rw [h1] at k1;injection k1 with k1;subst k1
   simp only [OR] at k2;obtain ⟨q1,q2,q3⟩:=k2;refine ⟨sl.ws,?_,q1,q2⟩
   cases hk:sl.k with
   |none=>
    rw [hk] at q3
    rcases q3 with ⟨e1,e2⟩|⟨e1,e2⟩
    · rw [e1,e2];rfl
    · rw [e1.1];simp [zia,z6r]
   |some j=>
    rw [hk] at q3;obtain ⟨ver,cp,e1,e2⟩:=q3;rw [e1];simp [zia,z6r,hR.get e2]
  ·cases h
 ·rename_i s;split at h
  ·injection h with h;subst h;simp only [VR] at hx;subst hx;refine ⟨s.map λb=>.int .u8 b.toNat,by simp [zia,Dat.len],?_,λj x w hx hw => ?_⟩
   ·rw [Qaz];show s.length=(ycm s).length;rw [ycm,Qaz]
   ·replace hx:(s.map λb=>((b.toNat:Nat):Int))[j]? = some x:=hx;rw [Qal] at hx hw
    cases hb:s[j]? with
    |none=>rw [hb] at hx;cases hx
    |some b=>
     rw [hb] at hx hw;injection hx with hx;injection hw with hw;subst hx;subst hw;exact .int .u8 _
  ·cases h
 ·cases h
omit hD in
theorem zid (hR:TRr D F ρ ts σ) {τ:DTy} {e:Nat} {v:V} {xs ys:List (τ.S D.T)} {ws us:List V} {w:Bool} (hx:DRL D τ xs ws) (hy:DRL D τ ys us) (hroom:xs.length+ys.length<=zg2)
  (hv:(v = .nils∧ws=[])∨((v = .sl (D.len τ) ws true∧τ ≠ .int .u8)∧(w=true->ws=[]))) :
  ∃v' H' sl',z10 σ.H e (D.len τ) v us=some (v',H')∧v'.leaf=true∧sl'.v=v'∧TRr D F (ρ++[sl']) (ts.new D (.acc e τ (xs++ys) w)) {σ with H:=H'}∧(∀i,sl'.k=some i->i=σ.H.L.length)∧∀i,sl'.k≠some i->H'.L[i]? = σ.H.L[i]? := by
 have hxy:=hx.append hy
 cases us with
 |nil=>
  have hy0:ys=[]:=Qam (by rw [<-hy.1];rfl);subst hy0;refine ⟨v,σ.H,⟨v,none,ws,[]⟩,?_,?_,rfl,?_,(λi h=>by cases h),λi _=>rfl⟩
  · rcases hv with ⟨rfl,_⟩|⟨⟨rfl,_⟩,_⟩ <;> simp [z10]
  · rcases hv with ⟨rfl,_⟩|⟨⟨rfl,_⟩,_⟩ <;> rfl
  · have:=hR.new (.acc e τ (xs++[]) w) ⟨v,none,ws,[]⟩ σ.H hR.lv hR.E (Qbo _) (λ_ _=>rfl) (by simp) (by simp only [OR,List.append_nil];exact ⟨hx.1,hx.2,hv⟩)
    exact this
 |cons y r=>
  have hlen:ws.length+(y::r).length<=zg2:=by rw [hx.1,hy.1];exact hroom
  refine ⟨.hs F.lv σ.H.L.length 0 0 (ws++y::r).length false,σ.H.push (.arr 0 e (D.len τ) (ws++y::r) none),⟨.hs F.lv σ.H.L.length 0 0 (ws++y::r).length false,some σ.H.L.length,ws++y::r,[]⟩,?_,rfl,rfl,?_,(λi h=>by injection h with h;exact h.symm),λi h => ?_⟩
  · rcases hv with ⟨rfl,rfl⟩|⟨⟨rfl,_⟩,_⟩
    · simp only [z10];rw [Qbp (by simpa using hlen)];simp [hR.lv]
    · simp only [z10,if_true];rw [Qbp (by simpa using hlen)];simp [hR.lv]
  · exact hR.new _ _ _ hR.lv hR.E (by simp [Heap.push]) (λi hi=>by simp only [Heap.push];rw [Qaj hi]) (λi hi=>by injection hi with hi;omega)
     (by simp only [OR];exact ⟨hxy.1,hxy.2,0,none,rfl,by simp [Heap.push]⟩)
  · have hi:i≠σ.H.L.length:=λe=>h (by rw [e])
    simp only [Heap.push];rw [Qba];split
    · rfl
    · rw [Qbw (by simp;omega),Qbw (by omega)]
theorem yhe {q e:Nat} {x:HL D.T (D.fl q)} {hole:Option (Nat×Nat)} {us ws:List V} {xs:List (D.T q)} {fps:List (List Nat)} {L L':List (Option kz2)} (sl':Slot) (q1:ws.length=xs.length) (e3:fps.length=xs.length) (hl:us.length=(D.fl q).length)
  (hrow:∀(f:Nat) (p:(t:DTy)×t.S D.T) (u:V),HL.nth (D.fl q) x f=some p->us[f]? = some u->zkk D ρ lv L q f hole p u) (hL:∀i∈fps.flatten,L'[i]? = L[i]?)
  (e6:∀(n:Nat) (x:D.T q) (w:V) (c:List Nat),xs[n]? = some x->ws[n]? = some w->fps[n]? = some c->EO D ρ lv L q none n x w c) :
  ∀(n:Nat) (y:D.T q) (w:V) (c:List Nat),(xs++[D.make q x])[n]? = some y->(ws++[.agg us])[n]? = some w->(fps++[[]])[n]? = some c->EO D (ρ++[sl']) lv L' q (hole.map λp=>((xs.length:Int),p.1,p.2)) n y w c:=λn y w c h1 h2 h3=>by
 rw [Qba] at h1 h2 h3;by_cases hn:n<xs.length
 ·rw [Qbp hn] at h1;rw [Qbp (by omega)] at h2 h3
  exact EO.mono (L:=L) [sl'] ((e6 n y w c h1 h2 h3).zxa _ λn' f' s' e=>(by
   rw [Qae] at e;obtain ⟨g,_,e⟩:=e;injection e with e e';subst e
   rw [Int.toNat_natCast];omega)) λi hi=>hL i (List.mem_flatten.2 ⟨c,Qav h3,hi⟩)
 ·rw [Qbq hn] at h1;rw [Qbq (by omega)] at h2 h3
  have hn0:n=xs.length:=by
   have:=(Qaa.1 h1).1;simp at this;omega
  subst hn0;rw [Nat.sub_self] at h1;rw [q1,Nat.sub_self] at h2;rw [e3,Nat.sub_self] at h3;simp at h1 h2 h3;subst h1;subst h2;subst h3;exact EO.mono (L:=L) [sl'] (yfp hD (by simp) hl hrow) (by simp)
theorem zw6 {R:Type} (hR:TRr D F ρ ts σ) {t u q:Nat} {s:TV D.T} {cells:List (TV D.T)} {vs vx:V} {k:TV D.T->TS D.T->Option R} {kf:Nat->Option R} {r:R} (h:zx5 P D ts t u s q cells k kf=some r) (hs:VR D ρ F.lv s vs) (hx:VR D ρ F.lv (.bsl q [.agg cells]) vx) :
  (∃z ts' v H' ρ',hAppend P σ.H t u vs vx=some (v,H')∧VR D ρ' F.lv z v∧TRr D F ρ' ts' {σ with H:=H'}∧k z ts'=some r)∨∃s,kf s=some r:=by
 simp only [VR,VRL] at hx;obtain ⟨ws0,rfl,w0,r0,rfl,⟨us,rfl,hx⟩,rfl⟩:=hx;unfold zx5 at h;split at h
 ·rename_i e du hu hdu;split at h
  ·rename_i i hi;split at h
   ·rename_i z hz;split at h
    ·rename_i hc;simp only [Qaf,Qbh,Qap] at hc;obtain ⟨⟨⟨⟨c1,c2⟩,c3⟩,c4⟩,c5⟩:=hc
     have happ:∀v' H',z10 σ.H e (D.len (.st q)) vs [.agg us]=some (v',H')->hAppend P σ.H t u vs (.sl (D.len (.st q)) [.agg us] true)=some (v',H'):=λv' H' ha=>by
      unfold hAppend;rw [hu,hdu];simp only [hi,hz];rw [<-c5,show zia σ.H (D.len (.st q)) (.sl (D.len (.st q)) [.agg us] true)=some [.agg us] by simp [zia,z6r]];simp only;rw [Qbp (by simp only [Qaf,Qbh,Qap];exact ⟨⟨⟨c1,by omega⟩,c3⟩,by omega⟩)];exact ha
     have own:∀(sl':Slot) (v':V),sl'.v=v'->v'.leaf=true->VR D (ρ++[sl']) F.lv (.own ts.nx) v':=λsl' v' h1 h2=>by
      simp only [VR];exact ⟨sl',by rw [<-hR.nx];simp,h1.symm,h2⟩
     split at h
     ·rename_i rr hrr;obtain ⟨a1,a2,a3⟩:=zk0 (L:=σ.H.L) hrr hx;have hul:us.length=(D.fl q).length:=by rw [<-hx.length];exact a1
      have hrow:∀(f:Nat) (p:(t:DTy)×t.S D.T) (u:V),HL.nth (D.fl q) rr.1 f=some p->us[f]? = some u->zkk D ρ F.lv σ.H.L q f rr.2 p u:=λf p u t1 t2=>by
       have:=a3 f p u t1 t2;rwa [Nat.zero_add] at this
      have fresh:1<=zg2->(vs = .nils∨vs = .sl (D.len (.st q)) [] true)->∃v' H' sl',z10 σ.H e (D.len (.st q)) vs [.agg us]=some (v',H')∧v'.leaf=true∧sl'.v=v'∧TRr D F (ρ++[sl']) (ts.new D (.deep e q ([]++[D.make q rr.1]) (rr.2.map λp=>((([]:List (D.T q)).length:Int),p.1,p.2)))) {σ with H:=H'}:=λhroom hv=>by
       refine ⟨.hs F.lv σ.H.L.length 0 0 1 false,σ.H.push (.arr 0 e (D.len (.st q)) [.agg us] none),⟨.hs F.lv σ.H.L.length 0 0 1 false,some σ.H.L.length,[.agg us],[]⟩,?_,rfl,rfl,?_⟩
       ·rcases hv with rfl|rfl
        ·simp only [z10];rw [Qbp (by simpa using hroom)];simp [hR.lv]
        ·simp only [z10,if_true];rw [Qbp (by simpa using hroom)];simp [hR.lv]
       ·refine hR.new _ _ _ hR.lv hR.E (by simp [Heap.push]) (λi hi=>by simp only [Heap.push];rw [Qaj hi]) (λi hi=>by injection hi with hi;omega) ?_;simp only [OR];refine ⟨rfl,0,none,[[]],rfl,by simp [Heap.push],rfl,rfl,List.nodup_nil,?_,λn f s' e => ?_⟩
        ·exact yhe hD (e:=e) (xs:=[]) (ws:=[]) (fps:=[]) (L:=σ.H.L) _ rfl rfl hul hrow (by simp) (λn x w c h=>by simp at h)
        ·rw [Qae] at e;obtain ⟨g,_,e⟩:=e;injection e with e e';subst e;simp
      split at h
      ·obtain ⟨zs,hzs,h⟩:=z0u h;obtain ⟨hroom,rfl⟩:=zqs hzs;simp only [VR] at hs;subst hs;obtain ⟨v',H',sl',b1,b2,b3,b4⟩:=fresh (by simpa using hroom) (.inl rfl);exact .inl ⟨_,_,v',H',_,happ _ _ b1,own sl' v' b3 b2,b4,h⟩
      ·rename_i s;split at h
       ·rename_i e' q' xs' hh ho;split at h
        ·rename_i he;subst he;split at h
         ·split at h
          ·rename_i xs hl;obtain ⟨zs,hzs,h⟩:=z0u h;obtain ⟨hroom,rfl⟩:=zqs hzs;obtain ⟨eq1,eq2⟩:=z3b hl;injection eq1 with eq1;subst eq1;replace eq2:xs'=xs:=eq2.symm;subst eq2;simp only [VR] at hs;obtain ⟨sl,h1,rfl,hleaf⟩:=hs;obtain ⟨sl',k1,k2⟩:=hR.ob s _ ho
           rw [h1] at k1;injection k1 with k1;subst k1
           simp only [OR] at k2;obtain ⟨q1,q3⟩:=k2
           have hsn:∀o,s<(ts.new D o).nx:=λo=>by
            have:=(Qaa.1 h1).1;simp only [TS.new];rw [<-hR.nx];omega
           cases hk:sl.k with
           |none=>
            rw [hk] at q3;obtain ⟨rfl,hv,_,_⟩:=q3;obtain ⟨v',H',sl',b1,b2,b3,b4⟩:=fresh hroom hv
            exact .inl ⟨_,_,v',H',_,happ _ _ b1,own sl' v' b3 b2,b4.drop s (hsn _),h⟩
           |some j=>
            rw [hk] at q3;obtain ⟨ver,cp,fps,e1,e2,e3,e4,e5,e6,e7⟩:=q3;have hlt:=(Qaa.1 e2).1;have hlen:sl.ws.length+[V.agg us].length<=zg2:=by rw [q1];exact hroom
            let sl':Slot:=⟨.hs F.lv j (ver+1) 0 (sl.ws++[V.agg us]).length false,some j,sl.ws++[V.agg us],sl.fp⟩
            have hL':∀n∈sl.fp,(σ.H.L.set j (some (.arr (ver+1) e' (D.len (.st q')) (sl.ws++[V.agg us]) none)))[n]? = σ.H.L[n]? := λn hn=>by
             rw [Qak (λe=>(hR.fpl s _ sl n ho trivial h1 hn).1 (by rw [hk,e]))]
            have hm:=hR.move ho trivial h1 hk (.deep e' q' (xs'++[D.make q' rr.1]) (rr.2.map λp=>((xs'.length:Int),p.1,p.2))) (.arr (ver+1) e' (D.len (.st q')) (sl.ws++[V.agg us]) none) sl' rfl
             (by
               simp only [OR];refine ⟨by simp [sl',q1],ver+1,none,fps++[[]],rfl,by simp [sl',hlt],by simp [e3],by simp [sl',e4],e5,?_,λn f s' e => ?_⟩
               · exact yhe hD (e:=e') (L:=σ.H.L) sl' q1 e3 hul hrow (λn hn=>hL' n (by rw [e4];exact hn)) e6
               · rw [Qae] at e;obtain ⟨g,_,e⟩:=e;injection e with e e';subst e
                 simp) (λ_ h=>h)
            refine .inl ⟨_,_,sl'.v,σ.H.set F.lv j (.arr (ver+1) e' (D.len (.st q')) (sl.ws++[V.agg us]) none),_,happ _ _ ?_,own sl' sl'.v rfl rfl,by rw [hR.ztm];exact hm,h⟩;rw [e1];simp only [z10,hR.get e2,true_and];rw [Qbp hlen];simp [sl']
          ·cases h
         ·exact .inr ⟨s,h⟩
        ·cases h
       ·cases h
      ·cases h
     ·exact .inr ⟨_,h⟩
     ·cases h
    ·cases h
   ·cases h
  ·cases h
 ·cases h
omit hD in
theorem zp1 {R:Type} (hR:TRr D F ρ ts σ) {t u:Nat} {s x:TV D.T} {vs vx:V} {k:TV D.T->TS D.T->Option R} {r:R} (h:y7l P D ts t u s x k=some r) (hs:VR D ρ F.lv s vs) (hx:VR D ρ F.lv x vx) :
  ∃z ts' v H' ρ',hAppend P σ.H t u vs vx=some (v,H')∧VR D ρ' F.lv z v∧TRr D F ρ' ts' {σ with H:=H'}∧k z ts'=some r ∧
   ((∀q,s ≠ .own q)->∃sl' o,ρ'=ρ++[sl']∧ts'=ts.new D o∧o.live∧(∀i,sl'.k=some i->i=σ.H.L.length)∧∀i,sl'.k≠some i->H'.L[i]? = σ.H.L[i]?):=by
 unfold y7l at h;split at h
 ·rename_i e du hu hdu;split at h
  ·rename_i i τ hi hτ;split at h
   ·rename_i z hz;split at h
    ·rename_i hc;simp only [Qaf,Qbh,Qap] at hc;obtain ⟨⟨⟨⟨c1,c2⟩,c3⟩,c4⟩,c5⟩:=hc;split at h
     ·rename_i ys xs w old hys hdst;obtain ⟨zs,hzs,h⟩:=z0u h;obtain ⟨hroom,rfl⟩:=zqs hzs;obtain ⟨us,hus,hyu⟩:=yca hR hys hx
      have happ:∀v' H',z10 σ.H e (D.len τ) vs us=some (v',H')->hAppend P σ.H t u vs vx=some (v',H'):=λv' H' ha=>by
       unfold hAppend;rw [hu,hdu];simp only [hi,hz];rw [<-c5,hus];simp only;rw [Qbp (by simp only [Qaf,Qbh,Qap];exact ⟨⟨⟨c1,by omega⟩,c3⟩,by omega⟩)];exact ha
      have own:∀(sl':Slot) (v':V),sl'.v=v'->v'.leaf=true->VR D (ρ++[sl']) F.lv (.own ts.nx) v':=λsl' v' h1 h2=>by
       simp only [VR];exact ⟨sl',by rw [<-hR.nx];simp,h1.symm,h2⟩
      unfold tDst at hdst;split at hdst
      ·simp only [Qbm,Qbr] at hdst;obtain ⟨rfl,rfl,rfl⟩:=hdst;simp only [VR] at hs;subst hs;obtain ⟨v',H',sl',a1,a2,a3,a4,a5⟩:=zid (e:=e) hR (w:=true) (DRL.nil τ) hyu hroom (.inl ⟨rfl,rfl⟩);exact ⟨_,_,v',H',_,happ _ _ a1,own sl' v' a3 a2,a4,h,λ_=>⟨sl',_,rfl,rfl,trivial,a5⟩⟩
      ·by_cases hu8:τ = .int .u8
       ·rw [Qbp hu8] at hdst;cases hdst
       rw [Qbq hu8,Qae] at hdst;obtain ⟨xs',hl,hdst⟩:=hdst;simp only [Qbr] at hdst;obtain ⟨rfl,rfl,rfl⟩:=hdst;obtain ⟨rfl,rfl⟩:=z3b hl;simp only [VR] at hs;obtain ⟨hs,hf,_⟩:=hs;obtain ⟨ws,rfl⟩:=hf (by omega)
       cases hs with
       |sl _ _ _ _ hl hh=>
        obtain ⟨v',H',sl',a1,a2,a3,a4,a5⟩:=zid (e:=e) hR (w:=false) ⟨hl,hh⟩ hyu hroom (.inr ⟨⟨rfl,hu8⟩,by simp⟩);exact ⟨_,_,v',H',_,happ _ _ a1,own sl' v' a3 a2,a4,h,λ_=>⟨sl',_,rfl,rfl,trivial,a5⟩⟩
      ·by_cases hu8:τ = .int .u8
       ·rw [Qbp hu8] at hdst;cases hdst
       rw [Qbq hu8,Qae] at hdst;obtain ⟨xs',hl,hdst⟩:=hdst;simp only [Qbr] at hdst;obtain ⟨rfl,rfl,rfl⟩:=hdst;obtain ⟨rfl,rfl⟩:=z3b hl;simp only [VR] at hs;obtain ⟨hs,hf,hf2⟩:=hs;obtain ⟨ws,rfl⟩:=hf (by omega);have hx0:=hf2 trivial
       cases hs with
       |sl _ _ _ _ hl hh=>
        obtain ⟨v',H',sl',a1,a2,a3,a4,a5⟩:=zid (e:=e) hR (w:=true) ⟨hl,hh⟩ hyu hroom (.inr ⟨⟨rfl,hu8⟩,λ_=>Qam (by rw [hl,hx0];rfl)⟩);exact ⟨_,_,v',H',_,happ _ _ a1,own sl' v' a3 a2,a4,h,λ_=>⟨sl',_,rfl,rfl,trivial,a5⟩⟩
      ·rename_i s;split at hdst
       ·rename_i e' t' xs' w' ho;split at hdst
        ·rename_i he;subst he;rw [Qae] at hdst;obtain ⟨xs'',hl,hdst⟩:=hdst;simp only [Qbr] at hdst;obtain ⟨rfl,rfl,rfl⟩:=hdst;obtain ⟨rfl,rfl⟩:=z3b hl;simp only [VR] at hs;obtain ⟨sl,h1,rfl,hleaf⟩:=hs;obtain ⟨sl',k1,k2⟩:=hR.ob s _ ho
         rw [h1] at k1;injection k1 with k1;subst k1
         simp only [OR] at k2;obtain ⟨q1,q2,q3⟩:=k2
         have hsn:∀o,s<(ts.new D o).nx:=λo=>by
          have:=(Qaa.1 h1).1;simp only [TS.new];rw [<-hR.nx];omega
         cases hk:sl.k with
         |none=>
          rw [hk] at q3;obtain ⟨v',H',sl',a1,a2,a3,a4,a5⟩:=zid (e:=e') hR (w:=w') ⟨q1,q2⟩ hyu hroom q3
          exact ⟨_,_,v',H',_,happ _ _ a1,own sl' v' a3 a2,a4.drop s (hsn _),h,λq=>(q s rfl).elim⟩
         |some j=>
          rw [hk] at q3;obtain ⟨ver,cp,e1,e2⟩:=q3;have hlt:=(Qaa.1 e2).1;have hxy:=DRL.append ⟨q1,q2⟩ hyu;have hlen:sl.ws.length+us.length<=zg2:=by rw [q1,hyu.1];exact hroom
          let sl':Slot:=⟨.hs F.lv j (ver+1) 0 (sl.ws++us).length false,some j,sl.ws++us,[]⟩
          have hm:=hR.move ho trivial h1 hk (.acc e' _ (_++ys) w') (.arr (ver+1) e' (D.len t') (sl.ws++us) none) sl' rfl
           (by simp only [OR];exact ⟨hxy.1,hxy.2,ver+1,none,rfl,by simp [sl',hlt]⟩)
          refine ⟨_,_,sl'.v,σ.H.set F.lv j (.arr (ver+1) e' (D.len t') (sl.ws++us) none),_,happ _ _ ?_,own sl' sl'.v rfl rfl,by rw [hR.ztm];exact hm,h,λq=>(q s rfl).elim⟩;rw [e1];simp only [z10,hR.get e2,true_and];rw [Qbp hlen];simp [sl']
        ·cases hdst
       ·cases hdst
      ·cases hdst
     ·cases h
    ·cases h
   ·cases h
  ·cases h
 ·cases h
omit hD in
theorem yi5 (hR:TRr D F ρ ts σ) {t:Nat} {τ:DTy}:VR D (ρ++[⟨.any,some σ.H.L.length,[],[]⟩]) F.lv (TV.map ts.nx:TV D.T) (.map σ.H.lv σ.H.L.length)∧TRr D F (ρ++[⟨.any,some σ.H.L.length,[],[]⟩]) (ts.new D (.mp t τ [])) {σ with H:=σ.H.push (.map [])}:=by
 refine ⟨?_,?_⟩
 ·simp only [VR];exact ⟨⟨.any,some σ.H.L.length,[],[]⟩,σ.H.L.length,by rw [<-hR.nx];simp,rfl,by rw [hR.lv]⟩
 ·exact hR.new _ _ _ hR.lv hR.E (by simp [Heap.push]) (λi hi=>by simp only [Heap.push];rw [Qaj hi]) (λi hi=>by injection hi with hi;omega)
   (by simp only [OR];exact ⟨σ.H.L.length,[],rfl,rfl,(by simp),(by simp [Heap.push])⟩)
omit hD in
theorem zxz {R:Type} (hR:TRr D F ρ ts σ) {t:Nat} {r':Option (TV D.T)} {vr:Option V} {k:TV D.T->TS D.T->Option R} {r:R} (h:zwv P D ts t r' k=some r) (h1:∀z,r'=some z->∃v,vr=some v∧VR D ρ F.lv z v) (h2:r'=none->vr=none) :
  ∃z ts' v H' ρ',zmt P σ.H t vr=some (v,H')∧VR D ρ' F.lv z v∧TRr D F ρ' ts' {σ with H:=H'}∧k z ts'=some r:=by
 unfold zwv at h;split at h
 ·rename_i kt e hu;split at h
  ·rename_i τ hτ;obtain ⟨a1,a2⟩:=yi5 hR (t:=t) (τ:=τ);exact ⟨_,_,_,_,_,by rw [h2 rfl];rfl,a1,a2,h⟩
  ·rename_i τ q n hτ;obtain ⟨a1,a2⟩:=yi5 hR (t:=t) (τ:=τ);obtain ⟨v,e1,e2⟩:=h1 _ rfl;simp only [VR] at e2;subst e2;exact ⟨_,_,_,_,_,by rw [e1];simp only [zmt,hu],a1,a2,h⟩
  ·cases h
 ·cases h
theorem zp4 {R:Type} (hR:TRr D F ρ ts σ) {t:Nat} {m key x:TV D.T} {vm vk vx:V} {k:TV D.T->TS D.T->Option R} {r:R} (h:zvs P D ts t m key x k=some r) (hm:VR D ρ F.lv m vm) (hk:VR D ρ F.lv key vk) (hx:VR D ρ F.lv x vx) :
  ∃z ts' v H' ρ',ze1 P σ.H t vm vk vx=some (v,H')∧VR D ρ' F.lv z v∧TRr D F ρ' ts' {σ with H:=H'}∧k z ts'=some r:=by
 unfold zvs at h;split at h
 ·rename_i kt e q s hu;simp only [VR] at hk;subst hk;split at h
  ·rename_i ty τ es hkt ho;split at h
   ·rename_i y hy;simp only [VR] at hm;obtain ⟨sl,i,h1,h2,rfl⟩:=hm;obtain ⟨sl',k1,k2⟩:=hR.ob _ _ ho
    rw [h1] at k1;injection k1 with k1;subst k1
    simp only [OR] at k2;obtain ⟨i',ms,q1,q2,q4,q3⟩:=k2
    rw [h2] at q1;injection q1 with q1;subst q1
    have hv:=zgi hD hy hx;have hlt:=(Qaa.1 q3).1;have hup:=yc0 (P:=P) (f:=λx:τ.S D.T×V=>x.2) (lv:=σ.H.lv) (E:=σ.H.E) hu hkt q3 s (y,vx) rfl;refine ⟨.any,_,.any,{σ.H with L:=σ.H.L.set i (some (.map ((z61 ms s (y,vx)).map λp=>(.str p.1,p.2.2))))},ρ,?_,by simp only [VR],?_,h⟩
    ·rw [<-hR.lv];exact hup
    ·exact hR.upd ho trivial h1 h2 (.mp ty τ (z61 es s y)) (.map ((z61 ms s (y,vx)).map λp=>(.str p.1,p.2.2))) (by
      simp only [OR];refine ⟨i,z61 ms s (y,vx),h2,?_,λp hp => ?_,by simp [hlt]⟩
      ·rw [q2];exact yhz Prod.fst s (y,vx) ms
      ·rcases yhx hp with h|h
       ·rw [h];exact hv
       ·exact q4 p h)
   ·cases h
  ·cases h
 ·cases h
omit hD in
theorem y88 {R:Type} (hR:TRr D F ρ ts σ) {b:Bool} {x:TV D.T} {vx:V} {k:TV D.T->TS D.T->Option R} {r:R} (h:yg5 D ts x b k=some r) (hx:VR D ρ F.lv x vx) :
  ∃z ts' v H' ρ',y3a σ.H vx b=some (v,H')∧VR D ρ' F.lv z v∧TRr D F ρ' ts' {σ with H:=H'}∧k z ts'=some r:=by
 unfold yg5 at h;split at h
 ·rename_i s;simp only [VR] at hx;obtain ⟨sl,i,h1,h2,rfl⟩:=hx;split at h
  ·rename_i l pos ho;obtain ⟨sl',k1,k2⟩:=hR.ob s _ ho
   rw [h1] at k1;injection k1 with k1;subst k1
   simp only [OR] at k2;obtain ⟨i',q1,q2⟩:=k2
   rw [h2] at q1;injection q1 with q1;subst q1
   have hlt:=(Qaa.1 q2).1;rw [zw4] at h;split at h
   ·rename_i hc;have hc':pos<l.length:=Qac hc;refine ⟨_,_,.tup [.bool true,.int .i64 pos,.int .i32 (zhr l pos).1],σ.H.set F.lv i (.siter l (pos+(zhr l pos).2)),ρ,?_,?_,?_,h⟩
    ·simp only [y3a,hR.get q2];rw [Qbp hc']
    ·simp only [VR,VRL];exact ⟨_,rfl,_,_,rfl,rfl,_,_,rfl,rfl,_,_,rfl,rfl,rfl⟩
    ·rw [hR.ztm];exact hR.upd ho trivial h1 h2 _ _ (by simp only [OR];exact ⟨i,h2,by simp [hlt]⟩)
   ·rename_i hc;have hc':¬pos<l.length:=λh=>hc (decide_eq_true h)
    refine ⟨_,_,.tup [.bool false],σ.H,ρ,?_,?_,hR,h⟩
    ·simp only [y3a,hR.get q2];rw [Qbq hc']
    ·simp only [VR,VRL];exact ⟨_,rfl,_,_,rfl,rfl,rfl⟩
  ·cases h
 ·cases h
omit hD in
theorem DRL.take {t:DTy} {xs:List (t.S D.T)} {ws:List V} (h:DRL D t xs ws) (n:Nat):DRL D t (xs.take n) (ws.take n):=by
 refine ⟨by simp [h.1],λj x w hx hw => ?_⟩;rw [Qau] at hx hw;split at hx
 ·rename_i hj;rw [Qbp hj] at hw;exact h.2 j x w hx hw
 ·cases hx
omit hD in
theorem DRL.drop {t:DTy} {xs:List (t.S D.T)} {ws:List V} (h:DRL D t xs ws) (n:Nat):DRL D t (xs.drop n) (ws.drop n):=by
 refine ⟨by simp [h.1],λj x w hx hw => ?_⟩;rw [Qbb] at hx hw;exact h.2 _ x w hx hw
omit hD in
theorem zx4 {R:Type} (hR:TRr D F ρ ts σ) {t:Nat} {x lo:TV D.T} {vx vlo:V} {k:TV D.T->Option R} {kf:Option R} {r:R} (h:tCut P D ts t x lo k kf=some r) (hx:VR D ρ F.lv x vx) (hlo:VR D ρ F.lv lo vlo) :
  (∃z v,zfn P σ.H t vx (some vlo) none none=some v∧VR D ρ F.lv z v∧k z=some r)∨kf=some r:=by
 unfold tCut at h;split at h
 ·rename_i s a;split at h
  ·rename_i e ty τ xs hu ho;split at h
   ·rename_i hc;left;obtain ⟨_,hcut,h⟩:=z0u h;unfold cutO at hcut;split at hcut
    ·rename_i hcut';obtain ⟨c1,c2,c3⟩:=hcut';simp only [VR] at hx hlo;subst hlo;obtain ⟨sl,h1,rfl,hleaf⟩:=hx;obtain ⟨sl',k1,k2⟩:=hR.ob s _ ho
     rw [h1] at k1;injection k1 with k1;subst k1
     simp only [OR] at k2;obtain ⟨q1,q2,q3⟩:=k2
     cases hk:sl.k with
     |none=>
      rw [hk] at q3
      rcases q3 with ⟨_,e2⟩|⟨_,e2⟩
      · rw [e2] at q1;simp at q1;omega
      · rw [e2 trivial] at q1;simp at q1;omega
     |some j=>
      rw [hk] at q3;obtain ⟨ver,cp,e1,e2⟩:=q3;have hp:=zq4 (P:=P) (n:=sl.ws.length) hu hc.1 hc.2 (hR.get e2) (a:=a) c1 (by omega);refine ⟨_,_,by rw [e1];exact hp,?_,h⟩;simp only [VR];refine ⟨sl,j,ver,h1,hk,e1,c1,by omega,?_⟩;split
      · exact .inl rfl
      · exact .inr ⟨by omega,_,rfl⟩
    ·cases hcut
   ·cases h
  ·cases h
 ·exact .inr h
omit hD in
theorem yad {R:Type} (hR:TRr D F ρ ts σ) {t:Nat} {d s:TV D.T} {vd vs:V} {k:TV D.T->TS D.T->Option R} {r:R} (h:yfz P D ts t d s k=some r) (hd:VR D ρ F.lv d vd) (hs:VR D ρ F.lv s vs) :
  ∃z ts' v H' ρ',zqn P σ.H t vd vs=some (v,H')∧VR D ρ' F.lv z v∧TRr D F ρ' ts' {σ with H:=H'}∧k z ts'=some r:=by
 unfold yfz at h;split at h
 ·rename_i s a s' b;split at h
  ·rename_i hss;subst hss;split at h
   ·rename_i e ty τ xs hu ho;split at h
    ·rename_i hc;obtain ⟨ys,hys,h⟩:=z0u h;unfold y57 at hys;split at hys
     ·rename_i hb;injection hys with hys;obtain ⟨b1,b2,b3,b4⟩:=hb;simp only [VR] at hd hs;obtain ⟨sl,j,ver,d1,d2,d3,d4,d5,d6⟩:=hd;obtain ⟨sl1,j1,ver1,f1,f2,f3,f4,f5,f6⟩:=hs
      rw [d1] at f1;injection f1 with f1;subst f1
      rw [d2] at f2;injection f2 with f2;subst f2
      rw [d3] at f3;injection f3 with _ _ f3;subst f3
      obtain ⟨sl',k1,k2⟩:=hR.ob s _ ho
      rw [d1] at k1;injection k1 with k1;subst k1
      simp only [OR] at k2;obtain ⟨q1,q2,q3⟩:=k2;rw [d2] at q3;obtain ⟨ver',cp,e1,e2⟩:=q3
      rw [d3] at e1;injection e1 with _ _ e1;subst e1
      have hlt:=(Qaa.1 e2).1
      have f6':vs = .hs F.lv j ver b.toNat (sl.ws.length-b.toNat) false:=by
       rcases f6 with f6|⟨f6,_⟩
       ·exact f6
       ·omega
      subst f6'
      let n:=min (sl.ws.length-b.toNat) (sl.ws.length-a.toNat)
      let ws':=sl.ws.take a.toNat++((sl.ws.drop b.toNat).take n++sl.ws.drop (a.toNat+n))
      let sl':Slot:=⟨sl.v,some j,ws',[]⟩
      have hwl:ws'.length=sl.ws.length:=by simp only [ws',n,Qan,Qaw,List.length_drop];omega
      have hdrl:DRL D τ ys ws':=by
       rw [<-hys];simp only [ws',n,q1];exact (DRL.take ⟨q1,q2⟩ _).append (((DRL.drop ⟨q1,q2⟩ _).take _).append (DRL.drop ⟨q1,q2⟩ _))
      have hor:OR D (ρ++[sl']) F.lv (σ.H.L.set j (some (.arr ver ty (D.len τ) ws' cp))) sl' (.acc ty τ ys true):=by
       simp only [OR];refine ⟨hdrl.1,hdrl.2,ver,cp,?_,by simp [sl',hlt]⟩;show sl.v = .hs F.lv j ver 0 ws'.length false;rw [hwl];exact d3
      have hm:=hR.move ho trivial d1 d2 (.acc ty τ ys true) (.arr ver ty (D.len τ) ws' cp) sl' rfl hor;have hm2:=hm.z7g (TV.ren D s ts.nx) λx v hxv=>VR.ren (lookup_append d1) (sl':=sl') (by rw [<-hR.nx];simp) rfl hxv
      have hget:=hR.get e2
      rcases d6 with d6|⟨d6,sz,rfl⟩
      ·subst d6;refine ⟨.any,_,.int .i64 (min (sl.ws.length-b.toNat) (sl.ws.length-a.toNat):Nat),σ.H.set F.lv j (.arr ver ty (D.len τ) ws' cp),ρ++[sl'],?_,by simp only [VR],?_,h⟩
       ·simp only [zqn,hu,hget];rw [Qbp hc.2,Qbp ⟨trivial,trivial,trivial⟩,Qbp ⟨trivial,hc.1⟩]
       ·rw [hR.ztm];exact hm2
      ·have hn:n=0:=by simp only [n];omega
       have hws:ws'=sl.ws:=by
        simp only [ws',hn,List.take_zero,List.nil_append,Nat.add_zero,List.take_append_drop]
       have hset:σ.H.L.set j (some (.arr ver ty (D.len τ) ws' cp))=σ.H.L:=by
        rw [hws];refine List.ext_getElem? λq => ?_
        rw [Qbe];split
        ·rename_i hq;rw [<-hq,e2]
        ·rfl
       rw [hset] at hm2;refine ⟨.any,_,.int .i64 0,σ.H,ρ++[sl'],?_,by simp only [VR],hm2,h⟩;simp only [zqn,hu,hget];rw [Qbp hc.2,Qbp trivial]
     ·cases hys
    ·cases h
   ·cases h
  ·cases h
 ·cases h
theorem y3h {R:Type} (hR:TRr D F ρ ts σ) {op:Op} {k:TV D.T->TS D.T->Option R} {kf:Nat->Option R} {r:R} (h:tOp P D ts op k kf=some r) :
  (∃z ts' v H' ρ',ox P σ.H σ.ev op=some (v,H')∧VR D ρ' F.lv z v∧TRr D F ρ' ts' {σ with H:=H'}∧k z ts'=some r)∨∃s,kf s=some r:=by
 have pure:∀{op:Op},tP P D ts op (λv=>k v ts) kf=some r->(∃z ts' v H' ρ',ox P σ.H σ.ev op=some (v,H')∧VR D ρ' F.lv z v∧TRr D F ρ' ts' {σ with H:=H'}∧k z ts'=some r)∨∃s,kf s=some r:=λ{op} h=>by
  rcases zyx hD hR h with ⟨x,v,h1,h2,h3⟩|h
  ·exact .inl ⟨x,ts,v,σ.H,ρ,ya4 h1,h2,hR,h3⟩
  ·exact .inr h
 unfold tOp at h;split at h
 ·split at h
  ·rename_i z hz;split at h
   ·rename_i hs;left;obtain ⟨v,h1,h2⟩:=zhf (ρ:=ρ) (lv:=F.lv) hz;obtain ⟨h3,h4⟩:=hR.zyc hD (h2.cells hs);exact ⟨_,_,_,_,_,by simp only [ox,zyy,h1];rw [Qbp (h2.zze hs)],h4,h3,h⟩
   ·cases h
  ·cases h
 ·split at h
  ·rename_i x hx;split at h
   ·rename_i hs;left;have h2:=hR.ev hx;obtain ⟨h3,h4⟩:=hR.zyc hD (h2.cells hs);exact ⟨_,_,_,_,_,by simp only [ox,ygx];rw [Qbp (h2.zze hs)],h4,h3,h⟩
   ·cases h
  ·cases h
 ·split at h
  ·rename_i ha hx
   rcases y77 hD hR h (hR.ev ha) (hR.ev hx) with ⟨z,ts',v,H',ρ',h1,h2⟩|h
   ·exact .inl ⟨z,ts',v,H',ρ',by simp only [ox];exact h1,h2⟩
   ·exact .inr h
  ·cases h
 ·split at h
  ·rename_i r' hr;left;obtain ⟨a1,a2⟩:=hR.oev hr;obtain ⟨z,ts',v,H',ρ',h1,h2⟩:=zxz hR h a1 a2;exact ⟨z,ts',v,H',ρ',by simp only [ox];exact h1,h2⟩
  ·cases h
 ·split at h
  ·rename_i hm hk hx;left;obtain ⟨z,ts',v,H',ρ',h1,h2⟩:=zp4 hD hR h (hR.ev hm) (hR.ev hk) (hR.ev hx);exact ⟨z,ts',v,H',ρ',by simp only [ox];exact h1,h2⟩
  ·cases h
 ·split at h
  ·rename_i hm hk hx;left;obtain ⟨z,ts',v,H',ρ',h1,h2⟩:=zp4 hD hR h (hR.ev hm) (hR.ev hk) (hR.ev hx);exact ⟨z,ts',v,H',ρ',by simp only [ox];exact h1,h2⟩
  ·cases h
 ·split at h
  ·rename_i str hx;split at h
   ·rename_i hu;left;have h1:=hR.ev hx;simp only [VR] at h1;refine ⟨_,_,.ptr σ.H.lv σ.H.L.length 0,σ.H.push (.siter str 0),ρ++[⟨.any,some σ.H.L.length,[],[]⟩],by simp only [ox,y55,h1,hu],?_,?_,h⟩
    ·simp only [VR];exact ⟨⟨.any,some σ.H.L.length,[],[]⟩,σ.H.L.length,by rw [<-hR.nx];simp,rfl,by rw [hR.lv]⟩
    ·exact hR.new _ _ _ hR.lv hR.E (by simp [Heap.push]) (λi hi=>by simp only [Heap.push];rw [Qaj hi]) (λi hi=>by injection hi with hi;omega)
      (by simp only [OR];exact ⟨σ.H.L.length,rfl,by simp [Heap.push]⟩)
   ·cases h
  ·cases h
 ·split at h
  ·rename_i hi;left;obtain ⟨z,ts',v,H',ρ',h1,h2⟩:=y88 hR h (hR.ev hi);exact ⟨z,ts',v,H',ρ',by simp only [ox];exact h1,h2⟩
  ·cases h
 ·split at h
  ·rename_i c;split at h
   ·rename_i s x t u hcal hargs htys;split at h
    ·rename_i hs hx
     rcases zw6 hD hR h (hR.ev hs) (hR.ev hx) with ⟨z,ts',v,H',ρ',h1,h2⟩|h
     ·exact .inl ⟨z,ts',v,H',ρ',by simp only [ox,hcal,hargs,htys];exact h1,h2⟩
     ·exact .inr h
    ·rename_i hs hx;left;obtain ⟨z,ts',v,H',ρ',h1,h2,h2b,h2c,_⟩:=zp1 hR h (hR.ev hs) (hR.ev hx);replace h2:=And.intro h2 (And.intro h2b h2c);exact ⟨z,ts',v,H',ρ',by simp only [ox,hcal,hargs,htys];exact h1,h2⟩
    ·cases h
   ·rename_i d s t u hcal hargs htys;split at h
    ·rename_i hd hs;left;obtain ⟨z,ts',v,H',ρ',h1,h2⟩:=yad hR h (hR.ev hd) (hR.ev hs);exact ⟨z,ts',v,H',ρ',by simp only [ox,hcal,hargs,htys];exact h1,h2⟩
    ·cases h
   ·exact pure h
  ·exact pure h
end
section
variable {P : Program} {D : Dat} {F : Fr} {ρ : List Slot} {ts : TS D.T} {σ : St} {lv : Nat} {L : List (Option kz2)}
def Slot.all (sl:Slot):List Nat:=sl.k.toList++sl.fp
theorem Slot.znw {sl:Slot} {i:Nat}:i∈sl.all↔sl.has i:=by
 unfold Slot.all Slot.has;rw [List.mem_append]
 cases sl.k with
 |none=>simp
 |some j=>simp [eq_comm]
theorem zq9 {t:DTy} (h:D.zju t=true):∀i f,f<(D.fl i).length->t = .st i->D.ow i f=none:=λi f hf e=>by
 subst e;simp only [Dat.zju,Dat.owns,Bool.not_eq_true'] at h;have:=List.any_eq_false.1 h f (List.mem_range.2 hf)
 cases ho:D.ow i f with
 |none=>rfl
 |some y=>rw [ho] at this;simp at this
theorem yji {ty:Nat} {t:DTy} {xs:List (t.S D.T)} {sl:Slot} (h:OR D ρ lv L sl (.acc ty t xs true)) (ht:D.zju t=true):DO D lv L (.own ty) (.sl t) xs sl.v sl.k.toList:=by
 simp only [OR] at h;obtain ⟨h1,h2,h3⟩:=h
 cases hk:sl.k with
 |none=>
  rw [hk] at h3;have hx:sl.ws=[]->xs=[]:=λe=>Qam (by rw [<-h1,e];rfl)
  rcases h3 with ⟨e1,e2⟩|⟨⟨e1,_⟩,e2⟩
  · have:=hx e2;subst this;rw [e1];exact .nil (.nil _) (.inl rfl)
  · have e3:=e2 trivial;have:=hx e3;subst this;rw [e1,e3]
    exact .nil (.sl _ _ _ _ rfl (λj x w hj=>by simp at hj)) (.inr rfl)
 |some j=>
  rw [hk] at h3;obtain ⟨ver,cp,e1,e2⟩:=h3;rw [e1]
  have hr:([]:List Nat)=(List.replicate xs.length ([]:List Nat)).flatten:=by
   symm;rw [List.flatten_eq_nil_iff];intro l hl;exact (List.mem_replicate.1 hl).2
  show DO D lv L (.own ty) (.sl t) xs _ (j::[]);rw [hr];refine .own e2 h1 (by simp) λn x w c a1 a2 a3 => ?_
  rw [Qbj] at a3;split at a3
  · injection a3 with a3;subst a3;have hdr:=h2 n x w a1 a2
    cases t with
    |st i=>
     cases hdr with
     |st _ _ vs hl h=>
      have hr2:([]:List Nat)=(List.replicate (D.fl i).length ([]:List Nat)).flatten:=by
       symm;rw [List.flatten_eq_nil_iff];intro l hl;exact (List.mem_replicate.1 hl).2
      rw [hr2];refine .el hl (by simp) λf p u b b1 b2 b3 => ?_
      rw [Qbj] at b3;split at b3
      · rename_i hf;injection b3 with b3;subst b3;rw [zq9 ht i f hf rfl];exact .dat (h f p u b1 b2)
      · cases b3
     |enc=>exact .elf (zq9 ht) (.enc i x)
    |_=>exact .elf (λi f _ e=>by cases e) hdr
  · cases a3
theorem y6g {ty q:Nat} {xs:List (D.T q)} {sl:Slot} (h:OR D ρ lv L sl (.deep ty q xs none)):DO D lv L (.own ty) (.sl (.st q)) xs sl.v sl.all:=by
 simp only [OR] at h;obtain ⟨h1,h3⟩:=h;unfold Slot.all
 cases hk:sl.k with
 |none=>
  rw [hk] at h3;obtain ⟨rfl,e2,e3,_⟩:=h3;rw [e3]
  rcases e2 with e2|e2
  · rw [e2];exact .nil (.nil _) (.inl rfl)
  · rw [e2];exact .nil (.sl _ _ _ _ rfl (λj x w hj=>by simp at hj)) (.inr rfl)
 |some j=>
  rw [hk] at h3;obtain ⟨ver,cp,fps,e1,e2,e3,e4,e5,e6,e7⟩:=h3;rw [e1,e4];refine .own e2 h1 e3 λn x w c a1 a2 a3 => ?_
  obtain ⟨vs,cs,rfl,b2,b3,rfl,b5⟩:=e6 n x w c a1 a2 a3;exact .el b2 b3 λf p u b g1 g2 g3=>b5 f p u b g1 g2 g3
inductive VH (lv:Nat) (L:List (Option kz2)) (R:Nat->Prop):V->V->Prop where
 |keep (v:V):VH lv L R v v
 |hs (i ver ty sz n:Nat) (full:Bool) (xs ys:List V) (cp:Option Nat) (hR:R i) (hg:L[i]? = some (some (.arr ver ty sz xs cp))) (hn:ys.length=n)
  (h1:∀(j:Nat) (x y:V),xs[j]? = some x->ys[j]? = some y->x.cells.length=y.cells.length) (h2:∀(j:Nat) (x y:V) (t:Nat) (v u:V),xs[j]? = some x->ys[j]? = some y->x.cells[t]? = some v->y.cells[t]? = some u->VH lv L R v u) :
  VH lv L R (.hs lv i ver 0 n full) (.sl sz ys false)
theorem VH.rel {W:World} {g:Gh} {H H':Heap} {R:Nat->Prop} (hGood:Good W g H) (hlv:H.lv=lv) (hL:H.L=L) (hf:∀{x:V} {c:Value},Rel W g H x c->Rel W g H' x c) (hloc:∀i o,R i->H.get H.lv i=some o->¬Own g H' (o.blk g H.lv i)) {v u:V} (h:VH lv L R v u):∀{c:Value},Rel W g H v c->Rel W g H' u c:=by
 induction h with
 |keep v=>exact λh=>hf h
 |hs i ver ty sz n full xs ys cp hR hg' hn h1 h2 ih=>
  intro c hc
  have hg:H.get H.lv i=some (.arr ver ty sz xs cp):=by
   unfold Heap.get;rw [Qbp rfl,hL,hg'];rfl
  subst hlv
  cases hc with
  |hs _ _ _ _ _ _ a m cap hd hv ha=>
   obtain ⟨rfl,rfl,⟨hcap',hcap2,hff⟩,hle⟩:=ha _ _ _ _ hg;obtain ⟨cur,k1,k2,k3,k3',k4,k5,k6⟩:=zsf hGood hg
   have get:∀j y,ys[j]? = some y->∃x,xs[j]? = some x∧j<m:=λj y hj=>by
    have:=(Qaa.1 hj).1;exact ⟨_,Qab (by omega),by omega⟩
   have cells:∀(j:Nat) (y:V) (t:Nat) (u:V),ys[j]? = some y->y.cells[t]? = some u->∃x v,xs[j]? = some x∧x.cells[t]? = some v∧Rel W g H' u (cur.getD (j * sz+t) undef)∧(cur.getD (j * sz+t) undef).oneCell'=true∧j * sz+t<cur.size:=λj y t u hj ht=>by
    obtain ⟨x,hx,hjm⟩:=get j y hj;have hl:=h1 j x y hx hj;have hxl:=k6.1 _ _ hx;have htl:=(Qaa.1 ht).1;have hv':x.cells[t]? = some (x.cells[t]'(by omega)):=Qab _;refine ⟨x,_,hx,hv',ih j x y t _ u hx hj hv' ht (k6.2.2 _ _ _ _ hx hv'),k6.2.1 _ _ _ _ hx hv',?_⟩;rw [k3];exact zsi (by omega) (by omega)
   rw [<-hn];refine .sl sz ys false (g.ab H.lv i) (0 * sz) cap (λj t=>cur.getD (j * sz+t) undef) (λho=>hloc i _ hR hg ho) k2 (by omega) (by simp) (λj y hj => ?_) (λj y t u hj ht => ?_) (λj y t u hj ht => ?_) (λj y t u hj ht => ?_)
   · obtain ⟨x,hx,_⟩:=get j y hj;rw [<-h1 j x y hx hj];exact k6.1 _ _ hx
   · obtain ⟨x,v,_,_,_,_,e⟩:=cells j y t u hj ht;have:=cell_of k1 e;rw [<-this];congr 2;omega
   · obtain ⟨x,v,_,_,_,e,_⟩:=cells j y t u hj ht;exact e
   · obtain ⟨x,v,_,_,e,_,_⟩:=cells j y t u hj ht;exact e
def SeenH (lv:Nat) (L:List (Option kz2)) (R:Nat->Prop):OM->V->V->Prop
 | .el,v,u=>v.cells.length=u.cells.length∧∀(j:Nat) (a b:V),v.cells[j]? = some a->u.cells[j]? = some b->VH lv L R a b
 | .dat,v,u=>VH lv L R v u
 | .own _,v,u=>VH lv L R v u
theorem DO.seeH {R:Nat->Prop} {m:OM} {t:DTy} {x:t.S D.T} {v:V} {fp:List Nat} (h:DO D lv L m t x v fp):(∀i∈fp,R i)->∃u,DR D t x u∧SeenH lv L R m v u:=by
 induction h with
 |dat h=>exact λ_=>⟨_,h,.keep _⟩
 |nil h hv=>exact λ_=>⟨_,h,.keep _⟩
 | @own ty t xs j ver cp ws fps hL hl hf he ih=>
   intro hR
   obtain ⟨us,e1,e2⟩:=zha (Q:=λn u=>∀(x:t.S D.T) (w:V),xs[n]? = some x->ws[n]? = some w->DR D t x u∧w.cells.length=u.cells.length∧∀(j:Nat) (a b:V),w.cells[j]? = some a->u.cells[j]? = some b->VH lv L R a b) xs.length λn hn=>by
    have hc:fps[n]? = some (fps[n]'(by omega)):=Qab (show n<fps.length by omega);obtain ⟨u,h1,h2⟩:=ih n _ _ _ (Qab hn) (Qab (show n<ws.length by omega)) hc (λi hi=>hR i (Qag _ (List.mem_flatten.2 ⟨_,Qav hc,hi⟩)));refine ⟨u,λx w hx hw => ?_⟩
    rw [Qab hn] at hx;injection hx with hx;subst hx
    rw [Qab (show n<ws.length by omega)] at hw;injection hw with hw;subst hw
    exact ⟨h1,h2⟩
   refine ⟨.sl (D.len t) us false,.sl t xs us false e1 λn x u hx hu => ?_,?_⟩
   · have hn:=(Qaa.1 hx).1;exact (e2 n u hu x _ hx (Qab (show n<ws.length by omega))).1
   · refine .hs j ver ty (D.len t) ws.length false ws us cp (hR j Qai) hL (by omega) (λn w u hw hu => ?_) λn w u c a b hw hu ha hb => ?_
     · have hn:=(Qaa.1 hw).1;exact (e2 n u hu _ w (Qab (show n<xs.length by omega)) hw).2.1
     · have hn:=(Qaa.1 hw).1
       exact (e2 n u hu _ w (Qab (show n<xs.length by omega)) hw).2.2 c a b ha hb
 | @el i x vs cs hl hc h ih=>
   intro hR
   obtain ⟨us,e1,e2⟩:=zha (Q:=λf u=>∀(p:(t:DTy)×t.S D.T) (w:V),HL.nth (D.fl i) (D.get i x) f=some p->vs[f]? = some w->DR D p.1 p.2 u∧VH lv L R w u) (D.fl i).length λf hf=>by
    obtain ⟨p,hp,_⟩:=HL.zi0 (D.fl i) (D.get i x) f hf;have hcf:cs[f]? = some (cs[f]'(by omega)):=Qab (show f<cs.length by omega);obtain ⟨u,h1,h2⟩:=ih f p _ _ hp (Qab (show f<vs.length by omega)) hcf (λi hi=>hR i (List.mem_flatten.2 ⟨_,Qav hcf,hi⟩));refine ⟨u,λp' w hp' hw => ?_⟩
    rw [hp] at hp';injection hp' with hp';subst hp'
    rw [Qab (show f<vs.length by omega)] at hw;injection hw with hw;subst hw
    refine ⟨h1,?_⟩
    cases how:D.ow i f with
    |none=>rw [how] at h2;exact h2
    |some ty=>rw [how] at h2;exact h2
   refine ⟨.agg us,.st i x us e1 λf p u hp hu => ?_,?_⟩
   · have hf:=(HL.z9v _ _ _ _ hp).1;exact (e2 f u hu p _ hp (Qab (show f<vs.length by omega))).1
   · refine ⟨by show vs.length=us.length;omega,λf a b ha hb => ?_⟩;replace ha:vs[f]? = some a:=ha;replace hb:us[f]? = some b:=hb;have hf:=(Qaa.1 ha).1;obtain ⟨p,hp,_⟩:=HL.zi0 (D.fl i) (D.get i x) f (by omega)
     exact (e2 f b hb p a hp ha).2
 |elf ht h=>exact λ_=>⟨_,h,rfl,λj a b ha hb=>by rw [ha] at hb;injection hb with hb;subst hb;exact .keep _⟩
def zu1 (L:List (Option kz2)) (all:List Nat) (os:List (Nat×kz2)):List (Option kz2):=(List.range L.length).map λk=>if k∈all then none else match os.find? (λp=>p.1==k) with|some p=>some p.2|none=>(L[k]?).join
theorem zo0 (L:List (Option kz2)) (all:List Nat) (os:List (Nat×kz2)):(zu1 L all os).length=L.length:=by simp [zu1]
theorem zo1 {L:List (Option kz2)} {all:List Nat} {os:List (Nat×kz2)} {k:Nat} (hk:k<L.length):(zu1 L all os)[k]? = some (if k∈all then none else match os.find? (λp=>p.1==k) with|some p=>some p.2|none=>(L[k]?).join):=by
 unfold zu1;rw [Qal,List.getElem?_range hk];rfl
theorem ydv {σ:St} {all:List Nat} {v r:V} (hd:σ.d=[]) (hv:VH σ.H.lv σ.H.L (· ∈ all) v r) {os os':List (Nat×kz2)} (h5:(os.map (·.1)).Nodup) (hos:FOL v r os os') (h4:∀p∈os,σ.H.L[p.1]? = some (some p.2)∧p.1∉all)
  {t':List V} (ht:FVL v r σ.t t') :
  zm6 σ ⟨t',⟨σ.H.lv,zu1 σ.H.L all os',σ.H.E⟩,[],σ.e0⟩∧(∀p'∈os',(zu1 σ.H.L all os')[p'.1]? = some (some p'.2))∧∀n,n<σ.H.L.length->n∉all->(∀p∈os,p.1≠n)->(zu1 σ.H.L all os')[n]? = σ.H.L[n]? := by
 have hnd:(os'.map (·.1)).Nodup:=by rw [hos.map];exact h5
 have hfind:∀p'∈os',os'.find? (λp=>p.1==p'.1)=some p':=λp' hp'=>by
  cases hq:os'.find? (λp=>p.1==p'.1) with
  |none=>rw [List.find?_eq_none] at hq;have:=hq p' hp';simp at this
  |some q=>
   have hq1:=List.find?_some hq;have hq2:=List.mem_of_find?_eq_some hq;simp at hq1;obtain ⟨a,ha⟩:=List.mem_iff_getElem?.1 hp';obtain ⟨b,hb⟩:=List.mem_iff_getElem?.1 hq2;have ha':(os'.map (·.1))[a]? = some p'.1:=by simp [ha]
   have hb':(os'.map (·.1))[b]? = some p'.1:=by simp [hb,hq1]
   have hlt:=(Qaa.1 ha').1;have:=(List.getElem?_inj hlt hnd).1 (ha'.trans hb'.symm);subst this;rw [ha] at hb;exact hb.symm
 have hfor:∀p'∈os',∃o,σ.H.L[p'.1]? = some (some o)∧p'.1∉all∧FO v r o p'.2:=λp' hp'=>by
  obtain ⟨o,ho,hf⟩:=hos.mem p' hp';exact ⟨o,(h4 _ ho).1,(h4 _ ho).2,hf⟩
 refine ⟨?_,λp' hp' => ?_,λn hn hni hno => ?_⟩
 ·refine y01 (v:=v) (r:=r) (zo0 _ _ _) (λm o' hm => ?_) ht hd λW g hG hown hf c hc => ?_
  ·have hlt:m<σ.H.L.length:=by have:=(Qaa.1 hm).1;rw [zo0] at this;exact this
   rw [zo1 hlt] at hm;injection hm with hm;split at hm
   ·cases hm
   ·split at hm
    ·rename_i p hp;injection hm with hm;have hp1:=List.find?_some hp;simp at hp1;obtain ⟨o,h1,_,h3⟩:=hfor p (List.mem_of_find?_eq_some hp);exact ⟨o,by rw [<-hp1];exact h1,by rw [<-hm];exact h3⟩
    ·refine ⟨o',?_,.inl rfl⟩;rw [Qab hlt] at hm ⊢;simp at hm;rw [hm]
  ·refine VH.rel hG rfl rfl hf (λi o hi hget ⟨l,i',o',ho',hob⟩ => ?_) hv hc
   have hgot:∃o,σ.H.get l i'=some o∧o'.blk g l i'=o.blk g l i'∧¬(l=σ.H.lv∧i'∈all):=by
    unfold Heap.get at ho' ⊢;dsimp only at ho' ⊢;by_cases hl:l=σ.H.lv
    ·rw [Qbp hl] at ho' ⊢
     cases hq:(zu1 σ.H.L all os')[i']? with
     |none=>rw [hq] at ho';simp at ho'
     |some q=>
      have hlt:i'<σ.H.L.length:=by have:=(Qaa.1 hq).1;rw [zo0] at this;exact this
      rw [zo1 hlt] at ho';simp only [Option.join_some] at ho';split at ho'
      · cases ho'
      · rename_i hne;split at ho'
        · rename_i p hp;injection ho' with ho';have hp1:=List.find?_some hp;simp at hp1;obtain ⟨o,h1,_,h3⟩:=hfor p (List.mem_of_find?_eq_some hp);rw [hp1] at h1;exact ⟨o,by rw [h1];rfl,by rw [<-ho'];exact h3.blk g l i',λe=>hne e.2⟩
        · exact ⟨o',ho',rfl,λe=>hne e.2⟩
    ·rw [Qbq hl] at ho' ⊢;exact ⟨o',ho',rfl,λe=>hl e.1⟩
   obtain ⟨o2,w1,w2,w3⟩:=hgot;obtain ⟨e1,e2⟩:=hG.inj _ _ _ _ _ _ w1 hget (by rw [<-w2];exact hob);exact w3 ⟨e1,by rw [e2];exact hi⟩
 ·obtain ⟨o,h1,h2,_⟩:=hfor p' hp';have hlt:=(Qaa.1 h1).1;rw [zo1 hlt,Qbq h2,hfind p' hp']
 ·rw [zo1 hn,Qbq hni]
  have:os'.find? (λp=>p.1==n)=none:=by
   rw [List.find?_eq_none];intro p hp;have:p.1∈os.map (·.1):=by rw [<-hos.map];exact List.mem_map_of_mem hp
   obtain ⟨q,hq,hqn⟩:=Qbc.1 this;have:=hno q hq;simp;omega
  rw [this,Qab hn];rfl
end
end Go.Ab
