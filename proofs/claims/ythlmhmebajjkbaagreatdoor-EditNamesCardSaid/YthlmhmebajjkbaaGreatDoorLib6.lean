/-
  THE TYPED MACHINE: own slices become data.
-/
import Derived.Test.YthlmhmebajjkbaaGreatDoorLib5
import Derived.Test.YthlmhmebajjkbaaGreatDoorLib3
namespace Go.Ab
open Go
set_option linter.unusedVariables false
set_option linter.unusedSimpArgs false
set_option linter.unusedSectionVars false
section
variable {P : Program} {D : Dat} {F : Fr} {ρ : List Slot} {ts : TS D.T} {σ : St} {lv : Nat}
mutual
theorem yd4 {s:Nat} {m:Bool} {z:TV D.T} {v0 r:V} (h1:∀v,VR D ρ lv (match m with|true=>TV.map s|false=>TV.own s) v->v=v0) (hr:VR D ρ lv z r):∀{x:TV D.T} {v:V},VR D ρ lv x v->∃v',FV v0 r v v'∧VR D ρ lv (TV.frz D s m z x) v'
 | .own j,v,h=>by
   cases m with
   |true=>exact ⟨v,.keep _,by simpa only [TV.frz] using h⟩
   |false=>
    simp only [TV.frz];split
    · rename_i hj;subst hj;obtain rfl:=h1 v h;exact ⟨r,.it,hr⟩
    · exact ⟨v,.keep _,h⟩
 | .map j,v,h=>by
   cases m with
   |false=>exact ⟨v,.keep _,by simpa only [TV.frz] using h⟩
   |true=>
    simp only [TV.frz];split
    · rename_i hj;subst hj;obtain rfl:=h1 v h;exact ⟨r,.it,hr⟩
    · exact ⟨v,.keep _,h⟩
 | .agg cs,v,h=>by
   simp only [TV.frz,VR] at h ⊢;obtain ⟨vs,rfl,k2⟩:=h;obtain ⟨us,q1,q2⟩:=zrw h1 hr k2
   exact ⟨.agg us,.agg' q1,us,rfl,q2⟩
 | .tup cs,v,h=>by
   simp only [TV.frz,VR] at h ⊢;obtain ⟨vs,rfl,k2⟩:=h;obtain ⟨us,q1,q2⟩:=zrw h1 hr k2
   exact ⟨.tup us,.ygj q1,us,rfl,q2⟩
 | .dp j i off,v,h=>⟨v,.keep _,by simpa only [TV.frz] using h⟩
 | .bsl q cs,v,h=>⟨v,.keep _,by simp only [TV.frz,VR]⟩
 | .any,v,h=>⟨v,.keep _,by simpa only [TV.frz] using h⟩
 | .bool b,v,h=>⟨v,.keep _,by simpa only [TV.frz] using h⟩
 | .int k n,v,h=>⟨v,.keep _,by simpa only [TV.frz] using h⟩
 | .str b,v,h=>⟨v,.keep _,by simpa only [TV.frz] using h⟩
 | .nilp,v,h=>⟨v,.keep _,by simpa only [TV.frz] using h⟩
 | .nils,v,h=>⟨v,.keep _,by simpa only [TV.frz] using h⟩
 | .mapn,v,h=>⟨v,.keep _,by simpa only [TV.frz] using h⟩
 | .nilf,v,h=>⟨v,.keep _,by simpa only [TV.frz] using h⟩
 | .nili,v,h=>⟨v,.keep _,by simpa only [TV.frz] using h⟩
 | .sl t' ys fl,v,h=>⟨v,.keep _,by simpa only [TV.frz] using h⟩
 | .ptr j off,v,h=>⟨v,.keep _,by simpa only [TV.frz] using h⟩
 | .bp j off,v,h=>⟨v,.keep _,by simpa only [TV.frz] using h⟩
 | .osl j lo,v,h=>⟨v,.keep _,by simpa only [TV.frz] using h⟩
 | .mc t' es,v,h=>⟨v,.keep _,by simpa only [TV.frz] using h⟩
 | .ref cs off,v,h=>⟨v,.keep _,by simpa only [TV.frz] using h⟩
 | .ap j t' i x off,v,h=>⟨v,.keep _,by simpa only [TV.frz] using h⟩
 | .fn f a b,v,h=>⟨v,.keep _,by simpa only [TV.frz] using h⟩
 | .iface t' x,v,h=>⟨v,.keep _,by simpa only [TV.frz] using h⟩
theorem zrw {s:Nat} {m:Bool} {z:TV D.T} {v0 r:V} (h1:∀v,VR D ρ lv (match m with|true=>TV.map s|false=>TV.own s) v->v=v0) (hr:VR D ρ lv z r):∀{cs:List (TV D.T)} {vs:List V},VRL D ρ lv cs vs->∃us,FVL v0 r vs us∧VRL D ρ lv (TV.y9l D s m z cs) us
 |[],vs,h=>by simp only [TV.y9l,VRL] at h ⊢;subst h;exact ⟨[],.nil,rfl⟩
 |c::cs,vs,h=>by
  simp only [TV.y9l,VRL] at h ⊢;obtain ⟨v,q,rfl,k2,k3⟩:=h;obtain ⟨v',a1,a2⟩:=yd4 h1 hr k2;obtain ⟨us,b1,b2⟩:=zrw h1 hr k3;exact ⟨v'::us,.cons a1 b1,v',us,rfl,a2,b2⟩
end
theorem yas (s:Nat) (m:Bool) (z:TV D.T):∀cs:List (TV D.T),TV.y9l D s m z cs=cs.map (TV.frz D s m z)
 |[]=>rfl
 |c::cs=>by simp only [TV.y9l,List.map_cons,yas s m z cs]
theorem zrd {s:Nat} {m:Bool} {z:TV D.T} {v0 r:V} (h1:∀v,VR D ρ lv (match m with|true=>TV.map s|false=>TV.own s) v->v=v0) (hr:VR D ρ lv z r) (f:Nat->Option (TV D.T)):∀(l:List V) (k:Nat),(∀j x v,f (k+j)=some x->l[j]? = some v->VR D ρ lv x v) ->
  ∃l',FVL v0 r l l'∧∀j x v,f (k+j)=some x->l'[j]? = some v->VR D ρ lv (TV.frz D s m z x) v
 |[],k,h=>⟨[],.nil,λj x v _ hv=>by simp at hv⟩
 |u::l,k,h=>by
  obtain ⟨l',a1,a2⟩:=zrd h1 hr f l (k+1) λj x v hx hv=>h (j+1) x v (by rw [<-hx];congr 1;omega) (by simpa using hv)
  cases hf:f k with
  |none=>
   refine ⟨u::l',.cons (.keep _) a1,λj x v hx hv => ?_⟩
   cases j with
   |zero=>rw [Nat.add_zero,hf] at hx;cases hx
   |succ j=>exact a2 j x v (by rw [<-hx];congr 1;omega) (by simpa using hv)
  |some y=>
   obtain ⟨u',b1,b2⟩:=yd4 h1 hr (h 0 y u (by simpa using hf) rfl);refine ⟨u'::l',.cons b1 a1,λj x v hx hv => ?_⟩
   cases j with
   |zero=>rw [Nat.add_zero,hf] at hx;injection hx with hx;subst hx;simp at hv;subst hv;exact b2
   |succ j=>exact a2 j x v (by rw [<-hx];congr 1;omega) (by simpa using hv)
theorem zrb (hR:TRr D F ρ ts σ) {s:Nat} {m:Bool} {z:TV D.T} {v0 r:V} (hz:∀q,z ≠ .own q) (h1:∀v,VR D ρ F.lv (match m with|true=>TV.map s|false=>TV.own s) v->v=v0) (hr:VR D ρ F.lv z r):∀n:Nat,∃os os':List (Nat×kz2),FOL v0 r os os'∧(os.map (·.1)).Nodup ∧
  (∀p∈os,σ.H.L[p.1]? = some (some p.2)∧∃s' o sl',s'<n∧s'≠s∧fnd ts.o s'=some o∧o.live∧ρ[s']? = some sl'∧sl'.k=some p.1) ∧
  ∀s' o sl' i,s'<n->s'≠s->fnd ts.o s'=some o->o.live->ρ[s']? = some sl'->sl'.k=some i->∃ao,(i,ao)∈os'∧∀L',L'[i]? = some (some ao)->(∀j∈sl'.fp,L'[j]? = σ.H.L[j]?)->OR D ρ F.lv L' sl' (TO.map D (TV.frz D s m z) o)
 |0=>⟨[],[],.refl _,by simp,by simp,λs' o sl' i h=>by omega⟩
 |n+1=>by
  obtain ⟨os,os',a1,a2,a3,a4⟩:=zrb hR hz h1 hr n
  have skip:(∀o sl' i,n≠s->fnd ts.o n=some o->o.live->ρ[n]? = some sl'->sl'.k=some i->False)->∃os os':List (Nat×kz2),FOL v0 r os os'∧(os.map (·.1)).Nodup ∧
    (∀p∈os,σ.H.L[p.1]? = some (some p.2)∧∃s' o sl',s'<n+1∧s'≠s∧fnd ts.o s'=some o∧o.live∧ρ[s']? = some sl'∧sl'.k=some p.1) ∧
    ∀s' o sl' i,s'<n+1->s'≠s->fnd ts.o s'=some o->o.live->ρ[s']? = some sl'->sl'.k=some i->∃ao,(i,ao)∈os'∧∀L',L'[i]? = some (some ao)->(∀j∈sl'.fp,L'[j]? = σ.H.L[j]?)->OR D ρ F.lv L' sl' (TO.map D (TV.frz D s m z) o):=λhno=>
   ⟨os,os',a1,a2,λp hp=>by obtain ⟨b1,s',o,sl',b2,b3⟩:=a3 p hp;exact ⟨b1,s',o,sl',by omega,b3⟩,λs' o sl' i c1 c2 c3 c4 c5 c6=>by
     by_cases e:s'=n
     · subst e;exact (hno o sl' i c2 c3 c4 c5 c6).elim
     · exact a4 s' o sl' i (by omega) c2 c3 c4 c5 c6⟩
  by_cases hns:n=s
  · exact skip λo sl' i hne=>(hne hns).elim
  · cases ho:fnd ts.o n with
    |none=>exact skip λo sl' i _ h=>by rw [ho] at h;cases h
    |some o=>
     obtain ⟨sl',k1,k2⟩:=hR.ob n o ho;by_cases hl:o.live
     · cases hk:sl'.k with
       |none=>exact skip λo' sl2 i _ h hl' h2 h3=>by rw [k1] at h2;injection h2 with h2;subst h2;rw [hk] at h3;cases h3
       |some i=>
        obtain ⟨a,ha⟩:=k2.at hl hk
        have hfresh:i∉os.map (·.1):=λhm=>by
         obtain ⟨p,hp,hpi⟩:=Qbc.1 hm;obtain ⟨b1,s',o',sl2,b2,b3,b4,b5,b6,b7⟩:=a3 p hp;have:=hR.inj n s' o o' sl' sl2 i ho b4 hl b5 k1 b6 (.inl hk) (.inl (by rw [b7,hpi]));omega
        have step:∀a':kz2,FO v0 r a a'->(∀L':List (Option kz2),L'[i]? = some (some a')->(∀j∈sl'.fp,L'[j]? = σ.H.L[j]?)->OR D ρ F.lv L' sl' (TO.map D (TV.frz D s m z) o))->∃os os':List (Nat×kz2),FOL v0 r os os'∧(os.map (·.1)).Nodup ∧
          (∀p∈os,σ.H.L[p.1]? = some (some p.2)∧∃s' o sl',s'<n+1∧s'≠s∧fnd ts.o s'=some o∧o.live∧ρ[s']? = some sl'∧sl'.k=some p.1) ∧
          ∀s' o sl' i,s'<n+1->s'≠s->fnd ts.o s'=some o->o.live->ρ[s']? = some sl'->sl'.k=some i->∃ao,(i,ao)∈os'∧∀L',L'[i]? = some (some ao)->(∀j∈sl'.fp,L'[j]? = σ.H.L[j]?)->OR D ρ F.lv L' sl' (TO.map D (TV.frz D s m z) o):=λa' hfo hor=>
         ⟨(i,a)::os,(i,a')::os',.cons hfo a1,by simp only [List.map_cons,List.nodup_cons];exact ⟨hfresh,a2⟩,λp hp=>by
           rcases Qbg.1 hp with rfl|hp
           · exact ⟨ha,n,o,sl',by omega,hns,ho,hl,k1,hk⟩
           · obtain ⟨b1,s',o,sl',b2,b3⟩:=a3 p hp;exact ⟨b1,s',o,sl',by omega,b3⟩,λs' o2 sl2 i2 c1 c2 c3 c4 c5 c6=>by
           by_cases e:s'=n
           · subst e
             rw [ho] at c3;injection c3 with c3;subst c3
             rw [k1] at c5;injection c5 with c5;subst c5
             rw [hk] at c6;injection c6 with c6;subst c6
             exact ⟨a',Qai,hor⟩
           · obtain ⟨ao,d1,d2⟩:=a4 s' o2 sl2 i2 (by omega) c2 c3 c4 c5 c6
             exact ⟨ao,Qag _ d1,d2⟩⟩
        cases o with
        |cells cs=>
         simp only [OR] at k2;obtain ⟨i',vs,e1,e2,e3⟩:=k2
         rw [hk] at e1;injection e1 with e1;subst e1
         rw [ha] at e2;injection e2 with e2;injection e2 with e2;subst e2
         obtain ⟨us,f1,f2⟩:=zrw h1 hr e3;rw [yas] at f2
         exact step (.cells us) (.inr ⟨vs,us,rfl,rfl,f1⟩) λL' hL' hL2=>by simp only [TO.map,OR];exact ⟨i,us,hk,hL',f2⟩
        |acc ty' t' xs' w'=>
         have:=k2;refine step a (.inl rfl) λL' hL' hL2 => ?_
         simp only [OR,hk] at k2;simp only [TO.map,OR,hk];obtain ⟨e1,e2,ver,cp,e3,e4⟩:=k2;rw [ha] at e4
         exact ⟨e1,e2,ver,cp,e3,hL'.trans e4⟩
        |siter l pos=>
         refine step a (.inl rfl) λL' hL' hL2 => ?_
         simp only [OR] at k2;simp only [TO.map,OR];obtain ⟨i',e1,e2⟩:=k2
         rw [hk] at e1;injection e1 with e1;subst e1
         rw [ha] at e2
         exact ⟨i,hk,hL'.trans e2⟩
        |mp ty' t' es'=>
         refine step a (.inl rfl) λL' hL' hL2 => ?_
         simp only [OR] at k2;simp only [TO.map,OR];obtain ⟨i',ms,e1,e0,e3,e2⟩:=k2
         rw [hk] at e1;injection e1 with e1;subst e1
         rw [ha] at e2
         exact ⟨i,ms,hk,e0,e3,hL'.trans e2⟩
        |mit t' last es'=>
         refine step a (.inl rfl) λL' hL' hL2 => ?_
         simp only [OR] at k2;simp only [TO.map,OR];obtain ⟨i',fs,vis,e1,e0,e2,e3⟩:=k2
         rw [hk] at e1;injection e1 with e1;subst e1
         rw [ha] at e2
         exact ⟨i,fs,vis,hk,e0,hL'.trans e2,e3⟩
        |bld ty' b'=>
         refine step a (.inl rfl) λL' hL' hL2 => ?_
         simp only [OR] at k2;obtain ⟨i',u,c,e1,e2,e3,e4⟩:=k2
         rw [hk] at e1;injection e1 with e1;subst e1
         rw [ha] at e2
         cases b' with
         |none=>simp only [TO.map,OR];exact ⟨i,u,c,hk,hL'.trans e2,e3,e4⟩
         |some q=>
          cases m with
          |true=>simp only [TO.map,TV.frz,OR];exact ⟨i,u,c,hk,hL'.trans e2,e3,e4⟩
          |false=>
           simp only [TO.map,TV.frz];by_cases hq:q=s
           · rw [Qbp hq];cases z <;> simp only [OR]
             case own q'=>exact (hz q' rfl).elim
           · rw [Qbq hq];simp only [OR];exact ⟨i,u,c,hk,hL'.trans e2,e3,e4⟩
        |gone=>exact hl.elim
        |deep ty' q' xs' h'=>
         have hsame:∀L':List (Option kz2),L'[i]? = some (some a)->(∀j∈sl'.fp,L'[j]? = σ.H.L[j]?)->OR D ρ F.lv L' sl' (.deep ty' q' xs' h'):=λL' hL' hL2=>by
          have:=k2.mono (L':=L') [] λj hj _=>by
           rcases hj with hj|hj
           · rw [hk] at hj;injection hj with hj;subst hj;exact hL'.trans ha.symm
           · exact hL2 j hj
          simpa using this
         refine step a (.inl rfl) λL' hL' hL2 => ?_
         cases h' with
         |none=>exact hsame L' hL' hL2
         |some p=>
          obtain ⟨n',c',s0⟩:=p;simp only [TO.map]
          cases m with
          |true=>simp only [TV.frz];exact hsame L' hL' hL2
          |false=>
           simp only [TV.frz];by_cases hq:s0=s
           · rw [Qbp hq];cases z <;> simp only [OR]
             case own q'=>exact (hz q' rfl).elim
           · rw [Qbq hq];exact hsame L' hL' hL2
     · exact skip λo' sl2 i _ h hl'=>by rw [ho] at h;injection h with h;subst h;exact (hl hl').elim
theorem zxy (hR:TRr D F ρ ts σ) {s:Nat} {m:Bool} {z:TV D.T} (hz:∀q,z ≠ .own q) {v0 r:V} {sl:Slot} (k1:ρ[s]? = some sl) (hd0:ts.d=[]) {os':List (Nat×kz2)}
  (a4:∀s' o sl' i,s'<ts.nx->s'≠s->fnd ts.o s'=some o->o.live->ρ[s']? = some sl'->sl'.k=some i->∃ao,(i,ao)∈os'∧∀L',L'[i]? = some (some ao)->(∀j∈sl'.fp,L'[j]? = σ.H.L[j]?)->OR D ρ F.lv L' sl' (TO.map D (TV.frz D s m z) o))
  {t':List V} (c1:FVL v0 r σ.t t') (c2:∀j x v,fnd ts.t (0+j)=some x->t'[j]? = some v->VR D ρ F.lv (TV.frz D s m z x) v) {L':List (Option kz2)} (d1:∀p'∈os',L'[p'.1]? = some (some p'.2)) (d3:L'.length=σ.H.L.length) (d4:∀i,F.out i->L'[i]? = σ.H.L[i]?) (d5:∀s' o sl' i,s'≠s->fnd ts.o s'=some o->o.live->ρ[s']? = some sl'->i∈sl'.fp->L'[i]? = σ.H.L[i]?) :
  TRr D F ρ {ts.z7g D (TV.frz D s m z) with o:=(s,TO.gone)::(ts.z7g D (TV.frz D s m z)).o} ⟨t',⟨F.lv,L',σ.H.E⟩,[],σ.e0⟩:=by
 have hob:∀s' o,fnd ((s,TO.gone)::(ts.z7g D (TV.frz D s m z)).o) s'=some o->(s'=s∧o = .gone)∨(s'≠s∧∃o',fnd ts.o s'=some o'∧o=TO.map D (TV.frz D s m z) o'):=λs' o h=>by
  rw [zz7] at h;split at h
  ·rename_i e;injection h with h;exact .inl ⟨e.symm,h.symm⟩
  ·rename_i e;simp only [TS.z7g] at h;rw [zif (TO.map D (TV.frz D s m z)),Qae] at h;obtain ⟨o',h1,h2⟩:=h;exact .inr ⟨λe'=>e e'.symm,o',h1,h2.symm⟩
 have hlive:∀o:TO D.T,(TO.map D (TV.frz D s m z) o).live->o.live:=λo h=>by cases o <;> first|exact h|trivial
 have old:∀s' o,fnd ((s,TO.gone)::(ts.z7g D (TV.frz D s m z)).o) s'=some o->o.live->s'≠s∧∃o',fnd ts.o s'=some o'∧o'.live∧o=TO.map D (TV.frz D s m z) o':=λs' o h hl=>by
  rcases hob s' o h with ⟨_,rfl⟩|⟨h1,o',h2,rfl⟩
  ·exact hl.elim
  ·exact ⟨h1,o',h2,hlive o' hl,rfl⟩
 refine ⟨hR.nx,c1.length.symm.trans hR.nt,λj x hj => ?_,λs' o h => ?_,λs1 s2 o1 o2 sl1 sl2 i h1 h2 l1 l2 r1 r2 => ?_,λs1 o1 sl1 i h1 l1 r1 => ?_,rfl,hR.E,hR.e0,(by simp only [TS.z7g,hd0,List.map_nil];rfl),λi hi => ?_,hR.pin,λs1 o1 sl1 i h1 l1 r1 k1 => ?_,λi s1 v h1 h2=>yd1 (f:=TV.frz D s m z) (λs0 s' e u hu=>by
  cases m with
  |true=>simp only [TV.frz,TV.own.injEq] at e;subst e;exact hu
  |false=>
   simp only [TV.frz] at e;split at e
   · exact (hz _ e).elim
   · simp only [TV.own.injEq] at e;subst e;exact hu) (λs0 e=>hR.g i s0 v e h2) h1⟩
 ·simp only [TS.z7g] at hj;rw [zif (TV.frz D s m z),Qae] at hj;obtain ⟨y,hy,rfl⟩:=hj;obtain ⟨u,e1,e2⟩:=hR.tm j y hy;have hlt:j<t'.length:=by rw [<-c1.length];exact (Qaa.1 e1).1
  exact ⟨t'[j],Qab hlt,c2 j y _ (by simpa using hy) (Qab hlt)⟩
 ·rcases hob s' o h with ⟨rfl,rfl⟩|⟨h1,o',h2,rfl⟩
  ·exact ⟨sl,k1,by simp only [OR]⟩
  ·obtain ⟨sl',m1,m2⟩:=hR.ob s' o' h2;refine ⟨sl',m1,?_⟩;by_cases hl:o'.live
   ·cases hk:sl'.k with
    |some i=>
     obtain ⟨ao,n1,n2⟩:=a4 s' o' sl' i (by rw [<-hR.nx];exact (Qaa.1 m1).1) h1 h2 hl m1 hk
     exact n2 L' (d1 _ n1) λj hj=>d5 s' o' sl' j h1 h2 hl m1 hj
    |none=>
     cases o' with
     |cells cs=>simp only [OR] at m2;obtain ⟨i,_,e,_⟩:=m2;rw [hk] at e;cases e
     |acc ty' t'' xs' w'=>simp only [OR,hk] at m2;simp only [TO.map,OR,hk];exact m2
     |siter l pos=>simp only [OR] at m2;obtain ⟨i,e,_⟩:=m2;rw [hk] at e;cases e
     |mp ty' t' es'=>simp only [OR] at m2;obtain ⟨i,_,e,_⟩:=m2;rw [hk] at e;cases e
     |mit t' last es'=>simp only [OR] at m2;obtain ⟨i,_,_,e,_⟩:=m2;rw [hk] at e;cases e
     |bld ty' b'=>simp only [OR] at m2;obtain ⟨i,_,_,e,_⟩:=m2;rw [hk] at e;cases e
     |gone=>simp only [TO.map,OR]
     |deep ty' q' xs' h'=>
      simp only [OR,hk] at m2;obtain ⟨e1,e2,e3,e4,rfl⟩:=m2;simp only [TO.map,OR,hk];exact ⟨e1,e2,e3,e4,trivial⟩
   ·cases o' with
    |gone=>simp only [TO.map,OR]
    |_=>exact (hl trivial).elim
 ·obtain ⟨_,o1',e1,f1,_⟩:=old s1 o1 h1 l1;obtain ⟨_,o2',e2,f2,_⟩:=old s2 o2 h2 l2;exact hR.inj s1 s2 o1' o2' sl1 sl2 i e1 e2 f1 f2 r1 r2
 ·obtain ⟨_,o1',e1,f1,_⟩:=old s1 o1 h1 l1;exact hR.mine s1 o1' sl1 i e1 f1 r1
 ·obtain ⟨h1,h2⟩:=hR.out i hi;exact ⟨by show i<L'.length;rw [d3];exact h1,(d4 i hi).trans h2⟩
 ·obtain ⟨hne,o1',e1,f1,_⟩:=old s1 o1 h1 l1;have hq:=hR.fpl s1 o1' sl1 i e1 f1 r1 k1;exact ⟨hq.1,by show ∃a,L'[i]? = _;rw [d5 s1 o1' sl1 i hne e1 f1 r1 k1];exact hq.2⟩
theorem zrz (hD:D.Ok P) {s:Nat} {ts':TS D.T} (hR:TRr D F ρ ts σ) (h:ts.freeze D s=some ts'):∃τ,zm6 σ τ∧TRr D F ρ ts' τ:=by
 unfold TS.freeze at h;split at h
 ·rename_i ty t xs w hd0 ho;injection h with h;subst h;have hd1:σ.d=[]:=by have:=hR.d;rw [hd0] at this;exact this
  obtain ⟨sl,k1,k2⟩:=hR.ob s _ ho;have hor:=k2;simp only [OR] at k2;obtain ⟨q1,q2,q3⟩:=k2;have hsn:s<ρ.length:=(Qaa.1 k1).1
  have hr:VR D ρ F.lv (.sl t xs 0) (.sl (D.len t) sl.ws false):=by
   simp only [VR];exact ⟨.sl t xs sl.ws false q1 q2,by omega,by omega⟩
  obtain ⟨os,os',a1,a2,a3,a4⟩:=zrb hR (s:=s) (m:=false) (z:=.sl t xs 0) (v0:=sl.v) (λq h=>by cases h) (λv h=>by
   simp only [VR] at h;obtain ⟨q,e1,e2,_⟩:=h;rw [k1] at e1;injection e1 with e1;subst e1;exact e2) hr ts.nx
  have hacc:z5p F.lv σ.H.L [⟨ty,D.len t,sl.v,sl.ws,w⟩] os:=by
   refine ⟨⟨[sl.k],rfl,λj k a hj ha => ?_,λi j n hi hj => ?_,λp hp=>⟨(a3 p hp).1,λj hj => ?_⟩⟩,a2⟩
   ·cases j with
    |zero=>
     simp at hj ha;subst hj;subst ha
     cases hk:sl.k with
     |none=>rw [hk] at q3;exact q3.imp id λq=>⟨q.1.1,q.2⟩
     |some i=>rw [hk] at q3;obtain ⟨ver,cp,e1,e2⟩:=q3;exact ⟨ver,cp,e1,e2⟩
    |succ j=>simp at hj
   ·cases i <;> cases j <;> simp at hi hj <;> rfl
   ·obtain ⟨_,s',o,sl',b2,b3,b4,b5,b6,b7⟩:=a3 p hp
    cases j with
    |zero=>
     simp at hj
     exact b3 (hR.inj s' s o _ sl' sl p.1 b4 ho b5 trivial b6 k1 (.inl b7) (.inl hj))
    |succ j=>simp at hj
  obtain ⟨t',c1,c2⟩:=zrd (s:=s) (m:=false) (z:=.sl t xs 0) (v0:=sl.v) (λv h=>by
   simp only [VR] at h;obtain ⟨q,e1,e2,_⟩:=h;rw [k1] at e1;injection e1 with e1;subst e1;exact e2) hr (fnd ts.t) σ.t 0 λj x v hx hv=>by
   obtain ⟨u,e1,e2⟩:=hR.tm j x (by simpa using hx)
   rw [hv] at e1;injection e1 with e1;subst e1;exact e2
  obtain ⟨L',⟨d1,d2⟩,d3,d4⟩:=hacc.yd9 (j:=0) rfl c1 a1 σ.H.E σ.e0
  have hσ:σ=⟨σ.t,⟨F.lv,σ.H.L,σ.H.E⟩,[],σ.e0⟩:=by
   have e1:=hR.lv;have e2:=hd1;obtain ⟨t,⟨l,L,E⟩,d,e0⟩:=σ;simp only at e1 e2;subst e1;subst e2;rfl
  rw [<-hσ] at d2;refine ⟨_,d2,?_⟩
  have hfp:∀s' o sl' i,s'≠s->fnd ts.o s'=some o->o.live->ρ[s']? = some sl'->i∈sl'.fp->L'[i]? = σ.H.L[i]? := λs' o' sl' i hne ho' hl' hs' hi=>by
   obtain ⟨f1,f2⟩:=hR.fpl s' o' sl' i ho' hl' hs' hi;refine d4 i (hR.lt ho' hl' hs' (.inr hi)) (λp hp e => ?_) λver n e => ?_
   ·obtain ⟨_,s2,o2,sl2,b2,b3,b4,b5,b6,b7⟩:=a3 p hp;have:=hR.inj s2 s' o2 o' sl2 sl' i b4 ho' b5 hl' b6 hs' (.inl (by rw [b7,e])) (.inr hi);subst this
    rw [hs'] at b6;injection b6 with b6;subst b6
    exact f1 (by rw [b7,e])
   ·cases hk:sl.k with
    |none=>rw [hk] at q3;rcases q3 with ⟨q,_⟩|⟨⟨q,_⟩,_⟩ <;> (rw [e] at q;cases q)
    |some j=>
     rw [hk] at q3;obtain ⟨ver',cp,q,_⟩:=q3
     rw [e] at q;injection q with _ q;subst q
     exact hne (hR.inj s' s o' _ sl' sl i ho' ho hl' trivial hs' k1 (.inr hi) (.inl hk))
  refine zxy hR (λq h=>by cases h) k1 hd0 a4 c1 c2 (λp' hp'=>d1.accs.get (by exact hp')) d3 (λi hi => ?_) hfp;refine d4 i (hR.out i hi).1 (λp hp e => ?_) λver n e => ?_
  ·obtain ⟨_,s',o,sl',b2,b3,b4,b5,b6,b7⟩:=a3 p hp;exact hR.mine s' o sl' i b4 b5 b6 (.inl (by rw [b7,e])) hi
  ·cases hk:sl.k with
   |none=>rw [hk] at q3;rcases q3 with ⟨q,_⟩|⟨⟨q,_⟩,_⟩ <;> (rw [e] at q;cases q)
   |some j=>
    rw [hk] at q3;obtain ⟨ver',cp,q,_⟩:=q3
    rw [e] at q;injection q with _ q;subst q
    exact hR.mine s _ sl i ho trivial k1 (.inl hk) hi
 ·rename_i ty q xs hd0 ho;injection h with h;subst h;have hd1:σ.d=[]:=by have:=hR.d;rw [hd0] at this;exact this
  obtain ⟨sl,k1,k2⟩:=hR.ob s _ ho;obtain ⟨u,u1,u2⟩:=(y6g k2).seeH (R:=(· ∈ sl.all)) (λi hi=>hi)
  have hr:VR D ρ F.lv (.sl (.st q) xs 0) u:=by
   simp only [VR];exact ⟨u1,by omega,by omega⟩
  have hit:∀v,VR D ρ F.lv (match false with|true=>TV.map s|false=>TV.own s:TV D.T) v->v=sl.v:=λv h=>by
   simp only [VR] at h;obtain ⟨q,e1,e2,_⟩:=h;rw [k1] at e1;injection e1 with e1;subst e1;exact e2
  obtain ⟨os,os',a1,a2,a3,a4⟩:=zrb hR (s:=s) (m:=false) (z:=.sl (.st q) xs 0) (v0:=sl.v) (λq h=>by cases h) hit hr ts.nx
  obtain ⟨t',c1,c2⟩:=zrd (s:=s) (m:=false) (z:=.sl (.st q) xs 0) (v0:=sl.v) hit hr (fnd ts.t) σ.t 0 λj x v hx hv=>by
   obtain ⟨u,e1,e2⟩:=hR.tm j x (by simpa using hx)
   rw [hv] at e1;injection e1 with e1;subst e1;exact e2
  have hu2:VH σ.H.lv σ.H.L (· ∈ sl.all) sl.v u:=by rw [hR.lv];exact u2
  obtain ⟨d1,d2,d3⟩:=ydv hd1 hu2 a2 a1 (λp hp=>⟨(a3 p hp).1,λhm=>by
   obtain ⟨_,s',o,sl',b2,b3,b4,b5,b6,b7⟩:=a3 p hp
   exact b3 (hR.inj s' s o _ sl' sl p.1 b4 ho b5 trivial b6 k1 (.inl b7) (Slot.znw.1 hm))⟩) c1
  rw [hR.lv] at d1;refine ⟨_,d1,?_⟩
  have hfp:∀s' o sl' n,s'≠s->fnd ts.o s'=some o->o.live->ρ[s']? = some sl'->n∈sl'.fp->_:=λs' o' sl' n hne ho' hl' hs' hi=>by
   obtain ⟨f1,f2⟩:=hR.fpl s' o' sl' n ho' hl' hs' hi;refine d3 n (hR.lt ho' hl' hs' (.inr hi)) (λhm => ?_) λp hp e => ?_
   ·exact hne (hR.inj s' s o' _ sl' sl n ho' ho hl' trivial hs' k1 (.inr hi) (Slot.znw.1 hm))
   ·obtain ⟨_,s2,o2,sl2,b2,b3,b4,b5,b6,b7⟩:=a3 p hp;have:=hR.inj s2 s' o2 o' sl2 sl' n b4 ho' b5 hl' b6 hs' (.inl (by rw [b7,e])) (.inr hi);subst this
    rw [hs'] at b6;injection b6 with b6;subst b6
    exact f1 (by rw [b7,e])
  refine zxy hR (λq h=>by cases h) k1 hd0 a4 c1 c2 d2 (zo0 _ _ _) (λn hn => ?_) hfp;refine d3 n (hR.out n hn).1 (λhm => ?_) λp hp e => ?_
  ·exact hR.mine s _ sl n ho trivial k1 (Slot.znw.1 hm) hn
  ·obtain ⟨_,s',o,sl',b2,b3,b4,b5,b6,b7⟩:=a3 p hp;exact hR.mine s' o sl' n b4 b5 b6 (.inl (by rw [b7,e])) hn
 ·rename_i ty t es hd0 ho;split at h
  case isFalse=>cases h
  rename_i hfl;injection h with h;subst h;have hd1:σ.d=[]:=by have:=hR.d;rw [hd0] at this;exact this
  obtain ⟨sl,k1,k2⟩:=hR.ob s _ ho;simp only [OR] at k2;obtain ⟨i,ms,q1,q2',q4,q3⟩:=k2;have q2:=hfl;have hr:VR D ρ F.lv (.mc t es) (.mapc (es.map λp=>(.str p.1,zus t p.2))):=by unfold VR;exact ⟨q2,rfl⟩
  have hit:∀v,VR D ρ F.lv (match true with|true=>TV.map s|false=>TV.own s:TV D.T) v->v = .map F.lv i:=λv h=>by
   simp only [VR] at h;obtain ⟨q,i',e1,e2,e3⟩:=h;rw [k1] at e1;injection e1 with e1;subst e1;rw [q1] at e2;injection e2 with e2;subst e2;exact e3
  obtain ⟨os,os',a1,a2,a3,a4⟩:=zrb hR (s:=s) (m:=true) (z:=.mc t es) (λq h=>by cases h) hit hr ts.nx
  obtain ⟨t',c1,c2⟩:=zrd (s:=s) (m:=true) (z:=.mc t es) hit hr (fnd ts.t) σ.t 0 λj x v hx hv=>by
   obtain ⟨u,e1,e2⟩:=hR.tm j x (by simpa using hx)
   rw [hv] at e1;injection e1 with e1;subst e1;exact e2
  rw [<-hR.lv] at a1 c1
  have q3':σ.H.L[i]? = some (some (.map ((es.map λp=>((.str p.1:PV),zus t p.2)).map λp=>(p.1.v,p.2.v)))):=by
   rw [q3,List.map_map,q2',List.map_map]
   congr 3
   exact List.map_congr_left λp hp=>by show _=(V.str p.1,(zus t p.2.1).v);rw [yj1 D q2,DR.flat q2 (q4 p hp)]
  obtain ⟨d1,d2,d3⟩:=yeu q3' hd1 a2 a1 (λp hp=>⟨(a3 p hp).1,λe=>by
   obtain ⟨_,s',o,sl',b2,b3,b4,b5,b6,b7⟩:=a3 p hp
   exact b3 (hR.inj s' s o _ sl' sl p.1 b4 ho b5 trivial b6 k1 (.inl b7) (.inl (by rw [e];exact q1)))⟩) c1
  rw [hR.lv] at d1;refine ⟨_,d1,?_⟩
  have hfp:∀s' o sl' n,s'≠s->fnd ts.o s'=some o->o.live->ρ[s']? = some sl'->n∈sl'.fp->_:=λs' o' sl' n hne ho' hl' hs' hi=>by
   obtain ⟨f1,f2⟩:=hR.fpl s' o' sl' n ho' hl' hs' hi;refine d3 n (hR.lt ho' hl' hs' (.inr hi)) (λe => ?_) λp hp e => ?_
   ·subst e;exact hne (hR.inj s' s o' _ sl' sl n ho' ho hl' trivial hs' k1 (.inr hi) (.inl q1))
   ·obtain ⟨_,s2,o2,sl2,b2,b3,b4,b5,b6,b7⟩:=a3 p hp;have:=hR.inj s2 s' o2 o' sl2 sl' n b4 ho' b5 hl' b6 hs' (.inl (by rw [b7,e])) (.inr hi);subst this
    rw [hs'] at b6;injection b6 with b6;subst b6
    exact f1 (by rw [b7,e])
  refine zxy hR (λq h=>by cases h) k1 hd0 a4 c1 c2 d2 (zhk _ _ _) (λn hn => ?_) hfp;refine d3 n (hR.out n hn).1 (λe => ?_) λp hp e => ?_
  ·subst e;exact hR.mine s _ sl n ho trivial k1 (.inl q1) hn
  ·obtain ⟨_,s',o,sl',b2,b3,b4,b5,b6,b7⟩:=a3 p hp;exact hR.mine s' o sl' n b4 b5 b6 (.inl (by rw [b7,e])) hn
 ·cases h
end
section
variable {P : Program} {D : Dat} {F : Fr} {ρ : List Slot} {ts : TS D.T} {σ : St} {lv : Nat}
theorem zji {α:Type}:∀(a b:List (Nat×α)) (j:Nat),fnd (a++b) j=match fnd a j with|some x=>some x|none=>fnd b j
 |[],b,j=>rfl
 |(i,x)::a,b,j=>by
  rw [List.cons_append,zz7,zz7];split
  · rfl
  · exact zji a b j
theorem zy7 {T:Nat->Type}:∀(tos:List (TO T)) (n s:Nat) (o:TO T),fnd (y5n tos n) s=some o->∃a,s=n+a∧tos[a]? = some o
 |[],n,s,o,h=>by cases h
 |t::r,n,s,o,h=>by
  simp only [y5n,zz7] at h;split at h
  · rename_i e;injection h with h;subst h;subst e;exact ⟨0,rfl,rfl⟩
  · obtain ⟨a,h1,h2⟩:=zy7 r (n+1) s o h;exact ⟨a+1,by omega,by simpa using h2⟩
theorem zu2 {T:Nat->Type}:∀(l:List Nat) (s:Nat) (o:TO T),fnd (zr1 l) s=some o->o = .gone∧s∈l
 |[],s,o,h=>by cases h
 |t::r,s,o,h=>by
  simp only [zr1,List.map_cons,zz7] at h;split at h
  · rename_i e;injection h with h;subst h;subst e;exact ⟨rfl,Qai⟩
  · obtain ⟨h1,h2⟩:=zu2 r s o h;exact ⟨h1,Qag _ h2⟩
theorem zqy {T:Nat->Type}:∀(l:List Nat) (s:Nat),fnd (zr1 (T:=T) l) s=none->s∉l
 |[],s,h=>by simp
 |t::r,s,h=>by
  simp only [zr1,List.map_cons,zz7] at h;split at h
  · cases h
  · rename_i e;intro hm
    rcases Qbg.1 hm with rfl|hm
    · exact e rfl
    · exact zqy r s h hm
theorem TRr.zee (hR:TRr D F ρ ts σ) (olds:List Nat) (hold:∀s∈olds,∃o sl,fnd ts.o s=some o∧o.live∧ρ[s]? = some sl) (news:List (TO D.T×Slot)) (H':Heap) (hlv:H'.lv=F.lv) (hE:H'.E=F.E) (hlen:σ.H.L.length<=H'.L.length)
  (hL:∀i,i<σ.H.L.length->(∀s∈olds,∀sl,ρ[s]? = some sl->¬sl.has i)->H'.L[i]? = σ.H.L[i]?)
  (hhas:∀p∈news,∀i,p.2.has i->σ.H.L.length<=i∨∃s∈olds,∃sl,ρ[s]? = some sl∧sl.has i)
  (hdis:∀(a b:Nat) (p p':TO D.T×Slot) (i:Nat),news[a]? = some p->news[b]? = some p'->p.2.has i->p'.2.has i->a=b)
  (hor:∀p∈news,OR D (ρ++news.map (·.2)) F.lv H'.L p.2 p.1)
  (hfp:∀p∈news,∀i∈p.2.fp,p.2.k≠some i∧∃a,H'.L[i]? = some (some a)) :
  TRr D F (ρ++news.map (·.2)) (ts.zee olds (news.map (·.1))) {σ with H:=H'}:=by
 have kinds:∀s o,fnd (ts.zee olds (news.map (·.1))).o s=some o->(∃a p,s=ts.nx+a∧news[a]? = some p∧p.1=o)∨(o = .gone∧s∈olds)∨(s∉olds∧fnd ts.o s=some o):=λs o h=>by
  simp only [TS.zee] at h;rw [zji] at h;split at h
  ·rename_i o' ho';injection h with h;subst h;obtain ⟨a,h1,h2⟩:=zy7 _ _ _ _ ho';rw [Qal,Qae] at h2;obtain ⟨p,h3,h4⟩:=h2;exact .inl ⟨a,p,h1,h3,h4⟩
  ·rw [zji] at h;split at h
   ·rename_i o' ho';injection h with h;subst h;exact .inr (.inl (zu2 _ _ _ ho'))
   ·rename_i hn;exact .inr (.inr ⟨zqy _ _ hn,h⟩)
 have slotNew:∀(a:Nat) (p:TO D.T×Slot),news[a]? = some p->(ρ++news.map (·.2))[ts.nx+a]? = some p.2:=λa p h=>by
  rw [<-hR.nx,Qat (by omega),show ρ.length+a-ρ.length=a by omega,Qal,h];rfl
 have slotOld:∀s o sl,fnd ts.o s=some o->(ρ++news.map (·.2))[s]? = some sl->ρ[s]? = some sl:=λs o sl ho h=>by
  obtain ⟨q,h1,h2⟩:=hR.ob s o ho;rw [lookup_append h1] at h;rw [h1,h]
 have apart:∀s o sl i,fnd ts.o s=some o->o.live->s∉olds->ρ[s]? = some sl->sl.has i->∀s0∈olds,∀sl0,ρ[s0]? = some sl0->¬sl0.has i:=λs o sl i ho hl hno hs hk s0 h0 sl0 h1 h2=>by
  obtain ⟨o0,sl1,e1,e2,e3⟩:=hold s0 h0
  rw [h1] at e3;injection e3 with e3;subst e3
  have:=hR.inj s s0 o o0 sl sl0 i ho e1 hl e2 hs h1 hk h2;subst this;exact hno h0
 have mem:∀{a:Nat} {p:TO D.T×Slot},news[a]? = some p->p∈news:=λh=>Qav h
 have newold:∀(a:Nat) (p:TO D.T×Slot) s o sl i,news[a]? = some p->p.2.has i->fnd ts.o s=some o->o.live->s∉olds->ρ[s]? = some sl->sl.has i->False:=λa p s o sl i hp hi ho hl hno hs hk=>by
  rcases hhas p (mem hp) i hi with h|⟨s0,h0,sl0,h1,h2⟩
  ·have:=hR.lt ho hl hs hk;omega
  ·exact apart s o sl i ho hl hno hs hk s0 h0 sl0 h1 h2
 refine ⟨by simp [TS.zee,hR.nx],hR.nt,λj x hj => ?_,λs o ho => ?_,λs s' o o' sl sl' i h1 h2 l1 l2 r1 r2 k1 k2 => ?_,λs o sl i h1 l1 r1 k1 => ?_,hlv,hE,hR.e0,hR.d.more _,λi hi => ?_,λj sl hj=>lookup_append (hR.pin j sl hj),λs o sl i h1 l1 r1 k1 => ?_,λi s v h1 h2=>(hR.g i s v h1 h2).more _⟩
 ·obtain ⟨v,h1,h2⟩:=hR.tm j x hj;exact ⟨v,h1,h2.more _⟩
 ·rcases kinds s o ho with ⟨a,p,rfl,h2,rfl⟩|⟨rfl,h1⟩|⟨h1,h2⟩
  ·exact ⟨p.2,slotNew a p h2,hor p (mem h2)⟩
  ·obtain ⟨o0,sl,e1,e2,e3⟩:=hold s h1;exact ⟨sl,lookup_append e3,by simp only [OR]⟩
  ·obtain ⟨q,e1,e2⟩:=hR.ob s o h2;exact ⟨q,lookup_append e1,e2.mono _ λi hi hl=>hL i (hR.lt h2 hl e1 hi) (apart s o q i h2 hl h1 e1 hi)⟩
 ·rcases kinds s o h1 with ⟨a,p,rfl,a2,rfl⟩|⟨rfl,a1⟩|⟨a1,a2⟩
  ·rw [slotNew a p a2] at r1;injection r1 with r1;subst r1
   rcases kinds s' o' h2 with ⟨b,p',rfl,b2,rfl⟩|⟨rfl,b1⟩|⟨b1,b2⟩
   ·rw [slotNew b p' b2] at r2;injection r2 with r2;subst r2
    rw [hdis a b p p' i a2 b2 k1 k2]
   ·exact l2.elim
   ·exact (newold a p s' o' sl' i a2 k1 b2 l2 b1 (slotOld _ _ _ b2 r2) k2).elim
  ·exact l1.elim
  ·rcases kinds s' o' h2 with ⟨b,p',rfl,b2,rfl⟩|⟨rfl,b1⟩|⟨b1,b2⟩
   ·rw [slotNew b p' b2] at r2;injection r2 with r2;subst r2
    exact (newold b p' s o sl i b2 k2 a2 l1 a1 (slotOld _ _ _ a2 r1) k1).elim
   ·exact l2.elim
   ·exact hR.inj s s' o o' sl sl' i a2 b2 l1 l2 (slotOld _ _ _ a2 r1) (slotOld _ _ _ b2 r2) k1 k2
 ·rcases kinds s o h1 with ⟨a,p,rfl,a2,rfl⟩|⟨rfl,a1⟩|⟨a1,a2⟩
  ·rw [slotNew a p a2] at r1;injection r1 with r1;subst r1
   intro ho
   rcases hhas p (mem a2) i k1 with h|⟨s0,h0,sl0,h3,h4⟩
   ·have:=(hR.out i ho).1;omega
   ·obtain ⟨o0,sl1,e1,e2,e3⟩:=hold s0 h0;exact hR.mine s0 o0 sl0 i e1 e2 h3 h4 ho
  ·exact l1.elim
  ·exact hR.mine s o sl i a2 l1 (slotOld _ _ _ a2 r1) k1
 ·obtain ⟨h1,h2⟩:=hR.out i hi;refine ⟨Qbf h1 hlen,(hL i h1 λs0 h0 sl0 h3 h4 => ?_).trans h2⟩;obtain ⟨o0,sl1,e1,e2,e3⟩:=hold s0 h0;exact hR.mine s0 o0 sl0 i e1 e2 h3 h4 hi
 ·rcases kinds s o h1 with ⟨a,p,rfl,a2,rfl⟩|⟨rfl,a1⟩|⟨a1,a2⟩
  ·rw [slotNew a p a2] at r1;injection r1 with r1;subst r1
   exact hfp p (mem a2) i k1
  ·exact l1.elim
  ·have q1:=slotOld _ _ _ a2 r1;have hq:=hR.fpl s o sl i a2 l1 q1 k1;refine ⟨hq.1,?_⟩;show ∃a,H'.L[i]? = _;rw [hL i (hR.lt a2 l1 q1 (.inr k1)) (apart s o sl i a2 l1 a1 q1 (.inr k1))];exact hq.2
end
theorem ycn {T:Nat->Type} {a b:DTy} {x:a.S T} {y:b.S T} (h:zr4 a b x=some y):∃e:a=b,y=e▸x:=by
 unfold zr4 at h;split at h
 ·rename_i e;injection h with h;exact ⟨e,h.symm⟩
 ·cases h
theorem yd7 {T:Nat->Type}:∀{l:List DTy} {x z:HL T l} {f:Nat} {t:DTy} {y:t.S T},HL.upd l x f t y=some z->∀j,HL.nth l z j=if j=f then some ⟨t,y⟩ else HL.nth l x j
 |[],x,z,f,t,y,h=>by cases h
 |t0::l,x,z,0,t,y,h=>by
  unfold HL.upd at h
  cases h1:zr4 t t0 y with
  |none=>rw [h1] at h;cases h
  |some y'=>
  rw [h1] at h;injection h with h;subst h;obtain ⟨e1,e2⟩:=ycn h1;subst e1;subst e2;intro j
  cases j with
  |zero=>rfl
  |succ j=>rfl
 |t0::l,x,z,f+1,t,y,h=>by
  unfold HL.upd at h
  cases h1:HL.upd l x.2 f t y with
  |none=>rw [h1] at h;cases h
  |some z'=>
  rw [h1] at h;injection h with h;subst h;intro j
  cases j with
  |zero=>rfl
  |succ j=>
   have:=yd7 h1 j;simp only [HL.nth,this,Nat.add_right_cancel_iff]
theorem yfs {T:Nat->Type}:∀(l:List DTy) (x:HL T l) (j:Nat),HL.at l x j=HL.nth l x j
 |[],_,_=>rfl
 |_::_,_,0=>rfl
 |_::l,x,j+1=>yfs l x.2 j
section
variable {P : Program} {D : Dat} {F : Fr} {ρ : List Slot} {ts : TS D.T} {σ : St} {lv : Nat} {L : List (Option kz2)}
theorem yge {T:Nat->Type}:∀{l:List DTy} {x z:HL T l} {f:Nat} {t:DTy} {y:t.S T},HL.upd l x f t y=some z->f<l.length
 |[],x,z,f,t,y,h=>by cases h
 |t0::l,x,z,0,t,y,h=>by simp
 |t0::l,x,z,f+1,t,y,h=>by
  unfold HL.upd at h
  cases h1:HL.upd l x.2 f t y with
  |none=>rw [h1] at h;cases h
  |some z'=>have:=yge h1;simp;omega
theorem y99 {α:Type} {l:List α} {n:Nat} {a:α} (h:l[n]? = some a):l.set n a=l:=by
 apply List.ext_getElem?;intro i;rw [Qbe];split
 ·rename_i e;subst e;rw [Qbp (Qaa.1 h).1,h]
 ·rfl
theorem y3j (hD:D.Ok P) (hR:TRr D F ρ ts σ) {s c ty q f:Nat} {n:Int} {xs:List (D.T q)} (hs:fnd ts.o s=some (.deep ty q xs (some (n,f,c)))) {o:TO D.T} (hc:fnd ts.o c=some o) (hol:o.live) (hne:c≠s) {ty':Nat} {t':DTy} {ys:List (t'.S D.T)} (how:D.ow q f=some ty')
  {slc:Slot} (hslc:ρ[c]? = some slc) {fpc:List Nat} (hdo:DO D F.lv σ.H.L (.own ty') (.sl t') ys slc.v fpc) (hfpc:∀i∈fpc,slc.has i) (hnd:fpc.Nodup) {y:D.T q} {z:HL D.T (D.fl q)} (hy:ix xs n=some y) (hz:HL.upd (D.fl q) (D.get q y) f (.sl t') ys=some z) :
  ∃ρ',TRr D F ρ' ((ts.zee [s,c] [.deep ty q (xs.set n.toNat (D.make q z)) none]).z7g D (TV.ren D s ts.nx)) σ:=by
 obtain ⟨sl,k1,k2⟩:=hR.ob s _ hs;simp only [OR] at k2;obtain ⟨q1,q3⟩:=k2
 cases hk:sl.k with
 |none=>rw [hk] at q3;cases q3.2.2.2
 |some j=>
 rw [hk] at q3;obtain ⟨ver,cp,fps,e1,e2,e3,e4,e5,e6,e7⟩:=q3;obtain ⟨p1,p2⟩:=zh5 hy;have hlt:n.toNat<xs.length:=(Qaa.1 p2).1;have hw:sl.ws[n.toNat]? = some (sl.ws[n.toNat]'(by omega)):=Qab (by omega);have hc0:fps[n.toNat]? = some (fps[n.toNat]'(by omega)):=Qab (by omega);obtain ⟨vs,cs,b1,b2,b3,b4,b5⟩:=e6 n.toNat y _ _ p2 hw hc0
 have hf:=yge hz;obtain ⟨pf,hpf,_⟩:=HL.zi0 (D.fl q) (D.get q y) f hf;have hu:vs[f]? = some (vs[f]'(by omega)):=Qab (by omega);have hb:cs[f]? = some (cs[f]'(by omega)):=Qab (by omega);have hole:=b5 f pf _ _ hpf hu hb;rw [show z0b (some (n,f,c)) n.toNat f=some c by simp [z0b]] at hole;obtain ⟨g1,g2,g3,sl2,g4,g5⟩:=hole
 rw [hslc] at g4;injection g4 with g4;subst g4
 rw [g1] at hb;rw [g5] at hu;have hcs:(cs.set f fpc)[f]? = some fpc:=Qao (by omega);have hback:(cs.set f fpc).set f []=cs:=by rw [List.set_set];exact y99 hb
 have perm1:(cs.set f fpc).flatten.Perm (fpc++cs.flatten):=by
  have:=z69 (cs.set f fpc) f fpc fpc [] hcs (by simp);rw [hback] at this;exact this
 rw [b4] at hc0;have hfs:(fps.set n.toNat (cs.set f fpc).flatten)[n.toNat]? = some (cs.set f fpc).flatten:=Qao (by omega)
 have perm2:(fps.set n.toNat (cs.set f fpc).flatten).flatten.Perm (fpc++sl.fp):=by
  have:=z69 _ n.toNat _ fpc cs.flatten hfs perm1;rw [List.set_set,y99 hc0,<-e4] at this;exact this
 have hmem:∀i,i∈(fps.set n.toNat (cs.set f fpc).flatten).flatten->i∈fpc∨i∈sl.fp:=λi hi=>List.mem_append.1 (perm2.mem_iff.1 hi)
 have hap:∀i,slc.has i->sl.has i->False:=λi h1 h2=>hne (hR.inj c s o _ slc sl i hc hs hol trivial hslc k1 h1 h2)
 let sl':Slot:=⟨sl.v,sl.k,sl.ws,(fps.set n.toNat (cs.set f fpc).flatten).flatten⟩
 have hT:=hR.zee [s,c] (λs0 h0=>by
  rcases Qbg.1 h0 with rfl|h0
  ·exact ⟨_,sl,hs,trivial,k1⟩
  ·rcases Qbg.1 h0 with rfl|h0
   ·exact ⟨o,slc,hc,hol,hslc⟩
   ·cases h0) [((.deep ty q (xs.set n.toNat (D.make q z)) none:TO D.T),sl')] σ.H hR.lv hR.E (Qbo _) (λ_ _ _=>rfl)
  (λp hp i hi=>by
   rcases Qbg.1 hp with rfl|hp
   ·rcases hi with hi|hi
    ·exact .inr ⟨s,Qai,sl,k1,.inl hi⟩
    ·rcases hmem i hi with hi|hi
     ·exact .inr ⟨c,Qag _ Qai,slc,hslc,hfpc i hi⟩
     ·exact .inr ⟨s,Qai,sl,k1,.inr hi⟩
   ·cases hp)
  (λa b p p' i ha hb' _ _=>by
   have h1:=(Qaa.1 ha).1;have h2:=(Qaa.1 hb').1
   simp at h1 h2;omega)
  (λp hp=>by
   rcases Qbg.1 hp with rfl|hp
   ·simp only [OR];refine ⟨by simpa using q1,?_⟩;show (match sl.k with|none=>_|some j=>_);rw [hk];refine ⟨ver,cp,fps.set n.toNat (cs.set f fpc).flatten,e1,e2,by simpa using e3,rfl,?_,λm x w' c' m1 m2 m3 => ?_,λ_ _ _ h=>by cases h⟩
    ·refine perm2.nodup_iff.2 (List.nodup_append.2 ⟨hnd,e5,λa ha b hb' e => ?_⟩);subst e;exact hap a (hfpc a ha) (.inr hb')
    ·by_cases hm:n.toNat=m
     ·subst hm
      rw [Qao hlt] at m1;injection m1 with m1;subst m1
      rw [hfs] at m3;injection m3 with m3;subst m3
      have m2':sl.ws[n.toNat]? = some w':=m2
      rw [hw] at m2';injection m2' with m2'
      refine ⟨vs,cs.set f fpc,m2'.symm.trans b1,b2,by simpa using b3,rfl,λf' p' u' b' r1 r2 r3 => ?_⟩;show DO D F.lv σ.H.L (ydz (D.ow q f')) p'.1 p'.2 u' b';rw [hD.getMake,yd7 hz] at r1;by_cases hff:f'=f
      ·subst hff
       rw [Qbp rfl] at r1;injection r1 with r1;subst r1
       rw [hu] at r2;injection r2 with r2;subst r2
       rw [hcs] at r3;injection r3 with r3;subst r3
       rw [how];exact hdo
      ·rw [Qbq hff] at r1;rw [Qak (λe=>hff e.symm)] at r3;have:=b5 f' p' u' b' r1 r2 r3;rw [show z0b (some (n,f,c)) n.toNat f'=none by simp [z0b];exact λe=>hff e.symm] at this;exact this
     ·rw [Qak hm] at m1;rw [Qak hm] at m3;obtain ⟨vs',cs',d1,d2,d3,d4,d5⟩:=e6 m x w' c' m1 m2 m3;refine ⟨vs',cs',d1,d2,d3,d4,λf' p' u' b' r1 r2 r3 => ?_⟩;have:=d5 f' p' u' b' r1 r2 r3;rw [show z0b (some (n,f,c)) m f'=none by simp [z0b];exact λe=>(hm e).elim] at this;exact this
   ·cases hp)
  (λp hp i hi=>by
   rcases Qbg.1 hp with rfl|hp
   ·rcases hmem i hi with hi|hi
    ·refine ⟨λe=>hap i (hfpc i hi) (.inl e),?_⟩;exact hR.at hc hol hslc (hfpc i hi)
    ·exact hR.fpl s _ sl i hs trivial k1 hi
   ·cases hp)
 refine ⟨_,hT.z7g (TV.ren D s ts.nx) λx v h=>VR.ren (sl:=sl) (sl':=sl') (lookup_append k1) ?_ rfl h⟩;rw [<-hR.nx];simp
theorem TRr.ye0 (hR:TRr D F ρ ts σ) {s:Nat} {o:TO D.T} {sl:Slot} (hs:fnd ts.o s=some o) (hl:o.live) (h:ρ[s]? = some sl) (hn:sl.fp.Nodup):sl.all.Nodup:=by
 unfold Slot.all
 cases hk:sl.k with
 |none=>simpa using hn
 |some j=>
  show (j::sl.fp).Nodup;refine List.nodup_cons.2 ⟨λhm => ?_,hn⟩;exact (hR.fpl s o sl j hs hl h hm).1 hk
theorem zwp {R:Type} (hD:D.Ok P) (hR:TRr D F ρ ts σ) {s:Nat} {k:TS D.T->Option R} {r:R} (h:ts.fold D s k=some r):∃ts' ρ',TRr D F ρ' ts' σ∧k ts'=some r∧ts'.t=ts.t.map (λp=>(p.1,TV.ren D s ts.nx p.2))∧ts'.nt=ts.nt:=by
 unfold TS.fold at h;split at h
 ·rename_i ty q xs n f c hs;split at h
  ·rename_i ty' how;split at h
   ·rename_i ty2 q' ys hc;split at h
    ·rename_i hcc;obtain ⟨rfl,hne⟩:=hcc;obtain ⟨y,hy,h⟩:=z0u h;split at h
     ·rename_i z hz;obtain ⟨slc,c1,c2⟩:=hR.ob c _ hc
      have hn:slc.fp.Nodup:=by
       have c3:=c2;simp only [OR] at c3;have c4:=c3.2
       cases hk:slc.k with
       |none=>rw [hk] at c4;rw [c4.2.2.1];exact List.nodup_nil
       |some j=>rw [hk] at c4;obtain ⟨_,_,_,_,_,_,_,c5,_⟩:=c4;exact c5
      obtain ⟨ρ',w⟩:=y3j hD hR hs hc trivial hne how c1 (y6g c2) (λi hi=>Slot.znw.1 hi) (hR.ye0 hc trivial c1 hn) hy hz;exact ⟨_,ρ',w,h,rfl,rfl⟩
     ·cases h
    ·cases h
   ·rename_i ty2 t' ys hc;split at h
    ·rename_i hcc;obtain ⟨rfl,hne,hpl⟩:=hcc;obtain ⟨y,hy,h⟩:=z0u h;split at h
     ·rename_i z hz;obtain ⟨slc,c1,c2⟩:=hR.ob c _ hc;obtain ⟨ρ',w⟩:=y3j hD hR hs hc trivial hne how c1 (yji c2 hpl) (λi hi=>.inl (by cases hk:slc.k <;> rw [hk] at hi <;> simp at hi;rw [hi])) (by cases slc.k <;> simp) hy hz;exact ⟨_,ρ',w,h,rfl,rfl⟩
     ·cases h
    ·cases h
   ·cases h
  ·cases h
 ·cases h
end
section
variable {P : Program} {D : Dat} {F : Fr} {ρ : List Slot} {ts : TS D.T} {σ : St} {lv : Nat} {L : List (Option kz2)}
theorem y9v {t:DTy} {x:t.S D.T} {w:V} {c:List Nat} (h:DO D lv L .el t x w c) (ht:D.zju t=true):DR D t x w:=by
 cases h with
 |elf _ h=>exact h
 |el hl hc h=>
  rename_i i y vs cs;refine .st _ _ _ hl λf p u h1 h2 => ?_
  have hf:f<(D.fl i).length:=(HL.z9v _ _ _ _ h1).1;obtain ⟨b,hb⟩:∃b,cs[f]? = some b:=⟨_,Qab (show f<cs.length by omega)⟩;have:=h f p u b h1 h2 hb;rw [zq9 ht i f hf rfl] at this
  cases this with
  |dat h=>exact h
theorem ycw {q:Nat} {x:D.T q} {w:V} {c:List Nat} (h:DO D lv L .el (.st q) x w c) (ht:D.owns q=true) (ρ:List Slot) (n:Nat):EO D ρ lv L q none n x w c:=by
 cases h with
 |elf h1 h=>
  simp only [Dat.owns,List.any_eq_true,List.mem_range] at ht;obtain ⟨f,hf,ho⟩:=ht
  rw [h1 q f hf rfl] at ho;cases ho
 |el hl hc h=>exact ⟨_,_,rfl,hl,hc,rfl,λf p u b h1 h2 h3=>h f p u b h1 h2 h3⟩
theorem ygg {ty:Nat} {t:DTy} {xs:List (t.S D.T)} {v:V} {fp:List Nat} (h:DO D lv L (.own ty) (.sl t) xs v fp) (h1:D.zju t=true) (hu:t ≠ .int .u8):∃sl:Slot,sl.v=v∧v.leaf=true∧sl.all=fp∧∀ρ,OR D ρ lv L sl (.acc ty t xs true):=by
 cases h with
 |nil h hv=>
  refine ⟨⟨v,none,[],[]⟩,rfl,by rcases hv with rfl|rfl <;> rfl,rfl,λρ => ?_⟩;unfold OR;refine ⟨rfl,λj x w hj=>by simp at hj,?_⟩
  rcases hv with rfl|rfl
  · exact .inl ⟨rfl,rfl⟩
  · exact .inr ⟨⟨rfl,hu⟩,λ_=>rfl⟩
 |own hL hl hf he=>
  rename_i j ver cp ws fps;refine ⟨⟨.hs lv j ver 0 ws.length false,some j,ws,fps.flatten⟩,rfl,rfl,rfl,λρ => ?_⟩;unfold OR;refine ⟨hl,λn x w h2 h3 => ?_,ver,cp,rfl,hL⟩;have hn:n<fps.length:=by rw [hf];exact (Qaa.1 h2).1
  exact y9v (he n x w _ h2 h3 (Qab hn)) h1
theorem yin {ty q:Nat} {xs:List (D.T q)} {v:V} {fp:List Nat} (h:DO D lv L (.own ty) (.sl (.st q)) xs v fp) (h1:D.owns q=true) (hn:fp.Nodup):∃sl:Slot,sl.v=v∧v.leaf=true∧sl.all=fp∧∀ρ,OR D ρ lv L sl (.deep ty q xs none):=by
 cases h with
 |nil h hv=>
  refine ⟨⟨v,none,[],[]⟩,rfl,by rcases hv with rfl|rfl <;> rfl,rfl,λρ => ?_⟩;unfold OR
  exact ⟨rfl,rfl,hv,rfl,rfl⟩
 |own hL hl hf he=>
  rename_i j ver cp ws fps;refine ⟨⟨.hs lv j ver 0 ws.length false,some j,ws,fps.flatten⟩,rfl,rfl,rfl,λρ => ?_⟩;unfold OR;exact ⟨hl,ver,cp,fps,rfl,hL,hf,rfl,(List.nodup_cons.1 hn).2,λn x w c h2 h3 h4=>ycw (he n x w c h2 h3 h4) h1 ρ n,λ_ _ _ h=>by cases h⟩
theorem y00 (hD:D.Ok P) (hR:TRr D F ρ ts σ) {s ty q f:Nat} {n:Int} {xs:List (D.T q)} (hs:fnd ts.o s=some (.deep ty q xs none)) {ty':Nat} {t':DTy} {ys:List (t'.S D.T)} (how:D.ow q f=some ty')
  {y:D.T q} (hy:ix xs n=some y) (hz:HL.nth (D.fl q) (D.get q y) f=some ⟨.sl t',ys⟩) {to:TO D.T} (hto:∀v fp,DO D F.lv σ.H.L (.own ty') (.sl t') ys v fp->fp.Nodup->∃slc:Slot,slc.v=v∧v.leaf=true∧slc.all=fp∧∀ρ,OR D ρ F.lv σ.H.L slc to) :
  ∃ρ',TRr D F ρ' ((ts.zee [s] [.deep ty q xs (some (n,f,ts.nx+1)),to]).z7g D (TV.ren D s ts.nx)) σ∧∃j ver m w u,σ.H.L[j]? = some (some (.arr ver ty (D.len (.st q)) m w))∧(∃sl,ρ[s]? = some sl∧sl.v = .hs F.lv j ver 0 m.length false)∧(m[n.toNat]?.bind λx=>x.cells[f]?)=some u∧VR D ρ' F.lv (.own (ts.nx+1)) u:=by
 obtain ⟨sl,k1,k2⟩:=hR.ob s _ hs;simp only [OR] at k2;obtain ⟨q1,q3⟩:=k2;obtain ⟨p1,p2⟩:=zh5 hy;have hlt:n.toNat<xs.length:=(Qaa.1 p2).1
 cases hk:sl.k with
 |none=>rw [hk] at q3;rw [q3.1] at hlt;simp at hlt
 |some j=>
 rw [hk] at q3;obtain ⟨ver,cp,fps,e1,e2,e3,e4,e5,e6,e7⟩:=q3;have hw:sl.ws[n.toNat]? = some (sl.ws[n.toNat]'(by omega)):=Qab (by omega);have hc0:fps[n.toNat]? = some (fps[n.toNat]'(by omega)):=Qab (by omega);obtain ⟨vs,cs,b1,b2,b3,b4,b5⟩:=e6 n.toNat y _ _ p2 hw hc0;have hf:=(HL.z9v _ _ _ _ hz).1
 have hu:vs[f]? = some (vs[f]'(by omega)):=Qab (by omega);have hb:cs[f]? = some (cs[f]'(by omega)):=Qab (by omega);have hdo:DO D F.lv σ.H.L (ydz (D.ow q f)) (.sl t') ys _ _:=b5 f ⟨.sl t',ys⟩ _ _ hz hu hb;rw [how] at hdo;rw [b4] at hc0
 have perm0:sl.fp.Perm ((cs[f]'(by omega))++(fps.set n.toNat (cs.set f []).flatten).flatten):=by rw [e4];exact z69 fps n.toNat _ _ _ hc0 (z69 cs f _ _ [] hb (by simp))
 obtain ⟨slc,c1,c2,c3,c4⟩:=hto _ _ hdo (List.nodup_append.1 (perm0.nodup_iff.1 e5)).1;have perm2:sl.fp.Perm (slc.all++(fps.set n.toNat (cs.set f []).flatten).flatten):=by rw [c3];exact perm0
 have hnd:=perm2.nodup_iff.1 e5;obtain ⟨hn1,hn2,hn3⟩:=List.nodup_append.1 hnd;have hin:∀i,slc.has i->i∈sl.fp:=λi h=>perm2.mem_iff.2 (List.mem_append_left _ (Slot.znw.2 h))
 have hin2:∀i,i∈(fps.set n.toNat (cs.set f []).flatten).flatten->i∈sl.fp:=λi h=>perm2.mem_iff.2 (List.mem_append_right _ h)
 let sl':Slot:=⟨sl.v,sl.k,sl.ws,(fps.set n.toNat (cs.set f []).flatten).flatten⟩
 have hkn:∀i,i∈sl.fp->sl.k≠some i:=λi h=>(hR.fpl s _ sl i hs trivial k1 h).1
 have hget1:(ρ++[sl',slc])[ts.nx]? = some sl':=by rw [<-hR.nx];simp
 have hget2:(ρ++[sl',slc])[ts.nx+1]? = some slc:=by rw [<-hR.nx,Qat (by omega)];simp
 have hT:=hR.zee [s] (λs0 h0=>by
  rcases Qbg.1 h0 with rfl|h0
  ·exact ⟨_,sl,hs,trivial,k1⟩
  ·cases h0) [((.deep ty q xs (some (n,f,ts.nx+1)):TO D.T),sl'),(to,slc)] σ.H hR.lv hR.E (Qbo _) (λ_ _ _=>rfl)
  (λp hp i hi=>by
   refine .inr ⟨s,Qai,sl,k1,?_⟩
   rcases Qbg.1 hp with rfl|hp
   ·rcases hi with hi|hi
    ·exact .inl hi
    ·exact .inr (hin2 i hi)
   ·rcases Qbg.1 hp with rfl|hp
    ·exact .inr (hin i hi)
    ·cases hp)
  (λa b p p' i ha hb' h1 h2=>by
   have apart:sl'.has i->slc.has i->False:=λh1 h2=>by
    rcases h1 with h1|h1
    ·exact hkn i (hin i h2) h1
    ·exact hn3 i (Slot.znw.2 h2) i h1 rfl
   have l1:=(Qaa.1 ha).1;have l2:=(Qaa.1 hb').1;simp at l1 l2
   match a,b,ha,hb',l1,l2 with
   |0,0,_,_,_,_=>rfl
   |1,1,_,_,_,_=>rfl
   |0,1,ha,hb',_,_=>simp at ha hb';subst ha;subst hb';exact (apart h1 h2).elim
   |1,0,ha,hb',_,_=>simp at ha hb';subst ha;subst hb';exact (apart h2 h1).elim
   |a+2,_,_,_,l1,_=>omega
   |0,b+2,_,_,_,l2=>omega
   |1,b+2,_,_,_,l2=>omega)
  (λp hp=>by
   rcases Qbg.1 hp with rfl|hp
   ·simp only [OR];refine ⟨q1,?_⟩;show (match sl.k with|none=>_|some j=>_);rw [hk];refine ⟨ver,cp,fps.set n.toNat (cs.set f []).flatten,e1,e2,by simpa using e3,rfl,hn2,λm x w' c' m1 m2 m3 => ?_,λn' f' s' e => ?_⟩
    ·by_cases hm:n.toNat=m
     ·subst hm
      rw [p2] at m1;injection m1 with m1;subst m1
      rw [Qao (by omega)] at m3;injection m3 with m3;subst m3
      have m2':sl.ws[n.toNat]? = some w':=m2
      rw [hw] at m2';injection m2' with m2'
      refine ⟨vs,cs.set f [],m2'.symm.trans b1,b2,by simpa using b3,rfl,λf' p' u' b' r1 r2 r3 => ?_⟩;by_cases hff:f'=f
      ·subst hff;rw [show z0b (some (n,f',ts.nx+1)) n.toNat f'=some (ts.nx+1) by simp [z0b]]
       rw [Qao (by omega)] at r3;injection r3 with r3;subst r3
       rw [hu] at r2;injection r2 with r2;subst r2
       exact ⟨rfl,by rw [how];rfl,c2,slc,hget2,c1.symm⟩
      ·rw [show z0b (some (n,f,ts.nx+1)) n.toNat f'=none by simp [z0b];exact λe=>hff e.symm];rw [Qak (λe=>hff e.symm)] at r3;exact b5 f' p' u' b' r1 r2 r3
     ·rw [Qak hm] at m3;obtain ⟨vs',cs',d1,d2,d3,d4,d5⟩:=e6 m x w' c' m1 m2 m3;refine ⟨vs',cs',d1,d2,d3,d4,λf' p' u' b' r1 r2 r3 => ?_⟩;rw [show z0b (some (n,f,ts.nx+1)) m f'=none by simp [z0b];exact λe=>(hm e).elim];exact d5 f' p' u' b' r1 r2 r3
    ·simp only [Qbm,Qbr] at e;obtain ⟨rfl,rfl,rfl⟩:=e;exact ⟨p1,hlt⟩
   ·rcases Qbg.1 hp with rfl|hp
    ·exact c4 _
    ·cases hp)
  (λp hp i hi=>by
   rcases Qbg.1 hp with rfl|hp
   ·exact hR.fpl s _ sl i hs trivial k1 (hin2 i hi)
   ·rcases Qbg.1 hp with rfl|hp
    ·refine ⟨λe => ?_,(hR.fpl s _ sl i hs trivial k1 (hin i (.inr hi))).2⟩;have:slc.all=i::slc.fp:=by unfold Slot.all;rw [e];rfl
     rw [this] at hn1;exact (List.nodup_cons.1 hn1).1 hi
    ·cases hp)
 refine ⟨_,hT.z7g (TV.ren D s ts.nx) λx v h=>VR.ren (sl:=sl) (sl':=sl') (lookup_append k1) hget1 rfl h,j,ver,sl.ws,cp,vs[f]'(by omega),e2,⟨sl,k1,e1⟩,?_,?_⟩
 ·rw [hw];show (sl.ws[n.toNat]'(by omega)).cells[f]? = _;rw [b1];exact hu
 ·simp only [VR];exact ⟨slc,hget2,c1.symm,c2⟩
theorem yf2 {R:Type} (hD:D.Ok P) (hR:TRr D F ρ ts σ) {s f:Nat} {n:Int} {k:TV D.T->TS D.T->Option R} {r:R} (h:ts.opn D s n f k=some r) :
  ∃ts' ρ' ty q j ver cp m u,k (.own (ts.nx+1)) ts'=some r∧TRr D F ρ' ts' σ∧σ.H.L[j]? = some (some (.arr ver ty (D.len (.st q)) m cp))∧(∃sl,ρ[s]? = some sl∧sl.v = .hs F.lv j ver 0 m.length false)∧(m[n.toNat]?.bind λx=>x.cells[f]?)=some u∧VR D ρ' F.lv (.own (ts.nx+1)) u:=by
 unfold TS.opn at h;split at h
 ·rename_i ty q xs hs;split at h
  ·rename_i ty' how;obtain ⟨y,hy,h⟩:=z0u h;rw [yfs] at h;split at h
   ·rename_i q' ys hz;split at h
    ·rename_i ho;obtain ⟨ρ',w1,j,ver,m,w,u,w2,w3,w4,w5⟩:=y00 hD hR hs how hy hz λv fp hd hn=>yin hd ho hn
     exact ⟨_,ρ',ty,q,j,ver,w,m,u,h,w1,w2,w3,w4,w5⟩
    ·rename_i ho;obtain ⟨ρ',w1,j,ver,m,w,u,w2,w3,w4,w5⟩:=y00 hD hR hs how hy hz λv fp hd hn=>ygg hd (by simp [Dat.zju,ho]) (by intro e;cases e)
     exact ⟨_,ρ',ty,q,j,ver,w,m,u,h,w1,w2,w3,w4,w5⟩
   ·rename_i t' ys _ hz;split at h
    ·rename_i hc;simp only [Qaf,Bool.not_eq_true',decide_eq_false_iff_not] at hc;obtain ⟨ρ',w1,j,ver,m,w,u,w2,w3,w4,w5⟩:=y00 hD hR hs how hy hz λv fp hd hn=>ygg hd hc.1 hc.2
     exact ⟨_,ρ',ty,q,j,ver,w,m,u,h,w1,w2,w3,w4,w5⟩
    ·cases h
   ·cases h
  ·cases h
 ·cases h
end
theorem ygq {T:Nat->Type} {a b:DTy} {x:a.S T} {y:b.S T} (h:zr4 a b x=some y):∃e:a=b,y=e▸x:=by
 unfold zr4 at h;split at h
 ·rename_i e;injection h with h;exact ⟨e,h.symm⟩
 ·cases h
theorem HL.zk6 {T:Nat->Type}:∀{a b:List DTy} (x:HL T a) (y:HL T b),HL.fst a (HL.app x y)=x
 |[],_,_,_=>rfl
 |_::_,_,x,y=>by simp only [HL.app,HL.fst];rw [HL.zk6];rfl
theorem HL.zk1 {T:Nat->Type}:∀{a b:List DTy} (x:HL T a) (y:HL T b),HL.snd a (HL.app x y)=y
 |[],_,_,_=>rfl
 |_::_,_,x,y=>by simp only [HL.app,HL.snd];rw [HL.zk1]
section
variable (D : Dat) (n : Nat) (M : z1p D.T) (c : TV D.T)
theorem yi2:zv6 D n .any c M = .ok (M,()):=rfl
theorem yjs (t:DTy):zv6 D n (.d t) c M=(match asD D t c with
 | .ok x=>.ok (M,(x,()))
 | .frz s=>.frz s
 | .bad=>.bad):=rfl
theorem yiz (f:Nat) (a b:List Sh) (f':Nat) (a' b':List (TV D.T)):zv6 D n (.fn f a b) (.fn f' a' b') M=if f=f' then (match zou D n a a' M with
 | .ok (M,x)=>match zou D n b b' M with
   | .ok (M,y)=>.ok (M,HL.app x y)
   | .frz s=>.frz s
   | .bad=>.bad
 | .frz s=>.frz s
 | .bad=>.bad) else .bad:=rfl
theorem yeh (cs:List (TV D.T)) (sh:Sh) (l:List Sh):zou D n (sh::l) (c::cs) M=(match zv6 D n sh c M with
 | .ok (M,x)=>match zou D n l cs M with
   | .ok (M,y)=>.ok (M,HL.app x y)
   | .frz s=>.frz s
   | .bad=>.bad
 | .frz s=>.frz s
 | .bad=>.bad):=rfl
variable (m : Nat → Nat)
theorem yj4 (f:Nat) (a b:List Sh) (x:HL D.T (Sh.z1a a)) (y:HL D.T (Sh.z1a b)):zi8 D m (.fn f a b) (HL.app x y) = .fn f (z15 D m a x) (z15 D m b y):=by
 show TV.fn f (z15 D m a (HL.fst _ (HL.app x y))) (z15 D m b (HL.snd _ (HL.app x y)))=_;rw [HL.zk6,HL.zk1]
theorem yf0 (sh:Sh) (l:List Sh) (x:HL D.T sh.tys) (y:HL D.T (Sh.z1a l)):z15 D m (sh::l) (HL.app x y)=zi8 D m sh x::z15 D m l y:=by
 show zi8 D m sh (HL.fst _ (HL.app x y))::z15 D m l (HL.snd _ (HL.app x y))=_;rw [HL.zk6,HL.zk1]
end
theorem z4b {α:Type}:∀{l:List (Nat×α)} {j:Nat} {a:α},fnd l j=some a->(j,a)∈l
 |[],j,a,h=>by simp [fnd] at h
 |(i,b)::r,j,a,h=>by
  rw [zz7] at h;split at h
  · rename_i e;injection h with h;subst h;subst e;exact Qai
  · exact Qag _ (z4b h)
section
variable {P : Program} {D : Dat} {F : Fr} {ρ : List Slot} {ts : TS D.T} {σ : St} {lv : Nat} {T : Nat → Type}
def zk7:Slot:=⟨.nils,none,[],[]⟩
def Src.is (ρ:List Slot) (sl:Slot):Src T->Prop
 | .slot s=>ρ[s]? = some sl
 | .nil=>sl=zk7
def Agr (ρ:List Slot) (M:z1p T) (ρ':List Slot):Prop:=∀(k:Nat) (src:Src T),fnd M k=some src->∃sl,ρ'[k]? = some sl∧src.is ρ sl
structure MOk (n:Nat) (M:z1p T):Prop where
 lt:∀k src,fnd M k=some src->k<n
 inj:∀k k' s,fnd M k=some (.slot s)->fnd M k'=some (.slot s)->k=k'
 one:∀k src,(k,src)∈M->fnd M k=some src
def zxc (M M':z1p T):Prop:=∀k src,fnd M k=some src->fnd M' k=some src
theorem zxc.agr {M M':z1p T} (h:zxc M M') {ρ':List Slot} (k:Agr ρ M' ρ'):Agr ρ M ρ':=λj src hj=>k j src (h j src hj)
theorem z4t {n k s:Nat} {M M':z1p T} (h:zc4 n k s M=some M'):zxc M M'∧fnd M' k=some (.slot s)∧(MOk n M->MOk n M'):=by
 unfold zc4 at h;split at h
 ·rename_i s' hk;split at h
  ·rename_i e;injection h with h;subst h;subst e;exact ⟨λ_ _ h=>h,hk,λh=>h⟩
  ·cases h
 ·cases h
 ·rename_i hk;split at h
  ·rename_i hc;injection h with h;subst h
   refine ⟨λj src hj => ?_,by rw [zz7,Qbp rfl],λhM=>⟨λj src hj => ?_,λj j' q hj hj' => ?_,λj src hm=>by
    rw [zz7]
    rcases Qbg.1 hm with hm|hm
    ·injection hm with h1 h2;subst h1;subst h2;rw [Qbp rfl]
    ·have:=hM.one j src hm;split
     ·rename_i e;subst e;rw [hk] at this;cases this
     ·exact this⟩⟩
   ·rw [zz7];split
    ·rename_i e;subst e;rw [hk] at hj;cases hj
    ·exact hj
   ·rw [zz7] at hj;split at hj
    ·rename_i e;subst e;exact hc.1
    ·exact hM.lt j src hj
   ·have hno:∀j',fnd M j'≠some (.slot s):=λj' hj'=>by
     have:=Qar.1 hc.2 _ (z4b hj');simp [Src.ygi] at this
    rw [zz7] at hj hj';split at hj <;> split at hj'
    ·rename_i e1 e2;rw [<-e1,<-e2]
    ·injection hj with hj;injection hj with hj;subst hj;exact (hno _ hj').elim
    ·injection hj' with hj';injection hj' with hj';subst hj';exact (hno _ hj).elim
    ·exact hM.inj j j' q hj hj'
  ·cases h
theorem zu4 {n k:Nat} {M M':z1p T} (h:y9r n k M=some M'):zxc M M'∧fnd M' k=some .nil∧(MOk n M->MOk n M'):=by
 unfold y9r at h;split at h
 ·rename_i hk;injection h with h;subst h;exact ⟨λ_ _ h=>h,hk,λh=>h⟩
 ·cases h
 ·rename_i hk;split at h
  ·rename_i hc;injection h with h;subst h
   refine ⟨λj src hj => ?_,by rw [zz7,Qbp rfl],λhM=>⟨λj src hj => ?_,λj j' q hj hj' => ?_,λj src hm=>by
    rw [zz7]
    rcases Qbg.1 hm with hm|hm
    ·injection hm with h1 h2;subst h1;subst h2;rw [Qbp rfl]
    ·have:=hM.one j src hm;split
     ·rename_i e;subst e;rw [hk] at this;cases this
     ·exact this⟩⟩
   ·rw [zz7];split
    ·rename_i e;subst e;rw [hk] at hj;cases hj
    ·exact hj
   ·rw [zz7] at hj;split at hj
    ·rename_i e;subst e;exact hc
    ·exact hM.lt j src hj
   ·rw [zz7] at hj hj';split at hj
    ·injection hj with hj;cases hj
    ·split at hj'
     ·injection hj' with hj';cases hj'
     ·exact hM.inj j j' q hj hj'
  ·cases h
theorem FR.inj {α:Type} {a b:α} (h:FR.ok a=FR.ok b):a=b:=by cases h;rfl
theorem zpx {o:Option (z1p T)} {M:z1p T} {u:Unit} (h:frU o = .ok (M,u)):o=some M:=by
 unfold frU at h;split at h
 ·injection h with h;injection h with h;rw [h]
 ·cases h
def zpg (D:Dat) (ρ:List Slot) (lv n:Nat) (M M':z1p D.T) (x:TV D.T) (v:V):Prop:=zxc M M'∧(MOk n M->MOk n M')∧∀ρ',Agr ρ M' ρ'->VR D ρ' lv x v
def FitL (D:Dat) (ρ:List Slot) (lv n:Nat) (M M':z1p D.T) (xs:List (TV D.T)) (vs:List V):Prop:=zxc M M'∧(MOk n M->MOk n M')∧∀ρ',Agr ρ M' ρ'->VRL D ρ' lv xs vs
theorem EO.yjt {ρ':List Slot} {L:List (Option kz2)} {q n:Nat} {x:D.T q} {w:V} {c:List Nat} (h:EO D ρ lv L q none n x w c):EO D ρ' lv L q none n x w c:=h
theorem EO.z2g {ρ':List Slot} {L:List (Option kz2)} {q n f s s':Nat} {i:Int} {x:D.T q} {w:V} {c:List Nat} {sl:Slot} (h:EO D ρ lv L q (some (i,f,s)) n x w c) (h1:ρ[s]? = some sl) (h2:ρ'[s']? = some sl):EO D ρ' lv L q (some (i,f,s')) n x w c:=by
 obtain ⟨vs,cs,a1,a2,a3,a4,a5⟩:=h;refine ⟨vs,cs,a1,a2,a3,a4,λf' p u b e1 e2 e3 => ?_⟩;have:=a5 f' p u b e1 e2 e3;by_cases hc:i.toNat=n∧f=f'
 ·simp only [z0b,Qbp hc] at this ⊢;obtain ⟨g1,g2,g3,sl',g4,g5⟩:=this
  rw [h1] at g4;injection g4 with g4;subst g4
  exact ⟨g1,g2,g3,sl,h2,g5⟩
 ·simp only [z0b,Qbq hc] at this ⊢;exact this
variable (hD : D.Ok P)
include hD
mutual
theorem zj6 {n:Nat}:∀(sh:Sh) {c:TV D.T} {v:V} {M M':z1p D.T} {x:HL D.T sh.tys},zv6 D n sh c M = .ok (M',x)->VR D ρ lv c v->zpg D ρ lv n M M' (zi8 D (λk=>k) sh x) v
 | .any,c,v,M,M',x,h,hv=>by
   rw [yi2] at h;cases h
   exact ⟨λ_ _ h=>h,λh=>h,λρ' _=>(by simp only [VR]:VR D ρ' lv .any v)⟩
 | .d t,c,v,M,M',x,h,hv=>by
   rw [yjs] at h;split at h
   · rename_i y hy;cases h;exact ⟨λ_ _ h=>h,λh=>h,λρ' _=>(VR.tv hD (zgi hD hy hv):VR D ρ' lv (D.tv t y) v)⟩
   · cases h
   · cases h
 | .own k,c,v,M,M',x,h,hv=>by
   show zpg D ρ lv n M M' (.own k) v
   cases c <;> first|(cases h;done)|skip
   case own s=>
    obtain ⟨h1,h2,h3⟩:=z4t (zpx h);refine ⟨h1,h3,λρ' ha => ?_⟩;obtain ⟨sl,e1,e2⟩:=ha k _ h2;simp only [Src.is] at e2;simp only [VR] at hv;obtain ⟨sl',e3,e4,e5⟩:=hv
    rw [e2] at e3;injection e3 with e3;subst e3
    simp only [VR];exact ⟨sl,e1,e4,e5⟩
   case nils=>
    obtain ⟨h1,h2,h3⟩:=zu4 (zpx h);refine ⟨h1,h3,λρ' ha => ?_⟩;obtain ⟨sl,e1,e2⟩:=ha k _ h2;simp only [Src.is] at e2;subst e2;simp only [VR] at hv;subst hv;simp only [VR]
    exact ⟨zk7,e1,rfl,rfl⟩
 | .ptr k off,c,v,M,M',x,h,hv=>by
   show zpg D ρ lv n M M' (.ptr k off) v
   cases c <;> first|(cases h;done)|skip
   case ptr s off'=>
    replace h:(if off=off' then frU (zc4 n k s M) else .bad) = .ok (M',()):=h;by_cases e:off=off'
    · rw [Qbp e] at h;subst e;obtain ⟨h1,h2,h3⟩:=z4t (zpx h);refine ⟨h1,h3,λρ' ha => ?_⟩;obtain ⟨sl,e1,e2⟩:=ha k _ h2;simp only [Src.is] at e2;simp only [VR] at hv;obtain ⟨sl',i,e3,e4,e5⟩:=hv
      rw [e2] at e3;injection e3 with e3;subst e3
      simp only [VR];exact ⟨sl,i,e1,e4,e5⟩
    · rw [Qbq e] at h;cases h
 | .map k,c,v,M,M',x,h,hv=>by
   show zpg D ρ lv n M M' (.map k) v
   cases c <;> first|(cases h;done)|skip
   case map s=>
    obtain ⟨h1,h2,h3⟩:=z4t (zpx h);refine ⟨h1,h3,λρ' ha => ?_⟩;obtain ⟨sl,e1,e2⟩:=ha k _ h2;simp only [Src.is] at e2;simp only [VR] at hv;obtain ⟨sl',i,e3,e4,e5⟩:=hv
    rw [e2] at e3;injection e3 with e3;subst e3
    simp only [VR]
    exact ⟨sl,i,e1,e4,e5⟩
 | .mc t,c,v,M,M',x,h,hv=>by
   cases c <;> first|(cases h;done)|skip
   case mc t' es=>
    replace h:(match zmj t' t es with|some es=>FR.ok (M,(List.map Prod.fst es,(List.map Prod.snd es,())))|none=>.bad) = .ok (M',x):=h
    cases hys:zmj t' t es with
    |none=>rw [hys] at h;cases h
    |some ys=>
     rw [hys] at h;obtain ⟨e1,e2⟩:=zpq hys;subst e1;replace e2:ys=es:=e2;subst e2;cases h;refine ⟨λ_ _ h=>h,λh=>h,λρ' ha => ?_⟩;show VR D ρ' lv (.mc t' (List.zip (List.map Prod.fst ys) (List.map Prod.snd ys))) v;rw [show List.zip (List.map Prod.fst ys) (List.map Prod.snd ys)=ys from zse ys];unfold VR at hv ⊢
     exact hv
 | .bp k,c,v,M,M',x,h,hv=>by
   show zpg D ρ lv n M M' (.bp k 0) v
   cases c <;> first|(cases h;done)|skip
   case bp s off=>
    cases off with
    |succ off=>cases h
    |zero=>
    obtain ⟨h1,h2,h3⟩:=z4t (zpx h);refine ⟨h1,h3,λρ' ha => ?_⟩;obtain ⟨sl,e1,e2⟩:=ha k _ h2;simp only [Src.is] at e2;simp only [VR] at hv;obtain ⟨sl',i,e3,e4,e5⟩:=hv
    rw [e2] at e3;injection e3 with e3;subst e3
    simp only [VR]
    exact ⟨sl,i,e1,e4,e5⟩
 | .nilp,c,v,M,M',x,h,hv=>by
   show zpg D ρ lv n M M' .nilp v
   cases c <;> first|(cases h;done)|skip
   cases h;exact ⟨λ_ _ h=>h,λh=>h,λρ' _=>by simpa only [VR] using hv⟩
 | .nilf,c,v,M,M',x,h,hv=>by
   show zpg D ρ lv n M M' .nilf v
   cases c <;> first|(cases h;done)|skip
   cases h;exact ⟨λ_ _ h=>h,λh=>h,λρ' _=>by simpa only [VR] using hv⟩
 | .nili,c,v,M,M',x,h,hv=>by
   show zpg D ρ lv n M M' .nili v
   cases c <;> first|(cases h;done)|skip
   cases h;exact ⟨λ_ _ h=>h,λh=>h,λρ' _=>by simpa only [VR] using hv⟩
 | .nils,c,v,M,M',x,h,hv=>by
   show zpg D ρ lv n M M' .nils v
   cases c <;> first|(cases h;done)|skip
   cases h;exact ⟨λ_ _ h=>h,λh=>h,λρ' _=>by simpa only [VR] using hv⟩
 | .fn f a b,c,v,M,M',x,h,hv=>by
   cases c <;> first|(cases h;done)|skip
   case fn f' a' b'=>
    rw [yiz] at h;by_cases e:f=f'
    · rw [Qbp e] at h;subst e;split at h
      · rename_i M1 y hy;split at h
        · rename_i M2 z hz;cases h;simp only [VR] at hv;obtain ⟨as,bs,rfl,k1,k2⟩:=hv;obtain ⟨a1,a2,a3⟩:=za8 a hy k1;obtain ⟨b1,b2,b3⟩:=za8 b hz k2;refine ⟨λj src hj=>b1 j src (a1 j src hj),λh=>b2 (a2 h),λρ' ha => ?_⟩;rw [yj4];simp only [VR];exact ⟨as,bs,rfl,a3 ρ' (b1.agr ha),b3 ρ' ha⟩
        · cases h
        · cases h
      · cases h
      · cases h
    · rw [Qbq e] at h;cases h
 | .iface t s,c,v,M,M',x,h,hv=>by
   show zpg D ρ lv n M M' (.iface t (zi8 D (λk=>k) s x)) v
   cases c <;> first|(cases h;done)|skip
   case iface t' y'=>
    replace h:(if t=t' then zv6 D n s y' M else .bad) = .ok (M',x):=h;by_cases e:t=t'
    · rw [Qbp e] at h;subst e;simp only [VR] at hv;obtain ⟨y,rfl,k1⟩:=hv;obtain ⟨a1,a2,a3⟩:=zj6 s h k1;exact ⟨a1,a2,λρ' ha=>by simp only [VR];exact ⟨y,rfl,a3 ρ' ha⟩⟩
    · rw [Qbq e] at h;cases h
 | .agg cs,c,v,M,M',x,h,hv=>by
   show zpg D ρ lv n M M' (.agg (z15 D (λk=>k) cs x)) v
   cases c <;> first|(cases h;done)|skip
   case agg vs=>
    replace h:zou D n cs vs M = .ok (M',x):=h;simp only [VR] at hv;obtain ⟨y,rfl,k1⟩:=hv;obtain ⟨a1,a2,a3⟩:=za8 cs h k1
    exact ⟨a1,a2,λρ' ha=>by simp only [VR];exact ⟨y,rfl,a3 ρ' ha⟩⟩
 | .tup cs,c,v,M,M',x,h,hv=>by
   show zpg D ρ lv n M M' (.tup (z15 D (λk=>k) cs x)) v
   cases c <;> first|(cases h;done)|skip
   case tup vs=>
    replace h:zou D n cs vs M = .ok (M',x):=h;simp only [VR] at hv;obtain ⟨y,rfl,k1⟩:=hv;obtain ⟨a1,a2,a3⟩:=za8 cs h k1
    exact ⟨a1,a2,λρ' ha=>by simp only [VR];exact ⟨y,rfl,a3 ρ' ha⟩⟩
 | .ref cs off,c,v,M,M',x,h,hv=>by
   show zpg D ρ lv n M M' (.ref (z15 D (λk=>k) cs x) off) v
   cases c <;> first|(cases h;done)|skip
   case ref vs off'=>
    replace h:(if off=off' then zou D n cs vs M else .bad) = .ok (M',x):=h;by_cases e:off=off'
    · rw [Qbp e] at h;subst e;simp only [VR] at hv;obtain ⟨y,rfl,k1⟩:=hv;obtain ⟨a1,a2,a3⟩:=za8 cs h k1;exact ⟨a1,a2,λρ' ha=>by simp only [VR];exact ⟨y,rfl,a3 ρ' ha⟩⟩
    · rw [Qbq e] at h;cases h
 | .dp k off,c,v,M,M',x,h,hv=>by
   show zpg D ρ lv n M M' (.dp k x.1 off) v
   cases c <;> first|(cases h;done)|skip
   case dp s i off'=>
    replace h:(if off=off' then (match zc4 n k s M with|some M=>FR.ok (M,((i,()):HL D.T [.int .i64]))|none=>.bad) else .bad) = .ok (M',x):=h;by_cases e:off=off'
    · rw [Qbp e] at h;subst e
      cases hb:zc4 n k s M with
      |none=>rw [hb] at h;cases h
      |some M1=>
       rw [hb] at h;cases h;obtain ⟨h1,h2,h3⟩:=z4t hb;refine ⟨h1,h3,λρ' ha => ?_⟩;obtain ⟨sl,e1,e2⟩:=ha k _ h2;simp only [Src.is] at e2;simp only [VR] at hv;obtain ⟨sl',j,ver,m,e3,e4⟩:=hv
       rw [e2] at e3;injection e3 with e3;subst e3
       show VR D ρ' lv (.dp k i off) v;simp only [VR];exact ⟨sl,j,ver,m,e1,e4⟩
    · rw [Qbq e] at h;cases h
 | .ap k t off,c,v,M,M',x,h,hv=>by
   show zpg D ρ lv n M M' (.ap k t x.1 x.2.1 off) v
   cases c <;> first|(cases h;done)|skip
   case ap s t' i y off'=>
    replace h:(if off=off' then (match zr4 t' t y with|some y=>(match zc4 n k s M with|some M=>FR.ok (M,((i,(y,())):HL D.T [.int .i64,t]))|none=>.bad)|none=>.bad) else .bad) = .ok (M',x):=h;by_cases e:off=off'
    · rw [Qbp e] at h;subst e
      cases hc:zr4 t' t y with
      |none=>rw [hc] at h;cases h
      |some z=>
      rw [hc] at h;obtain ⟨et,ez⟩:=ygq hc;subst et;replace ez:z=y:=ez;subst ez;replace h:(match zc4 n k s M with|some M=>FR.ok (M,((i,(z,())):HL D.T [.int .i64,t']))|none=>.bad) = .ok (M',x):=h
      cases hb:zc4 n k s M with
      |none=>rw [hb] at h;cases h
      |some M1=>
       rw [hb] at h;cases h;obtain ⟨h1,h2,h3⟩:=z4t hb;refine ⟨h1,h3,λρ' ha => ?_⟩;obtain ⟨sl,e1,e2⟩:=ha k _ h2;simp only [Src.is] at e2;simp only [VR] at hv;obtain ⟨sl',w,e3,e4⟩:=hv
       rw [e2] at e3;injection e3 with e3;subst e3
       show VR D ρ' lv (.ap k t' i z off) v;simp only [VR];exact ⟨sl,w,e1,e4⟩
    · rw [Qbq e] at h;cases h
theorem za8 {n:Nat}:∀(l:List Sh) {cs:List (TV D.T)} {vs:List V} {M M':z1p D.T} {x:HL D.T (Sh.z1a l)},zou D n l cs M = .ok (M',x)->VRL D ρ lv cs vs->FitL D ρ lv n M M' (z15 D (λk=>k) l x) vs
 |[],cs,vs,M,M',x,h,hv=>by
  cases cs with
  |nil=>cases h;exact ⟨λ_ _ h=>h,λh=>h,λρ' _=>(by simpa only [VRL] using hv:VRL D ρ' lv [] vs)⟩
  |cons c cs=>cases h
 |sh::l,cs,vs,M,M',x,h,hv=>by
  cases cs with
  |nil=>cases h
  |cons c cs=>
   simp only [VRL] at hv;obtain ⟨v,r,rfl,k1,k2⟩:=hv;rw [yeh] at h;split at h
   · rename_i M1 y hy;split at h
     · rename_i M2 z hz;cases h;obtain ⟨a1,a2,a3⟩:=zj6 sh hy k1;obtain ⟨b1,b2,b3⟩:=za8 l hz k2;refine ⟨λj src hj=>b1 j src (a1 j src hj),λh=>b2 (a2 h),λρ' ha => ?_⟩;rw [yf0];simp only [VRL];exact ⟨v,r,rfl,a3 ρ' (b1.agr ha),b3 ρ' ha⟩
     · cases h
     · cases h
   · cases h
   · cases h
end
theorem ybp {n:Nat} (hR:TRr D F ρ ts σ) {o:OSh} {src:Src D.T} {M M':z1p D.T} {x:HL D.T o.tys} (h:zvp D n ts o src M = .ok (M',x)) :
  zxc M M'∧(MOk n M->MOk n M')∧(∀s,src = .slot s->∃o',fnd ts.o s=some o'∧o'.live)∧∀ρ' sl,Agr ρ M' ρ'->src.is ρ sl->OR D ρ' F.lv σ.H.L sl (zie D (λk=>k) o x):=by
 cases o with
 |cells cs=>
  cases src with
  |nil=>cases h
  |slot s=>
   simp only [zvp] at h
   cases ho:fnd ts.o s with
   |none=>rw [ho] at h;cases h
   |some o'=>
    rw [ho] at h
    cases o' <;> first|(cases h;done)|skip
    rename_i vs;obtain ⟨sl',k1,k2⟩:=hR.ob s _ ho;simp only [OR] at k2;obtain ⟨i,us,q1,q2,q3⟩:=k2;obtain ⟨a1,a2,a3⟩:=za8 hD cs h q3;refine ⟨a1,a2,λs' e=>by injection e with e;subst e;exact ⟨_,ho,trivial⟩,λρ' sl ha hs => ?_⟩;simp only [Src.is] at hs
    rw [k1] at hs;injection hs with hs;subst hs
    simp only [zie,OR]
    exact ⟨i,us,q1,q2,a3 ρ' ha⟩
 |st i=>
  cases src with
  |nil=>cases h
  |slot s=>
   simp only [zvp] at h
   cases ho:fnd ts.o s with
   |none=>rw [ho] at h;cases h
   |some o'=>
    rw [ho] at h
    cases o' <;> first|(cases h;done)|skip
    rename_i vs;replace h:(match z4z D (D.fl i) vs with| .ok x=>FR.ok (M,(D.make i x,()))| .frz s=>.frz s| .bad=>.bad) = .ok (M',x):=h;obtain ⟨sl',k1,k2⟩:=hR.ob s _ ho;simp only [OR] at k2;obtain ⟨i',us,q1,q2,q3⟩:=k2
    cases hl:z4z D (D.fl i) vs with
    |frz s=>rw [hl] at h;cases h
    |bad=>rw [hl] at h;cases h
    |ok y=>
     rw [hl] at h;cases h;refine ⟨λ_ _ h=>h,λh=>h,λs' e=>by injection e with e;subst e;exact ⟨_,ho,trivial⟩,λρ' sl ha hs => ?_⟩;simp only [Src.is] at hs
     rw [k1] at hs;injection hs with hs;subst hs
     obtain ⟨m1,m2⟩:=zjp hl q3;show OR D ρ' F.lv σ.H.L sl' (.cells (D.leaves (D.fl i) (D.get i (D.make i y))));rw [hD.getMake];simp only [OR];refine ⟨i',us,q1,q2,.of (by rw [z5f,m1]) λj c v hc hv => ?_⟩;rw [ze6,Qae] at hc;obtain ⟨p,hp,rfl⟩:=hc
     exact VR.leaf (m2 j p v hp hv)
 |acc ty t w=>
  cases src with
  |nil=>
   cases h;refine ⟨λ_ _ h=>h,λh=>h,λs e=>(by cases e),λρ' sl ha hs => ?_⟩;simp only [Src.is] at hs;subst hs;show OR D ρ' F.lv σ.H.L zk7 (.acc ty t [] w);simp only [OR,zk7]
   exact ⟨rfl,λj x v hx=>by simp at hx,.inl ⟨trivial,trivial⟩⟩
  |slot s=>
   simp only [zvp] at h
   cases ho:fnd ts.o s with
   |none=>rw [ho] at h;cases h
   |some o'=>
    rw [ho] at h
    cases o' <;> first|(cases h;done)|skip
    rename_i ty' t' xs w';replace h:(if ty=ty'∧(w=true->w'=true) then (match z89 t' t xs with|some xs=>FR.ok (M,(xs,()))|none=>.bad) else .bad) = .ok (M',x):=h;by_cases hc:ty=ty'∧(w=true->w'=true)
    · rw [Qbp hc] at h
      cases hys:z89 t' t xs with
      |none=>rw [hys] at h;cases h
      |some ys=>
       rw [hys] at h;obtain ⟨e1,e2⟩:=z3b hys;subst e1;replace e2:ys=xs:=e2;subst e2;cases h;obtain ⟨sl',k1,k2⟩:=hR.ob s _ ho;refine ⟨λ_ _ h=>h,λh=>h,λs' e=>by injection e with e;subst e;exact ⟨_,ho,trivial⟩,λρ' sl ha hs => ?_⟩;simp only [Src.is] at hs
       rw [k1] at hs;injection hs with hs;subst hs
       obtain ⟨hty,hw⟩:=hc;subst hty;simp only [OR] at k2;obtain ⟨q1,q2,q3⟩:=k2;show OR D ρ' F.lv σ.H.L sl' (.acc ty t' ys w);simp only [OR];refine ⟨q1,q2,?_⟩
       cases hk:sl'.k with
       |none=>
        rw [hk] at q3
        rcases q3 with q|⟨q,q'⟩
        · exact .inl q
        · exact .inr ⟨q,λe=>q' (hw e)⟩
       |some i=>rw [hk] at q3;exact q3
    · rw [Qbq hc] at h;cases h
 |siter=>
  cases src with
  |nil=>cases h
  |slot s=>
   simp only [zvp] at h
   cases ho:fnd ts.o s with
   |none=>rw [ho] at h;cases h
   |some o'=>
    rw [ho] at h
    cases o' <;> first|(cases h;done)|skip
    rename_i l pos;cases h;obtain ⟨sl',k1,k2⟩:=hR.ob s _ ho;refine ⟨λ_ _ h=>h,λh=>h,λs' e=>by injection e with e;subst e;exact ⟨_,ho,trivial⟩,λρ' sl ha hs => ?_⟩;simp only [Src.is] at hs
    rw [k1] at hs;injection hs with hs;subst hs
    exact k2
 |mp ty t=>
  cases src with
  |nil=>cases h
  |slot s=>
   simp only [zvp] at h
   cases ho:fnd ts.o s with
   |none=>rw [ho] at h;cases h
   |some o'=>
    rw [ho] at h
    cases o' <;> first|(cases h;done)|skip
    rename_i ty' t' es;replace h:(if ty=ty' then (match zmj t' t es with|some es=>FR.ok (M,(List.map Prod.fst es,(List.map Prod.snd es,())))|none=>.bad) else .bad) = .ok (M',x):=h;by_cases hc:ty=ty'
    · rw [Qbp hc] at h
      cases hys:zmj t' t es with
      |none=>rw [hys] at h;cases h
      |some ys=>
       rw [hys] at h;obtain ⟨e1,e2⟩:=zpq hys;subst e1;replace e2:ys=es:=e2;subst e2;cases h;obtain ⟨sl',k1,k2⟩:=hR.ob s _ ho;refine ⟨λ_ _ h=>h,λh=>h,λs' e=>by injection e with e;subst e;exact ⟨_,ho,trivial⟩,λρ' sl ha hs => ?_⟩;simp only [Src.is] at hs
       rw [k1] at hs;injection hs with hs;subst hs
       subst hc;show OR D ρ' F.lv σ.H.L sl' (.mp ty t' (List.zip (List.map Prod.fst ys) (List.map Prod.snd ys)));rw [show List.zip (List.map Prod.fst ys) (List.map Prod.snd ys)=ys from zse ys];exact k2
    · rw [Qbq hc] at h;cases h
 |mit t=>
  cases src with
  |nil=>cases h
  |slot s=>
   simp only [zvp] at h
   cases ho:fnd ts.o s with
   |none=>rw [ho] at h;cases h
   |some o'=>
    rw [ho] at h
    cases o' <;> first|(cases h;done)|skip
    rename_i t' last es;replace h:(match zmj t' t es with|some es=>FR.ok (M,(List.map Prod.fst es,(List.map Prod.snd es,())))|none=>.bad) = .ok (M',x):=h
    cases hys:zmj t' t es with
    |none=>rw [hys] at h;cases h
    |some ys=>
     rw [hys] at h;obtain ⟨e1,e2⟩:=zpq hys;subst e1;replace e2:ys=es:=e2;subst e2;cases h;obtain ⟨sl',k1,k2⟩:=hR.ob s _ ho;refine ⟨λ_ _ h=>h,λh=>h,λs' e=>by injection e with e;subst e;exact ⟨_,ho,trivial⟩,λρ' sl ha hs => ?_⟩;simp only [Src.is] at hs
     rw [k1] at hs;injection hs with hs;subst hs
     show OR D ρ' F.lv σ.H.L sl' (.mit t' none (List.zip (List.map Prod.fst ys) (List.map Prod.snd ys)));rw [show List.zip (List.map Prod.fst ys) (List.map Prod.snd ys)=ys from zse ys];simp only [OR] at k2 ⊢;obtain ⟨i,fs,vis,q1,q2,q3,q4,q5,_⟩:=k2
     exact ⟨i,fs,vis,q1,q2,q3,q4,q5,λp hp=>by cases hp⟩
 |bld ty k=>
  cases src with
  |nil=>cases h
  |slot s=>
   simp only [zvp] at h
   cases ho:fnd ts.o s with
   |none=>rw [ho] at h;cases h
   |some o'=>
    rw [ho] at h
    cases o' <;> first|(cases h;done)|skip
    rename_i ty' b;replace h:(if ty=ty' then (match b with|some q=>frU (zc4 n k q M)|none=>frU (y9r n k M)) else .bad) = .ok (M',x):=h;by_cases hty:ty=ty'
    · rw [Qbp hty] at h;subst hty;obtain ⟨sl',k1,k2⟩:=hR.ob s _ ho;simp only [OR] at k2;obtain ⟨i,u,c,q1,q2,q3,q4⟩:=k2
      cases b with
      |some q=>
       obtain ⟨h1,h2,h3⟩:=z4t (zpx h);refine ⟨h1,h3,λs' e=>by injection e with e;subst e;exact ⟨_,ho,trivial⟩,λρ' sl ha hs => ?_⟩;simp only [Src.is] at hs
       rw [k1] at hs;injection hs with hs;subst hs
       obtain ⟨sq,e1,e2⟩:=ha k _ h2;simp only [Src.is] at e2;simp only [y6d,VR] at q4;obtain ⟨sq',e3,e4,e5⟩:=q4
       rw [e2] at e3;injection e3 with e3;subst e3
       simp only [zie,OR]
       exact ⟨i,u,c,q1,q2,q3,by simp only [y6d,VR];exact ⟨sq,e1,e4,e5⟩⟩
      |none=>
       obtain ⟨h1,h2,h3⟩:=zu4 (zpx h);refine ⟨h1,h3,λs' e=>by injection e with e;subst e;exact ⟨_,ho,trivial⟩,λρ' sl ha hs => ?_⟩;simp only [Src.is] at hs
       rw [k1] at hs;injection hs with hs;subst hs
       obtain ⟨sq,e1,e2⟩:=ha k _ h2;simp only [Src.is] at e2;subst e2;simp only [y6d,VR] at q4;subst q4;simp only [zie,OR];exact ⟨i,u,_,q1,q2,q3,by simp only [y6d,VR];exact ⟨zk7,e1,rfl,rfl⟩⟩
    · rw [Qbq hty] at h;cases h
 |deep ty q=>
  cases src with
  |nil=>
   cases h;refine ⟨λ_ _ h=>h,λh=>h,λs e=>(by cases e),λρ' sl ha hs => ?_⟩;simp only [Src.is] at hs;subst hs;show OR D ρ' F.lv σ.H.L zk7 (.deep ty q [] none);simp only [OR,zk7]
   exact ⟨rfl,trivial,.inl trivial,trivial,trivial⟩
  |slot s=>
   simp only [zvp] at h
   cases ho:fnd ts.o s with
   |none=>rw [ho] at h;cases h
   |some o'=>
    rw [ho] at h
    cases o' <;> first|(cases h;done)|skip
    rename_i ty' q' xs h';replace h:(if ty=ty' then (match h' with|none=>(match z89 (.st q') (.st q) xs with|some xs=>FR.ok (M,((xs,()):HL D.T [.sl (.st q)]))|none=>.bad)|some _=>.frz s) else .bad) = .ok (M',x):=h;by_cases hc:ty=ty'
    · rw [Qbp hc] at h;subst hc
      cases h' with
      |some p=>cases h
      |none=>
      replace h:(match z89 (.st q') (.st q) xs with|some xs=>FR.ok (M,((xs,()):HL D.T [.sl (.st q)]))|none=>.bad) = .ok (M',x):=h
      cases hys:z89 (.st q') (.st q) xs with
      |none=>rw [hys] at h;cases h
      |some ys=>
       rw [hys] at h;obtain ⟨e1,e2⟩:=z3b hys;injection e1 with e1;subst e1;replace e2:ys=xs:=e2;subst e2;cases h;obtain ⟨sl',k1,k2⟩:=hR.ob s _ ho;refine ⟨λ_ _ h=>h,λh=>h,λs' e=>by injection e with e;subst e;exact ⟨_,ho,trivial⟩,λρ' sl ha hs => ?_⟩;simp only [Src.is] at hs
       rw [k1] at hs;injection hs with hs;subst hs
       show OR D ρ' F.lv σ.H.L sl' (.deep ty q' ys none);simp only [OR] at k2 ⊢;refine ⟨k2.1,?_⟩;have k3:=k2.2
       cases hk:sl'.k with
       |none=>rw [hk] at k3;exact k3
       |some j=>
        rw [hk] at k3;obtain ⟨ver,cp,fps,q1,q2,q3,q4,q5,q6,q7⟩:=k3;exact ⟨ver,cp,fps,q1,q2,q3,q4,q5,λn x w c a b d=>(q6 n x w c a b d).yjt,q7⟩
    · rw [Qbq hc] at h;cases h
 |deeph ty q f k=>
  cases src with
  |nil=>cases h
  |slot s=>
   simp only [zvp] at h
   cases ho:fnd ts.o s with
   |none=>rw [ho] at h;cases h
   |some o'=>
    rw [ho] at h
    cases o' <;> first|(cases h;done)|skip
    rename_i ty' q' xs h';replace h:(if ty=ty' then (match h' with|some p=>if f=p.2.1 then (match z89 (.st q') (.st q) xs with|some xs=>(match zc4 n k p.2.2 M with|some M=>FR.ok (M,((xs,(p.1,())):HL D.T [.sl (.st q),.int .i64]))|none=>.bad)|none=>.bad) else .bad|none=>.bad) else .bad) = .ok (M',x):=h;by_cases hc:ty=ty'
    · rw [Qbp hc] at h;subst hc
      cases h' with
      |none=>cases h
      |some p=>
      obtain ⟨i,f',c⟩:=p;replace h:(if f=f' then (match z89 (.st q') (.st q) xs with|some xs=>(match zc4 n k c M with|some M=>FR.ok (M,((xs,(i,())):HL D.T [.sl (.st q),.int .i64]))|none=>.bad)|none=>.bad) else .bad) = .ok (M',x):=h;by_cases hf:f=f'
      · rw [Qbp hf] at h;subst hf
        cases hys:z89 (.st q') (.st q) xs with
        |none=>rw [hys] at h;cases h
        |some ys=>
         rw [hys] at h;obtain ⟨e1,e2⟩:=z3b hys;injection e1 with e1;subst e1;replace e2:ys=xs:=e2;subst e2;replace h:(match zc4 n k c M with|some M=>FR.ok (M,((ys,(i,())):HL D.T [.sl (.st q'),.int .i64]))|none=>.bad) = .ok (M',x):=h
         cases hb:zc4 n k c M with
         |none=>rw [hb] at h;cases h
         |some M1=>
         rw [hb] at h;cases h;obtain ⟨h1,h2,h3⟩:=z4t hb;obtain ⟨sl',k1,k2⟩:=hR.ob s _ ho;refine ⟨h1,h3,λs' e=>by injection e with e;subst e;exact ⟨_,ho,trivial⟩,λρ' sl ha hs => ?_⟩;simp only [Src.is] at hs
         rw [k1] at hs;injection hs with hs;subst hs
         obtain ⟨slc,d1,d2⟩:=ha k _ h2;simp only [Src.is] at d2;show OR D ρ' F.lv σ.H.L sl' (.deep ty q' ys (some (i,f,k)));simp only [OR] at k2 ⊢;refine ⟨k2.1,?_⟩;have k3:=k2.2
         cases hk:sl'.k with
         |none=>rw [hk] at k3;cases k3.2.2.2
         |some j=>
          rw [hk] at k3;obtain ⟨ver,cp,fps,q1,q2,q3,q4,q5,q6,q7⟩:=k3;exact ⟨ver,cp,fps,q1,q2,q3,q4,q5,λn x w cc a b d=>(q6 n x w cc a b d).z2g d2 d1,λn' f' s' e=>by injection e with e;injection e with e4 e5;subst e4;exact q7 _ _ _ rfl⟩
      · rw [Qbq hf] at h;cases h
    · rw [Qbq hc] at h;cases h
omit hD in
theorem y3g {m:Nat->Nat} {o:OSh} {x:HL D.T o.tys}:(zie D m o x).live:=by cases o <;> trivial
omit hD in
theorem ybj (n:Nat) (o:OSh) (os:List OSh) (k:Nat) (M:z1p D.T):zw5 D n ts (o::os) k M=(match fnd M k with
 |some src=>match zvp D n ts o src M with
  | .ok (M,x)=>match zw5 D n ts os (k+1) M with
    | .ok (M,y)=>.ok (M,HL.app x y)
    | .frz s=>.frz s
    | .bad=>.bad
  | .frz s=>.frz s
  | .bad=>.bad
 |none=>.bad):=rfl
omit hD in
theorem ybs (m:Nat->Nat) (o:OSh) (os:List OSh) (k:Nat) (x:HL D.T o.tys) (y:HL D.T (z09 os)):z2m D m (o::os) k (HL.app x y)=(m k,zie D m o x)::z2m D m os (k+1) y:=by
 show (m k,zie D m o (HL.fst _ (HL.app x y)))::z2m D m os (k+1) (HL.snd _ (HL.app x y))=_;rw [HL.zk6,HL.zk1]
theorem zjs {n:Nat} (hR:TRr D F ρ ts σ):∀(os:List OSh) {k:Nat} {M M':z1p D.T} {x:HL D.T (z09 os)},zw5 D n ts os k M = .ok (M',x) ->
  zxc M M'∧(MOk n M->MOk n M')∧(∀j,j<os.length->∃src,fnd M' (k+j)=some src∧∀s,src = .slot s->∃o',fnd ts.o s=some o'∧o'.live) ∧
  (∀ρ',Agr ρ M' ρ'->∀j o,(j,o)∈z2m D (λk=>k) os k x->k<=j∧j<k+os.length∧o.live∧∃sl,ρ'[j]? = some sl∧OR D ρ' F.lv σ.H.L sl o)
 |[],k,M,M',x,h=>by
  cases h
  exact ⟨λ_ _ h=>h,λh=>h,λj hj=>by simp at hj,λρ' _ j o hm=>by cases hm⟩
 |o::os,k,M,M',x,h=>by
  rw [ybj] at h;split at h
  · rename_i src hsrc;split at h
    · rename_i M1 y hy;split at h
      · rename_i M2 z hz;cases h;obtain ⟨a1,a2,a3,a4⟩:=ybp hD hR hy;obtain ⟨b1,b2,b3,b4⟩:=zjs hR os hz;refine ⟨λj s hj=>b1 j s (a1 j s hj),λh=>b2 (a2 h),λj hj => ?_,λρ' ha j o' hm => ?_⟩
        · cases j with
          |zero=>exact ⟨src,b1 _ _ (a1 _ _ hsrc),a3⟩
          |succ j=>
           obtain ⟨src',e1,e2⟩:=b3 j (by simpa using hj);exact ⟨src',by rw [<-e1];congr 1;omega,e2⟩
        · rw [ybs] at hm
          rcases Qbg.1 hm with hm|hm
          · injection hm with h1 h2;subst h1;subst h2;obtain ⟨sl,e1,e2⟩:=ha j src (b1 _ _ (a1 _ _ hsrc));exact ⟨Qbo _,by simp,y3g,sl,e1,a4 ρ' sl (b1.agr ha) e2⟩
          · obtain ⟨e1,e2,e3⟩:=b4 ρ' ha j o' hm;exact ⟨by omega,by simp only [List.length_cons];omega,e3⟩
      · cases h
      · cases h
    · cases h
    · cases h
  · cases h
omit hD in
theorem ybw (n:Nat) (p:Nat×Sh) (l:List (Nat×Sh)) (M:z1p D.T):yae D n ts (p::l) M=(match fnd ts.t p.1 with
 |some v=>match zv6 D n p.2 v M with
  | .ok (M,x)=>match yae D n ts l M with
    | .ok (M,y)=>.ok (M,HL.app x y)
    | .frz s=>.frz s
    | .bad=>.bad
  | .frz s=>.frz s
  | .bad=>.bad
 |none=>.bad):=rfl
omit hD in
theorem yf9 (m:Nat->Nat) (p:Nat×Sh) (l:List (Nat×Sh)) (x:HL D.T p.2.tys) (y:HL D.T (ydx l)):y8h D m (p::l) (HL.app x y)=(p.1,zi8 D m p.2 x)::y8h D m l y:=by
 show (p.1,zi8 D m p.2 (HL.fst _ (HL.app x y)))::y8h D m l (HL.snd _ (HL.app x y))=_;rw [HL.zk6,HL.zk1]
theorem zu7 {n:Nat} (hR:TRr D F ρ ts σ):∀(l:List (Nat×Sh)) {M M':z1p D.T} {x:HL D.T (ydx l)},yae D n ts l M = .ok (M',x) ->
  zxc M M'∧(MOk n M->MOk n M')∧∀ρ',Agr ρ M' ρ'->∀j c,(j,c)∈y8h D (λk=>k) l x->∃v,σ.t[j]? = some v∧VR D ρ' F.lv c v
 |[],M,M',x,h=>by
  cases h
  exact ⟨λ_ _ h=>h,λh=>h,λρ' _ j o hm=>by cases hm⟩
 |p::l,M,M',x,h=>by
  rw [ybw] at h;split at h
  · rename_i c hc;split at h
    · rename_i M1 y hy;split at h
      · rename_i M2 z hz;cases h;obtain ⟨v,k1,k2⟩:=hR.tm _ _ hc;obtain ⟨a1,a2,a3⟩:=zj6 hD p.2 hy k2;obtain ⟨b1,b2,b3⟩:=zu7 hR l hz;refine ⟨λj s hj=>b1 j s (a1 j s hj),λh=>b2 (a2 h),λρ' ha j c' hm => ?_⟩;rw [yf9] at hm
        rcases Qbg.1 hm with hm|hm
        · injection hm with h1 h2;subst h1;subst h2;exact ⟨v,k1,a3 ρ' (b1.agr ha)⟩
        · exact b3 ρ' ha j c' hm
      · cases h
      · cases h
    · cases h
    · cases h
  · cases h
omit hD in
theorem ybr (hR:TRr D F ρ ts σ) {M:z1p D.T} {n:Nat} (hM:MOk n M) (hall:∀j,j<n->∃src,fnd M j=some src∧∀s,src = .slot s->∃o',fnd ts.o s=some o'∧o'.live) :
  ∃ρ':List Slot,ρ'.length=n∧Agr ρ M ρ'∧∀j sl,ρ'[j]? = some sl->∃src,fnd M j=some src∧src.is ρ sl:=by
 have step:∀m,m<=n->∃ρ':List Slot,ρ'.length=m∧∀j,j<m->∃sl src,ρ'[j]? = some sl∧fnd M j=some src∧src.is ρ sl:=λm=>by
  induction m with
  |zero=>exact λ_=>⟨[],rfl,λj hj=>by omega⟩
  |succ m ih=>
   intro hm;obtain ⟨ρ',h1,h2⟩:=ih (by omega);obtain ⟨src,k1,k2⟩:=hall m (by omega)
   have hsl:∃sl,src.is ρ sl:=by
    cases src with
    |nil=>exact ⟨zk7,rfl⟩
    |slot s=>
     obtain ⟨o',e1,_⟩:=k2 s rfl;obtain ⟨sl,e2,_⟩:=hR.ob s o' e1;exact ⟨sl,e2⟩
   obtain ⟨sl,hsl⟩:=hsl;refine ⟨ρ'++[sl],by simp [h1],λj hj => ?_⟩;by_cases e:j=m
   · subst e;exact ⟨sl,src,by rw [<-h1];simp,k1,hsl⟩
   · obtain ⟨sl',src',e1,e2,e3⟩:=h2 j (by omega);exact ⟨sl',src',lookup_append e1,e2,e3⟩
 obtain ⟨ρ',h1,h2⟩:=step n (Qbo _);refine ⟨ρ',h1,λk src hk => ?_,λj sl hj => ?_⟩
 ·obtain ⟨sl,src',e1,e2,e3⟩:=h2 k (hM.lt k src hk)
  rw [hk] at e2;injection e2 with e2;subst e2
  exact ⟨sl,e1,e3⟩
 ·obtain ⟨sl',src',e1,e2,e3⟩:=h2 j (by rw [<-h1];exact (Qaa.1 hj).1)
  rw [hj] at e1;injection e1 with e1;subst e1
  exact ⟨src',e2,e3⟩
omit hD in
theorem zhl:∀{n k:Nat} {src:Src T},fnd (pins n) k=some src->k<n∧src = .slot k
 |0,k,src,h=>by simp [pins,fnd] at h
 |n+1,k,src,h=>by
  simp only [pins,zz7] at h;split at h
  · rename_i e;injection h with h;subst e;exact ⟨by omega,h.symm⟩
  · obtain ⟨h1,h2⟩:=zhl h;exact ⟨by omega,h2⟩
omit hD in
theorem ztv:∀{n k:Nat},k<n->fnd (pins (T:=T) n) k=some (.slot k)
 |0,k,h=>by omega
 |n+1,k,h=>by
  simp only [pins,zz7];split
  · rename_i e;rw [e]
  · exact ztv (by omega)
omit hD in
theorem zys:∀{n k:Nat} {src:Src T},(k,src)∈pins (T:=T) n->fnd (pins n) k=some src
 |0,k,src,h=>by cases h
 |n+1,k,src,h=>by
  simp only [pins,zz7]
  rcases Qbg.1 h with h|h
  · injection h with h1 h2;subst h1;subst h2;rw [Qbp rfl]
  · have:=zys h;split
    · rename_i e;subst e;have:=(zhl this).1;omega
    · exact this
omit hD in
theorem y0b {n:Nat}:∀{gs:List Nat} {g:List (Option Nat)} {M M':z1p T},ybm n gs g M=some M'->zxc M M'∧(MOk n M->MOk n M')∧∀(i k:Nat),gs[i]? = some k->∃s:Nat,g[i]? = some (some s)∧fnd M' k=some (.slot s)
 |[],[],M,M',h=>by
  injection h with h;subst h
  exact ⟨λ_ _ h=>h,λh=>h,λi k hk=>by simp at hk⟩
 |[],_::_,M,M',h=>by simp [ybm] at h
 |k::ks,[],M,M',h=>by simp [ybm] at h
 |k::ks,none::ss,M,M',h=>by simp [ybm] at h
 |k::ks,some s::ss,M,M',h=>by
  simp only [ybm] at h;split at h
  · rename_i M1 hM1;obtain ⟨a1,a2,a3⟩:=z4t hM1;obtain ⟨b1,b2,b3⟩:=y0b h;refine ⟨λj src hj=>b1 j src (a1 j src hj),λh=>b2 (a3 h),λi k' hk => ?_⟩
    cases i with
    |zero=>simp at hk;subst hk;exact ⟨s,rfl,b1 _ _ a2⟩
    |succ i=>exact b3 i k' (by simpa using hk)
  · cases h
theorem LSh.zit (hR:TRr D F ρ ts σ) {l:LSh} {x:HL D.T l.tys} (hp:F.pin.length<=l.pin) (hp2:l.pin<=l.os.length) (h:l.fit D ts = .ok x):∃ρ',TRr D F ρ' (l.bld D x) σ:=by
 unfold LSh.fit at h;by_cases hnt0:ts.nt=l.nt∧ts.d.isEmpty=true
 rotate_left
 ·rw [Qbq hnt0] at h;cases h
 rw [Qbp hnt0] at h;obtain ⟨hnt,hde⟩:=hnt0;have hde:ts.d=[]:=by simpa using hde
 split at h
 ·rename_i M y hy;split at h
  case h_2=>cases h
  rename_i Mg hMg;obtain ⟨c1g,c2g,c3g⟩:=y0b hMg;split at h
  ·rename_i M' z hz;cases h;obtain ⟨a1',a2',a3⟩:=zu7 hD hR l.ts hy;have a1:zxc (pins l.pin) Mg:=λj src hj=>c1g j src (a1' j src hj)
   have a2:MOk l.os.length (pins l.pin)->MOk l.os.length Mg:=λh=>c2g (a2' h)
   obtain ⟨b1,b2,b3,b4⟩:=zjs hD hR l.os hz;have hM:MOk l.os.length M':=b2 (a2 ⟨λk src h=>by have:=(zhl h).1;omega,λk k' s h h'=>by have e:=(zhl h).2;have e':=(zhl h').2;injection e with e;injection e' with e';omega,λk src hm=>zys hm⟩);obtain ⟨ρ',c1,c2,c3⟩:=ybr hR hM λj hj=>by simpa using b3 j hj
   have hb:l.bld D (HL.app y z)=⟨y8h D (λk=>k) l.ts y,z2m D (λk=>k) l.os 0 z,l.os.length,l.nt,[],l.gs.map some⟩:=by
    show (⟨y8h D (λk=>k) l.ts (HL.fst _ (HL.app y z)),z2m D (λk=>k) l.os 0 (HL.snd _ (HL.app y z)),l.os.length,l.nt,[],l.gs.map some⟩:TS D.T)=_;rw [HL.zk6,HL.zk1]
   rw [hb]
   have place:∀s sl i,ρ'[s]? = some sl->sl.has i->∃s0 o0,fnd M' s=some (.slot s0)∧fnd ts.o s0=some o0∧o0.live∧ρ[s0]? = some sl:=λs sl i hs hk=>by
    obtain ⟨src,e1,e2⟩:=c3 s sl hs
    cases src with
    |nil=>simp only [Src.is] at e2;subst e2;rcases hk with h|h <;> cases h
    |slot s0=>
     obtain ⟨src',e3,e4⟩:=b3 s (by rw [<-c1];exact (Qaa.1 hs).1)
     rw [Nat.zero_add,e1] at e3;injection e3 with e3;subst e3
     obtain ⟨o0,f1,f2⟩:=e4 s0 rfl;exact ⟨s0,o0,e1,f1,f2,e2⟩
   refine ⟨ρ',c1,hR.nt.trans hnt,λj c hj=>a3 ρ' (c1g.agr (b1.agr c2)) j c (z4b hj),λs o ho => ?_,λs s' o o' sl sl' i h1 h2 l1 l2 r1 r2 k1 k2 => ?_,λs o sl i h1 l1 r1 k1 => ?_,hR.lv,hR.E,hR.e0,(by have:=hR.d;rw [hde] at this;exact this),hR.out,λj sl hj => ?_,λs o sl i h1 l1 r1 k1=>by
    obtain ⟨s0,o0,d1,d2,d3,d4⟩:=place s sl i r1 (.inr k1)
    exact hR.fpl s0 o0 sl i d2 d3 d4 k1,λi s v h1 h2=>by
    rw [Qal,Qae] at h1;obtain ⟨k,hk,e⟩:=h1;injection e with e;subst e;obtain ⟨s0,d1,d2⟩:=c3g i k hk;have:=hR.g i s0 v d1 h2;simp only [VR] at this ⊢;obtain ⟨sl,f1,f2⟩:=this;obtain ⟨sl',f3,f4⟩:=c2 k _ (b1 _ _ d2);simp only [Src.is] at f4
    rw [f1] at f4;injection f4 with f4;subst f4
    exact ⟨sl,f3,f2⟩⟩
   rotate_right
   ·have hlt:=(Qaa.1 hj).1;obtain ⟨sl',e1,e2⟩:=c2 j _ (b1 _ _ (a1 _ _ (ztv (n:=l.pin) (k:=j) (by omega))));simp only [Src.is] at e2
    rw [hR.pin j sl hj] at e2;injection e2 with e2;subst e2;exact e1
   ·obtain ⟨_,_,_,sl,e1,e2⟩:=b4 ρ' c2 s o (z4b ho);exact ⟨sl,e1,e2⟩
   ·obtain ⟨s0,o0,d1,d2,d3,d4⟩:=place s sl i r1 k1;obtain ⟨s1,o1,e1,e2,e3,e4⟩:=place s' sl' i r2 k2;have:=hR.inj s0 s1 o0 o1 sl sl' i d2 e2 d3 e3 d4 e4 k1 k2;subst this;exact hM.inj s s' s0 d1 e1
   ·obtain ⟨s0,o0,d1,d2,d3,d4⟩:=place s sl i r1 k1;exact hR.mine s0 o0 sl i d2 d3 d4 k1
  ·cases h
  ·cases h
 ·cases h
 ·cases h
omit hD in
def TR (D:Dat) (F:Fr) (ts:TS D.T) (σ:St):Prop:=∃τ ρ,zm6 σ τ∧TRr D F ρ ts τ
omit hD in
theorem TRr.tr (hR:TRr D F ρ ts σ):TR D F ts σ:=⟨σ,ρ,.refl σ,hR⟩
theorem TR.freeze (h:TR D F ts σ) {s:Nat} {ts':TS D.T} (hf:ts.freeze D s=some ts'):TR D F ts' σ:=by
 obtain ⟨τ,ρ,h1,h2⟩:=h;obtain ⟨υ,h3,h4⟩:=zrz hD h2 hf;exact ⟨υ,ρ,h1.trans h3,h4⟩
theorem TR.fold {R:Type} (h:TR D F ts σ) {s:Nat} {k:TS D.T->Option R} {r:R} (hf:ts.fold D s k=some r):∃ts',TR D F ts' σ∧k ts'=some r:=by
 obtain ⟨τ,ρ,h1,h2⟩:=h;obtain ⟨ts',ρ',h3,h4,_⟩:=zwp hD h2 hf;exact ⟨ts',⟨τ,ρ',h1,h3⟩,h4⟩
theorem LSh.z9t {R:Type} {l:LSh} (hp:F.pin.length<=l.pin) (hp2:l.pin<=l.os.length) {k:HL D.T l.tys->Option R} {r:R}:∀{f:Nat} {ts:TS D.T},TR D F ts σ->LSh.enter D l k f ts=some r->∃x,k x=some r∧TR D F (l.bld D x) σ
 |0,ts,hT,h=>by simp [LSh.enter] at h
 |f+1,ts,hT,h=>by
  simp only [LSh.enter] at h;split at h
  · rename_i x hx;obtain ⟨τ,ρ,h1,h2⟩:=hT;obtain ⟨ρ',h3⟩:=LSh.zit hD h2 hp hp2 hx;exact ⟨x,h,τ,ρ',h1,h3⟩
  · split at h
    · obtain ⟨ts',h1,h2⟩:=hT.fold hD h;exact LSh.z9t hp hp2 h1 h2
    · split at h
      · rename_i s _ _ ts' hf;obtain ⟨x,h1,h2⟩:=LSh.z9t hp hp2 (hT.freeze hD hf) h;exact ⟨x,h1,h2⟩
      · cases h
  · cases h
end
section
variable {P : Program} {D : Dat} {F : Fr} {ρ : List Slot} {ts : TS D.T} {σ : St} {lv : Nat} {T : Nat → Type}
theorem VR.zjf {ρ':List Slot} {lv':Nat} {t:DTy} {x:t.S D.T} {v:V} (h:VR D ρ lv (D.leaf t x) v):VR D ρ' lv' (D.leaf t x) v:=by
 cases t <;> first|(simp only [Dat.leaf,VR];done)|simpa only [Dat.leaf,VR] using h
theorem VR.data {ρ':List Slot} {lv':Nat} {t:DTy} {x:t.S D.T} {v:V} (hD:D.Ok P) (h:VR D ρ lv (D.tv t x) v):VR D ρ' lv' (D.tv t x) v:=by
 cases t with
 |st i=>
  simp only [Dat.tv,VR] at h ⊢;obtain ⟨vs,rfl,h⟩:=h;refine ⟨vs,rfl,.of h.length λj c v hc hv => ?_⟩;have:=h.zqa hc hv;rw [ze6,Qae] at hc;obtain ⟨p,hp,rfl⟩:=hc
  exact VR.zjf this
 |bool=>exact VR.zjf (t:=.bool) h
 |int k=>exact VR.zjf (t:=.int k) h
 |str=>exact VR.zjf (t:=.str) h
 |nat=>exact VR.zjf (t:=.nat) (x:=x) h
 |sl t=>exact VR.zjf (t:=.sl t) h
def Maps (m:Nat->Nat) (ρ ρ':List Slot):Prop:=∀(j:Nat) (sl:Slot),ρ[j]? = some sl->ρ'[m j]? = some sl
variable {m : Nat → Nat} {ρ' : List Slot}
mutual
theorem VR.maps (hm:Maps m ρ ρ') (hD:D.Ok P):∀(sh:Sh) {x:HL D.T sh.tys} {v:V},VR D ρ lv (zi8 D (λk=>k) sh x) v->VR D ρ' lv (zi8 D m sh x) v
 | .any,x,v,h=>(by simp only [VR]:VR D ρ' lv .any v)
 | .d t,x,v,h=>by
   replace h:VR D ρ lv (D.tv t x.1) v:=h;show VR D ρ' lv (D.tv t x.1) v
   exact VR.data hD h
 | .own k,x,v,h=>by
   replace h:VR D ρ lv (.own k) v:=h;show VR D ρ' lv (.own (m k)) v;simp only [VR] at h ⊢;obtain ⟨sl,h1,h2⟩:=h
   exact ⟨sl,hm k sl h1,h2⟩
 | .ptr k off,x,v,h=>by
   replace h:VR D ρ lv (.ptr k off) v:=h;show VR D ρ' lv (.ptr (m k) off) v;simp only [VR] at h ⊢;obtain ⟨sl,i,h1,h2⟩:=h
   exact ⟨sl,i,hm k sl h1,h2⟩
 | .map k,x,v,h=>by
   replace h:VR D ρ lv (.map k) v:=h;show VR D ρ' lv (.map (m k)) v;simp only [VR] at h ⊢;obtain ⟨sl,i,h1,h2⟩:=h
   exact ⟨sl,i,hm k sl h1,h2⟩
 | .mc t,x,v,h=>by
   replace h:VR D ρ lv (.mc t (List.zip x.1 x.2.1)) v:=h;show VR D ρ' lv (.mc t (List.zip x.1 x.2.1)) v;unfold VR at h ⊢
   exact h
 | .bp k,x,v,h=>by
   replace h:VR D ρ lv (.bp k 0) v:=h;show VR D ρ' lv (.bp (m k) 0) v;simp only [VR] at h ⊢;obtain ⟨sl,i,h1,h2⟩:=h
   exact ⟨sl,i,hm k sl h1,h2⟩
 | .nilp,x,v,h=>by
   replace h:VR D ρ lv .nilp v:=h;show VR D ρ' lv .nilp v
   simpa only [VR] using h
 | .nilf,x,v,h=>by
   replace h:VR D ρ lv .nilf v:=h;show VR D ρ' lv .nilf v
   simpa only [VR] using h
 | .nili,x,v,h=>by
   replace h:VR D ρ lv .nili v:=h;show VR D ρ' lv .nili v
   simpa only [VR] using h
 | .nils,x,v,h=>by
   replace h:VR D ρ lv .nils v:=h;show VR D ρ' lv .nils v
   simpa only [VR] using h
 | .fn f a b,x,v,h=>by
   replace h:VR D ρ lv (.fn f (z15 D (λk=>k) a (HL.fst _ x)) (z15 D (λk=>k) b (HL.snd _ x))) v:=h;show VR D ρ' lv (.fn f (z15 D m a (HL.fst _ x)) (z15 D m b (HL.snd _ x))) v;simp only [VR] at h ⊢;obtain ⟨as,bs,h1,h2,h3⟩:=h
   exact ⟨as,bs,h1,VRL.maps hm hD a h2,VRL.maps hm hD b h3⟩
 | .iface t s,x,v,h=>by
   replace h:VR D ρ lv (.iface t (zi8 D (λk=>k) s x)) v:=h;show VR D ρ' lv (.iface t (zi8 D m s x)) v;simp only [VR] at h ⊢;obtain ⟨y,h1,h2⟩:=h
   exact ⟨y,h1,VR.maps hm hD s h2⟩
 | .agg cs,x,v,h=>by
   replace h:VR D ρ lv (.agg (z15 D (λk=>k) cs x)) v:=h;show VR D ρ' lv (.agg (z15 D m cs x)) v;simp only [VR] at h ⊢;obtain ⟨y,h1,h2⟩:=h
   exact ⟨y,h1,VRL.maps hm hD cs h2⟩
 | .tup cs,x,v,h=>by
   replace h:VR D ρ lv (.tup (z15 D (λk=>k) cs x)) v:=h;show VR D ρ' lv (.tup (z15 D m cs x)) v;simp only [VR] at h ⊢;obtain ⟨y,h1,h2⟩:=h
   exact ⟨y,h1,VRL.maps hm hD cs h2⟩
 | .ref cs off,x,v,h=>by
   replace h:VR D ρ lv (.ref (z15 D (λk=>k) cs x) off) v:=h;show VR D ρ' lv (.ref (z15 D m cs x) off) v;simp only [VR] at h ⊢;obtain ⟨y,h1,h2⟩:=h
   exact ⟨y,h1,VRL.maps hm hD cs h2⟩
 | .dp k off,x,v,h=>by
   replace h:VR D ρ lv (.dp k x.1 off) v:=h;show VR D ρ' lv (.dp (m k) x.1 off) v;simp only [VR] at h ⊢;obtain ⟨sl,j,ver,n,h1,h2⟩:=h
   exact ⟨sl,j,ver,n,hm k sl h1,h2⟩
 | .ap k t off,x,v,h=>by
   replace h:VR D ρ lv (.ap k t x.1 x.2.1 off) v:=h;show VR D ρ' lv (.ap (m k) t x.1 x.2.1 off) v;simp only [VR] at h ⊢;obtain ⟨sl,w,h1,h2⟩:=h;exact ⟨sl,w,hm k sl h1,h2⟩
theorem VRL.maps (hm:Maps m ρ ρ') (hD:D.Ok P):∀(l:List Sh) {x:HL D.T (Sh.z1a l)} {vs:List V},VRL D ρ lv (z15 D (λk=>k) l x) vs->VRL D ρ' lv (z15 D m l x) vs
 |[],x,vs,h=>by
  replace h:VRL D ρ lv [] vs:=h;show VRL D ρ' lv [] vs
  simpa only [VRL] using h
 |sh::l,x,vs,h=>by
  replace h:VRL D ρ lv (zi8 D (λk=>k) sh (HL.fst _ x)::z15 D (λk=>k) l (HL.snd _ x)) vs:=h;show VRL D ρ' lv (zi8 D m sh (HL.fst _ x)::z15 D m l (HL.snd _ x)) vs;simp only [VRL] at h ⊢;obtain ⟨v,r,h1,h2,h3⟩:=h;exact ⟨v,r,h1,VR.maps hm hD sh h2,VRL.maps hm hD l h3⟩
end
theorem OR.maps (hm:Maps m ρ ρ') (hD:D.Ok P) {L:List (Option kz2)} {sl:Slot} {o:OSh} {x:HL D.T o.tys} (h:OR D ρ lv L sl (zie D (λk=>k) o x)):OR D ρ' lv L sl (zie D m o x):=by
 cases o with
 |cells cs=>
  simp only [zie,OR] at h ⊢;obtain ⟨i,vs,h1,h2,h3⟩:=h
  exact ⟨i,vs,h1,h2,VRL.maps hm hD cs h3⟩
 |st i=>
  simp only [zie,OR] at h ⊢;obtain ⟨j,vs,h1,h2,h3⟩:=h;refine ⟨j,vs,h1,h2,.of h3.length λk c v hc hv => ?_⟩;have:=h3.zqa hc hv;rw [ze6,Qae] at hc;obtain ⟨p,hp,rfl⟩:=hc
  exact VR.zjf this
 |acc ty t w=>exact h
 |siter=>exact h
 |mp ty t=>exact h
 |mit t=>exact h
 |bld ty k=>
  simp only [zie,OR] at h ⊢;obtain ⟨i,u,c,h1,h2,h3,h4⟩:=h;refine ⟨i,u,c,h1,h2,h3,?_⟩;simp only [y6d,VR] at h4 ⊢;obtain ⟨sl,k1,k2⟩:=h4
  exact ⟨sl,hm k sl k1,k2⟩
 |deep ty q=>
  replace h:OR D ρ lv L sl (.deep ty q x.1 none):=h;show OR D ρ' lv L sl (.deep ty q x.1 none);simp only [OR] at h ⊢;refine ⟨h.1,?_⟩;have k3:=h.2
  cases hk:sl.k with
  |none=>rw [hk] at k3;exact k3
  |some j=>rw [hk] at k3;exact k3
 |deeph ty q f k=>
  replace h:OR D ρ lv L sl (.deep ty q x.1 (some (x.2.1,f,k))):=h;show OR D ρ' lv L sl (.deep ty q x.1 (some (x.2.1,f,m k)));simp only [OR] at h ⊢;refine ⟨h.1,?_⟩;have k3:=h.2
  cases hk:sl.k with
  |none=>rw [hk] at k3;cases k3.2.2.2
  |some j=>
   rw [hk] at k3;obtain ⟨ver,cp,fps,q1,q2,q3,q4,q5,q6,q7⟩:=k3;refine ⟨ver,cp,fps,q1,q2,q3,q4,q5,λn x' w c a b d => ?_,λn' f' s' e=>by injection e with e;injection e with e4 e5;subst e4;exact q7 _ _ _ rfl⟩;obtain ⟨vs,cs,a1,a2,a3,a4,a5⟩:=q6 n x' w c a b d;refine ⟨vs,cs,a1,a2,a3,a4,λf' p u b e1 e2 e3 => ?_⟩;have:=a5 f' p u b e1 e2 e3;by_cases hc:x.2.1.toNat=n∧f=f'
   · simp only [z0b,Qbp hc] at this ⊢;obtain ⟨g1,g2,g3,sl',g4,g5⟩:=this;exact ⟨g1,g2,g3,sl',hm _ _ g4,g5⟩
   · simp only [z0b,Qbq hc] at this ⊢;exact this
theorem zmv:∀(os:List OSh) {k:Nat} {x:HL D.T (z09 os)} {s:Nat} {o:TO D.T},(s,o)∈z2m D m os k x->∃j,k<=j∧j<k+os.length∧s=m j∧∃(osh:OSh) (y:HL D.T osh.tys),o=zie D m osh y∧(j,zie D (λk=>k) osh y)∈z2m D (λk=>k) os k x
 |[],k,x,s,o,h=>by cases h
 |osh::os,k,x,s,o,h=>by
  replace h:(s,o)∈(m k,zie D m osh (HL.fst _ x))::z2m D m os (k+1) (HL.snd _ x):=h
  rcases Qbg.1 h with h|h
  · injection h with h1 h2;exact ⟨k,Qbo _,by simp,h1,osh,HL.fst _ x,h2,Qai⟩
  · obtain ⟨j,h1,h2,h3,osh',y,h4,h5⟩:=zmv os h;exact ⟨j,by omega,by simp only [List.length_cons];omega,h3,osh',y,h4,Qag _ h5⟩
theorem zmb:∀{M:z1p D.T} {s:Nat} {o:TO D.T},fnd (zgy D M) s=some o->o = .gone∧∃k,(k,Src.slot s)∈M
 |[],s,o,h=>by simp [zgy,fnd] at h
 |(k,.slot s')::M,s,o,h=>by
  simp only [zgy,zz7] at h;split at h
  · rename_i e;injection h with h;subst e;exact ⟨h.symm,k,Qai⟩
  · obtain ⟨h1,k',h2⟩:=zmb h;exact ⟨h1,k',Qag _ h2⟩
 |(k,.nil)::M,s,o,h=>by
  simp only [zgy] at h;obtain ⟨h1,k',h2⟩:=zmb h;exact ⟨h1,k',Qag _ h2⟩
theorem zlg:∀{M:z1p D.T} {s:Nat},fnd (zgy D M) s=none->∀k,(k,Src.slot s)∉M
 |[],s,h,k,hm=>by cases hm
 |(k',.slot s')::M,s,h,k,hm=>by
  simp only [zgy,zz7] at h;split at h
  · cases h
  · rename_i e
    rcases Qbg.1 hm with hm|hm
    · injection hm with _ hm;injection hm with hm;exact e hm.symm
    · exact zlg h k hm
 |(k',.nil)::M,s,h,k,hm=>by
  simp only [zgy] at h
  rcases Qbg.1 hm with hm|hm
  · injection hm with _ hm;cases hm
  · exact zlg h k hm
structure Left (D:Dat) (lv:Nat) (L:List (Option kz2)) (ρ:List Slot) (p:Nat) (L':List (Option kz2)) (ρ':List Slot) (os:List OSh) (y:HL D.T (z09 os)):Prop where
 len:ρ'.length=os.length
 ob:∀j o,(j,o)∈z2m D (λk=>k) os 0 y->∃sl,ρ'[j]? = some sl∧OR D ρ' lv L' sl o
 inj:∀(s s':Nat) (sl sl':Slot) (i:Nat),ρ'[s]? = some sl->ρ'[s']? = some sl'->sl.has i->sl'.has i->s=s'
 mine:∀(s:Nat) (sl:Slot) (i:Nat),ρ'[s]? = some sl->sl.has i->L.length<=i∨∃(k:Nat) (sl0:Slot),ρ[k]? = some sl0∧sl0.has i
 out:∀i,i<L.length->(∀(k:Nat) (sl0:Slot),ρ[k]? = some sl0->¬sl0.has i)->i<L'.length∧L'[i]? = L[i]?
 pin:∀(j:Nat) (sl:Slot),j<p->ρ[j]? = some sl->ρ'[j]? = some sl
 fpl:∀(s:Nat) (sl:Slot) (i:Nat),ρ'[s]? = some sl->i∈sl.fp->sl.k≠some i∧∃a,L'[i]? = some (some a)
theorem TRr.after (hR:TRr D F ρ ts σ) (hD:D.Ok P) {M:z1p D.T} {n p:Nat} (hM:MOk n M) {ρ0:List Slot} (hA:Agr ρ M ρ0) (h0:∀j sl,ρ0[j]? = some sl->∃src,fnd M j=some src∧src.is ρ sl∧∀s,src = .slot s->∃o',fnd ts.o s=some o'∧o'.live)
  (hMk:∀k s,(k,Src.slot s)∈M->fnd M k=some (.slot s)) (hp:∀k,k<p->∃s,fnd M k=some (.slot s)) {L':List (Option kz2)} {ρ':List Slot} {os:List OSh} {y:HL D.T (z09 os)} (hpo:p<=os.length) (hL:Left D F.lv σ.H.L ρ0 p L' ρ' os y) :
  TRr D F (ρ++ρ'.drop p) (z7n D M p ts os y) {σ with H:=⟨F.lv,L',F.E⟩}∧Maps (z5l D M p ts.nx) ρ' (ρ++ρ'.drop p):=by
 have hmaps:Maps (z5l D M p ts.nx) ρ' (ρ++ρ'.drop p):=λj sl hj=>by
  unfold z5l;by_cases hjp:j<p
  ·rw [Qbp hjp];obtain ⟨s,hs⟩:=hp j hjp;obtain ⟨sl0,e1,e2⟩:=hA j _ hs;have:=hL.pin j sl0 hjp e1
   rw [hj] at this;injection this with this;subst this
   rw [hs];exact lookup_append e2
  ·rw [Qbq hjp,<-hR.nx,Qat (by omega),Qbb];rw [<-hj];congr 1;omega
 have minj:∀j j',j<os.length->j'<os.length->z5l D M p ts.nx j=z5l D M p ts.nx j'->j=j':=λj j' hj hj' h=>by
  unfold z5l at h
  have low:∀j s,fnd M j=some (.slot s)->s<ts.nx:=λj s hs=>by
   obtain ⟨sl0,e1,e2⟩:=hA j _ hs;rw [<-hR.nx];exact (Qaa.1 e2).1
  by_cases h1:j<p <;> by_cases h2:j'<p
  ·rw [Qbp h1,Qbp h2] at h;obtain ⟨s,hs⟩:=hp j h1;obtain ⟨s',hs'⟩:=hp j' h2;rw [hs,hs'] at h;simp only at h;subst h;exact hM.inj j j' s hs hs'
  ·obtain ⟨s,hs⟩:=hp j h1;rw [Qbp h1,Qbq h2,hs] at h;simp only at h;have:=low j s hs;omega
  ·obtain ⟨s,hs⟩:=hp j' h2;rw [Qbq h1,Qbp h2,hs] at h;simp only at h;have:=low j' s hs;omega
  ·rw [Qbq h1,Qbq h2] at h;omega
 have kinds:∀s o,fnd (z7n D M p ts os y).o s=some o->(∃j,j<os.length∧s=z5l D M p ts.nx j∧∃(osh:OSh) (z:HL D.T osh.tys),o=zie D (z5l D M p ts.nx) osh z∧(j,zie D (λk=>k) osh z)∈z2m D (λk=>k) os 0 y)∨(o = .gone∧∃k,(k,Src.slot s)∈M)∨(fnd ts.o s=some o∧∀k,(k,Src.slot s)∉M):=λs o h=>by
  simp only [z7n] at h;rw [zji] at h;split at h
  ·rename_i o' ho';injection h with h;subst h;obtain ⟨j,h1,h2,h3,h4⟩:=zmv os (z4b ho');exact .inl ⟨j,by omega,h3,h4⟩
  ·rw [zji] at h;split at h
   ·rename_i o' ho';injection h with h;subst h;obtain ⟨h1,h2⟩:=zmb ho';exact .inr (.inl ⟨h1,h2⟩)
   ·rename_i hn;exact .inr (.inr ⟨h,zlg hn⟩)
 have apart:∀s o sl i,fnd ts.o s=some o->o.live->(∀k,(k,Src.slot s)∉M)->ρ[s]? = some sl->sl.has i->∀(k:Nat) (sl0:Slot),ρ0[k]? = some sl0->¬sl0.has i:=λs o sl i ho hl hno hs hk k sl0 h1 h2=>by
  obtain ⟨src,e1,e2,e3⟩:=h0 k sl0 h1
  cases src with
  |nil=>simp only [Src.is] at e2;subst e2;rcases h2 with h|h <;> cases h
  |slot s0=>
   obtain ⟨o',f1,f2⟩:=e3 s0 rfl;have:=hR.inj s s0 o o' sl sl0 i ho f1 hl f2 hs e2 hk h2;subst this;exact hno k (z4b e1)
 have passed:∀(k:Nat) (sl0:Slot) (i:Nat),ρ0[k]? = some sl0->sl0.has i->¬F.out i:=λk sl0 i h1 h2=>by
  obtain ⟨src,e1,e2,e3⟩:=h0 k sl0 h1
  cases src with
  |nil=>simp only [Src.is] at e2;subst e2;rcases h2 with h|h <;> cases h
  |slot s0=>
   obtain ⟨o',f1,f2⟩:=e3 s0 rfl;exact hR.mine s0 o' sl0 i f1 f2 e2 h2
 have oldlt:∀s o sl i,fnd ts.o s=some o->o.live->ρ[s]? = some sl->sl.has i->i<σ.H.L.length:=λs o sl i ho hl hs hk=>hR.lt ho hl hs hk
 have slotOld:∀s o sl,fnd ts.o s=some o->(ρ++ρ'.drop p)[s]? = some sl->ρ[s]? = some sl:=λs o sl ho h=>by
  obtain ⟨q,h1,h2⟩:=hR.ob s o ho;rw [lookup_append h1] at h;rw [h1,h]
 have slotNew:∀j sl,j<os.length->(ρ++ρ'.drop p)[z5l D M p ts.nx j]? = some sl->ρ'[j]? = some sl:=λj sl hj h=>by
  have hlt:j<ρ'.length:=by rw [hL.len];exact hj
  have:=hmaps j ρ'[j] (Qab hlt)
  rw [this] at h;injection h with h;rw [<-h];exact Qab hlt
 refine ⟨⟨?_,hR.nt,λj x hj => ?_,λs o ho => ?_,λs s' o o' sl sl' i h1 h2 l1 l2 r1 r2 k1 k2 => ?_,λs o sl i h1 l1 r1 k1 => ?_,rfl,rfl,hR.e0,hR.d.more _,λi hi => ?_,λj sl hj=>lookup_append (hR.pin j sl hj),λs o sl i h1 l1 r1 k1 => ?_,λi s v h1 h2=>(hR.g i s v h1 h2).more _⟩,hmaps⟩
 ·simp only [z7n,Qan,List.length_drop,hL.len,hR.nx]
 ·obtain ⟨v,h1,h2⟩:=hR.tm j x hj;exact ⟨v,h1,h2.more _⟩
 ·rcases kinds s o ho with ⟨j,h1,h2,osh,z,h3,h4⟩|⟨rfl,k,h1⟩|⟨h1,h2⟩
  ·obtain ⟨sl,e1,e2⟩:=hL.ob j _ h4;refine ⟨sl,by rw [h2];exact hmaps j sl e1,?_⟩;rw [h3];exact OR.maps hmaps hD e2
  ·obtain ⟨sl0,e1,e2⟩:=hA k _ (hMk k s h1);exact ⟨sl0,lookup_append e2,by simp only [OR]⟩
  ·obtain ⟨q,e1,e2⟩:=hR.ob s o h1;exact ⟨q,lookup_append e1,e2.mono _ λi hi hl=>(hL.out i (hR.lt h1 hl e1 hi) (apart s o q i h1 hl h2 e1 hi)).2⟩
 ·rcases kinds s o h1 with ⟨j,a1,a2,osh,z,a3,a4⟩|⟨rfl,k,a1⟩|⟨a1,a2⟩
  ·rcases kinds s' o' h2 with ⟨j',b1,b2,osh',z',b3,b4⟩|⟨rfl,k',b1⟩|⟨b1,b2⟩
   ·rw [a2,b2]
    congr 1
    rw [a2] at r1;rw [b2] at r2;exact hL.inj j j' sl sl' i (slotNew j sl a1 r1) (slotNew j' sl' b1 r2) k1 k2
   ·exact l2.elim
   ·exfalso
    rw [a2] at r1;have q2:=slotOld s' o' sl' b1 r2
    rcases hL.mine j sl i (slotNew j sl a1 r1) k1 with h|⟨k,sl0,e1,e2⟩
    ·have:=oldlt s' o' sl' i b1 l2 q2 k2;omega
    ·exact apart s' o' sl' i b1 l2 b2 q2 k2 k sl0 e1 e2
  ·exact l1.elim
  ·rcases kinds s' o' h2 with ⟨j',b1,b2,osh',z',b3,b4⟩|⟨rfl,k',b1⟩|⟨b1,b2⟩
   ·exfalso
    rw [b2] at r2;have q1:=slotOld s o sl a1 r1
    rcases hL.mine j' sl' i (slotNew j' sl' b1 r2) k2 with h|⟨k,sl0,e1,e2⟩
    ·have:=oldlt s o sl i a1 l1 q1 k1;omega
    ·exact apart s o sl i a1 l1 a2 q1 k1 k sl0 e1 e2
   ·exact l2.elim
   ·exact hR.inj s s' o o' sl sl' i a1 b1 l1 l2 (slotOld _ _ _ a1 r1) (slotOld _ _ _ b1 r2) k1 k2
 ·rcases kinds s o h1 with ⟨j,a1,a2,osh,z,a3,a4⟩|⟨rfl,k,a1⟩|⟨a1,a2⟩
  ·rw [a2] at r1
   rcases hL.mine j sl i (slotNew j sl a1 r1) k1 with h|⟨k,sl0,e1,e2⟩
   ·intro ho;have:=(hR.out i ho).1;omega
   ·exact passed k sl0 i e1 e2
  ·exact l1.elim
  ·exact hR.mine s o sl i a1 l1 (slotOld _ _ _ a1 r1) k1
 ·obtain ⟨h1,h2⟩:=hR.out i hi;obtain ⟨h3,h4⟩:=hL.out i h1 λk sl0 e1 e2=>passed k sl0 i e1 e2 hi
  exact ⟨h3,h4.trans h2⟩
 ·rcases kinds s o h1 with ⟨j,a1,a2,osh,z,a3,a4⟩|⟨rfl,k,a1⟩|⟨a1,a2⟩
  ·rw [a2] at r1;exact hL.fpl j sl i (slotNew j sl a1 r1) k1
  ·exact l1.elim
  ·have q1:=slotOld _ _ _ a1 r1;have hq:=hR.fpl s o sl i a1 l1 q1 k1;refine ⟨hq.1,?_⟩;show ∃a,L'[i]? = _;rw [(hL.out i (hR.lt a1 l1 q1 (.inr k1)) (apart s o sl i a1 l1 a2 q1 (.inr k1))).2];exact hq.2
end
section
variable {P : Program} {D : Dat} {F : Fr} {ρ : List Slot} {ts : TS D.T} {σ : St} {lv : Nat}
def SlOk (L:List (Option kz2)) (ρ0:List Slot):Prop :=
 (∀(s s':Nat) (sl sl':Slot) (i:Nat),ρ0[s]? = some sl->ρ0[s']? = some sl'->sl.has i->sl'.has i->s=s') ∧
 ∀(s:Nat) (sl:Slot) (i:Nat),ρ0[s]? = some sl->i∈sl.fp->sl.k≠some i∧∃a,L[i]? = some (some a)
def Ent.Flat (P:Program) (e:Ent D) (x:HL D.T (Sh.z1a e.args++z09 e.aos)) (o:HL D.T (Sh.z1a e.outs++z09 e.ros) ⊕ HL D.T (e.pan.tys++z09 e.pos)):Prop :=
 ∀(lv:Nat) (L:List (Option kz2)) (E:Nat->Nat->Option kz2) (ρ0:List Slot) (vargs:List V),ρ0.length=e.aos.length->VRL D ρ0 lv (z15 D (λk=>k) e.args (HL.fst _ x)) vargs ->
  (∀j o,(j,o)∈z2m D (λk=>k) e.aos 0 (HL.snd _ x)->∃sl,ρ0[j]? = some sl∧OR D ρ0 lv L sl o) ->
  SlOk L ρ0 ->
  zn2 P e.f vargs ⟨lv,L,E⟩ λout H'=>∃L' ρ',H'=⟨lv,L',E⟩ ∧
   match o with
   | .inl y=>Left D lv L ρ0 e.p L' ρ' e.ros (HL.snd _ y)∧(∀q∈e.ren,∀sl,ρ0[q.1]? = some sl->∃sl',ρ'[q.2]? = some sl'∧sl'.v=sl.v)∧∃vs,out = .ret (z7d vs)∧VRL D ρ' lv (z15 D (λk=>k) e.outs (HL.fst _ y)) vs
   | .inr y=>Left D lv L ρ0 e.p L' ρ' e.pos (HL.snd _ y)∧∃v,out = .pan v∧VR D ρ' lv (zi8 D (λk=>k) e.pan (HL.fst _ y)) v
def Ent.Pure (P:Program) (e:Ent D) (x:HL D.T (Sh.z1a e.args++z09 e.aos)) (y:HL D.T (Sh.z1a e.outs++z09 e.ros)):Prop :=
 e.aos=[]∧e.ros=[]∧e.ren=[]∧∀(lv:Nat) (vargs:List V),VRL D [] lv (z15 D (λk=>k) e.args (HL.fst _ x)) vargs->∃vs,(∀ρ lv',VRL D ρ lv' (z15 D (λk=>k) e.outs (HL.fst _ y)) vs)∧zly P e.f vargs (z7d vs)
def Ent.Ok (P:Program) (e:Ent D):Prop:=∀(R:Type) (x:HL D.T (Sh.z1a e.args++z09 e.aos)) (k:HL D.T (Sh.z1a e.outs++z09 e.ros)->Option R) (kp:HL D.T (e.pan.tys++z09 e.pos)->Option R) (r:R),e.go x k kp=some r ->
 match e.pure with
 |true=>∃y,k y=some r∧e.Pure P x y
 |false=>(∃y,k y=some r∧e.Flat P x (.inl y))∨∃y,kp y=some r∧e.Flat P x (.inr y)
theorem TRr.zab {M:z1p D.T} {p nx:Nat} {ρ0 ρ':List Slot} (hA:∀k s,fnd M k=some (.slot s)->∃sl,ρ0[k]? = some sl∧ρ[s]? = some sl) (hm:Maps (z5l D M p nx) ρ' ρ):∀(l:List (Nat×Nat)) {ts:TS D.T},(∀q∈l,∀sl,ρ0[q.1]? = some sl->∃sl',ρ'[q.2]? = some sl'∧sl'.v=sl.v)->TRr D F ρ ts σ->TRr D F ρ (Go.Ab.zab D M p nx l ts) σ
 |[],ts,_,hR=>hR
 |q::l,ts,h,hR=>by
  simp only [Go.Ab.zab];split
  · rename_i s hs;obtain ⟨sl,h1,h2⟩:=hA _ _ hs;obtain ⟨sl',h3,h4⟩:=h q Qai sl h1;exact TRr.zab hA hm l (λq hq=>h q (Qag _ hq)) (hR.z7g _ λx v hx=>VR.ren h2 (hm _ _ h3) h4 hx)
  · exact TRr.zab hA hm l (λq hq=>h q (Qag _ hq)) hR
variable (hD : D.Ok P)
include hD
theorem VR.zyh {cs:List (TV D.T)} {vs:List V} (h:VRL D ρ lv cs vs):VR D ρ lv (Go.Ab.zyh D cs) (z7d vs):=by
 cases cs with
 |nil=>simp only [VRL] at h;subst h;simp only [Go.Ab.zyh,z7d,VR];exact ⟨[],rfl,by simp only [VRL]⟩
 |cons c cs=>
  have h0:=h;simp only [VRL] at h;obtain ⟨v,r,rfl,h1,h2⟩:=h
  cases cs with
  |nil=>simp only [VRL] at h2;subst h2;exact h1
  |cons d ds=>
   have h20:=h2;simp only [VRL] at h2;obtain ⟨v',r',rfl,_,_⟩:=h2;simp only [Go.Ab.zyh,z7d,VR];exact ⟨_,rfl,h0⟩
theorem Ent.zit (hR:TRr D F ρ ts σ) {e:Ent D} {vs:List (TV D.T)} {vargs:List V} {M:z1p D.T} {x:HL D.T (Sh.z1a e.args++z09 e.aos)} (hv:VRL D ρ F.lv vs vargs) (h:e.fit D vs ts = .ok (M,x)) :
  MOk e.aos.length M∧∃ρ0:List Slot,ρ0.length=e.aos.length∧Agr ρ M ρ0∧(∀j sl,ρ0[j]? = some sl->∃src,fnd M j=some src∧src.is ρ sl∧∀s,src = .slot s->∃o',fnd ts.o s=some o'∧o'.live) ∧
   VRL D ρ0 F.lv (z15 D (λk=>k) e.args (HL.fst _ x)) vargs∧∀j o,(j,o)∈z2m D (λk=>k) e.aos 0 (HL.snd _ x)->∃sl,ρ0[j]? = some sl∧OR D ρ0 F.lv σ.H.L sl o:=by
 unfold Ent.fit at h;split at h
 ·rename_i M1 y hy;split at h
  ·rename_i M2 z hz;cases h;obtain ⟨a1,a2,a3⟩:=za8 hD e.args hy hv;obtain ⟨b1,b2,b3,b4⟩:=zjs hD hR e.aos hz;have hM:MOk e.aos.length M:=b2 (a2 ⟨λk src h=>by simp [fnd] at h,λk k' s h=>by simp [fnd] at h,λk src h=>by cases h⟩);obtain ⟨ρ0,c1,c2,c3⟩:=ybr hR hM λj hj=>by simpa using b3 j hj
   refine ⟨hM,ρ0,c1,c2,λj sl hj => ?_,by rw [HL.zk6];exact a3 ρ0 (b1.agr c2),λj o hm => ?_⟩
   ·obtain ⟨src,e1,e2⟩:=c3 j sl hj;obtain ⟨src',e3,e4⟩:=b3 j (by rw [<-c1];exact (Qaa.1 hj).1)
    rw [Nat.zero_add,e1] at e3;injection e3 with e3;subst e3
    exact ⟨src,e1,e2,e4⟩
   ·rw [HL.zk1] at hm;obtain ⟨_,_,_,e5⟩:=b4 ρ0 c2 j o hm;exact e5
  ·cases h
  ·cases h
 ·cases h
 ·cases h
omit hD in
theorem ye7 (hR:TRr D F ρ ts σ):{σ with H:=⟨F.lv,σ.H.L,F.E⟩}=σ:=by
 have e1:=hR.lv;have e2:=hR.E;obtain ⟨t,⟨l,L,E⟩,d,e0⟩:=σ;simp only at e1 e2;subst e1;subst e2;rfl
omit hD in
theorem ztf (hR:TRr D F ρ ts σ) {M:z1p D.T} {n:Nat} (hM:MOk n M) {ρ0:List Slot} (h0:∀j sl,ρ0[j]? = some sl->∃src,fnd M j=some src∧src.is ρ sl∧∀s,src = .slot s->∃o',fnd ts.o s=some o'∧o'.live) :
  SlOk σ.H.L ρ0:=⟨λs s' sl sl' i h1 h2 k1 k2=>by
 obtain ⟨src,e1,e2,e3⟩:=h0 s sl h1;obtain ⟨src',f1,f2,f3⟩:=h0 s' sl' h2
 cases src with
 |nil=>simp only [Src.is] at e2;subst e2;rcases k1 with h|h <;> cases h
 |slot q=>
  cases src' with
  |nil=>simp only [Src.is] at f2;subst f2;rcases k2 with h|h <;> cases h
  |slot q'=>
   obtain ⟨o,g1,g2⟩:=e3 q rfl;obtain ⟨o',g3,g4⟩:=f3 q' rfl;have:=hR.inj q q' o o' sl sl' i g1 g3 g2 g4 e2 f2 k1 k2;subst this
   exact hM.inj s s' q e1 f1,λs sl i h1 k1=>by
 obtain ⟨src,e1,e2,e3⟩:=h0 s sl h1
 cases src with
 |nil=>simp only [Src.is] at e2;subst e2;cases k1
 |slot q=>
  obtain ⟨o,g1,g2⟩:=e3 q rfl
  exact hR.fpl q o sl i g1 g2 e2 k1⟩
theorem zhg {R:Type} (hR:TRr D F ρ ts σ) {f:Nat} {vs:List (TV D.T)} {vargs:List V} {k kp:TV D.T->TS D.T->Option R} {kf:Nat->Option R} {r:R} (hv:VRL D ρ F.lv vs vargs):∀{tbl:List (Ent D)},(∀e∈tbl,e.Ok P)->zlx D f vs ts k kp kf tbl=some r ->
  ((∃e∈tbl,e.pure=false)∧∃(Post:Out->Heap->Prop),zn2 P f vargs σ.H Post∧(∀rv H',Post (.ret rv) H'->∃z ts' ρ',VR D ρ' F.lv z rv∧TRr D F ρ' ts' {σ with H:=H'}∧k z ts'=some r) ∧
    (∀v H',Post (.pan v) H'->∃z ts' ρ',VR D ρ' F.lv z v∧TRr D F ρ' ts' {σ with H:=H'}∧kp z ts'=some r)) ∨
  (∃rv,zly P f vargs rv∧∃z ρ' ts',(∀ρ',VR D ρ' F.lv z rv)∧TRr D F ρ' ts' σ∧k z ts'=some r∧ts'.t=ts.t∧ts'.nt=ts.nt)∨∃s,kf s=some r
 |[],_,h=>by simp [zlx,yj7] at h
 |e::tbl,htbl,h=>by
  have up:∀{A B:Prop},(((∃e∈tbl,e.pure=false)∧A)∨B)->((∃e'∈e::tbl,e'.pure=false)∧A)∨B:=λ{A B} h=>h.imp (λ⟨⟨e',h1,h2⟩,h3⟩=>⟨⟨e',Qag _ h1,h2⟩,h3⟩) λh=>h
  simp only [zlx] at h;split at h
  · exact up (zhg hR hv (λe he=>htbl e (Qag _ he)) h)
  · rename_i hf;have hf:=Qah hf;subst hf;split at h
    · exact up (zhg hR hv (λe he=>htbl e (Qag _ he)) h)
    · exact .inr (.inr ⟨_,h⟩)
    · rename_i M x hfit;split at h
      · rename_i hc;obtain ⟨c1,c2,c3,c4⟩:=hc;obtain ⟨hM,ρ0,d1,d2,d3,d4,d5⟩:=Ent.zit hD hR hv hfit
        have hp:∀k,k<e.p->∃s,fnd M k=some (.slot s):=λk hk=>by
         have:=Qar.1 c4 k (List.mem_range.2 hk);split at this
         · rename_i s hs;exact ⟨s,hs⟩
         · cases this
        have hmk:∀k s,(k,Src.slot s)∈M->fnd M k=some (.slot s):=λk s hm=>hM.one k _ hm
        have hinj:=ztf hR hM d3;have hok:=htbl e Qai _ _ _ _ _ h
        cases hpure:e.pure with
        |true=>
         rw [hpure] at hok;obtain ⟨y,hy,e1,e2,en,e3⟩:=hok;have hr0:ρ0=[]:=Qam (by rw [d1,e1];rfl);rw [hr0] at d4;obtain ⟨us,f1,f2⟩:=e3 F.lv vargs d4
         have hleft:Left D F.lv σ.H.L ρ0 e.p σ.H.L [] e.ros (HL.snd _ y):=by
          refine ⟨by rw [e2];rfl,λj o hm => ?_,λs s' sl sl' i h1=>by simp at h1,λs sl i h1=>by simp at h1,λi hi _=>⟨hi,rfl⟩,λj sl hj hs => ?_,λs sl i h1=>by simp at h1⟩
          · obtain ⟨j',_,hlt,_⟩:=zmv e.ros hm;rw [e2] at hlt;simp at hlt
          · rw [hr0] at hs;simp at hs
         obtain ⟨g1,g2⟩:=TRr.after hR hD hM d2 d3 hmk hp c2 hleft;rw [ye7 hR] at g1;rw [en] at hy
         exact .inr (.inl ⟨_,f2,_,_,_,λρ'=>VR.zyh hD (VRL.maps (ρ:=[]) (λj sl hj=>by simp at hj) hD e.outs (f1 _ _)),g1,hy,rfl,rfl⟩)
        |false=>
         rw [hpure] at hok;have hHeap:σ.H=⟨F.lv,σ.H.L,F.E⟩:=zl1 σ.H hR.lv hR.E;refine .inl ⟨⟨e,Qai,hpure⟩,?_⟩
         rcases hok with ⟨y,hy,hflat⟩|⟨y,hy,hflat⟩
         · have hh:=hflat F.lv σ.H.L F.E ρ0 vargs d1 d4 d5 hinj;rw [<-hHeap] at hh;refine ⟨_,hh,λrv H' ⟨L',ρ',e1,e2,en,vs',e3,e4⟩ => ?_,λv H' ⟨L',ρ',e1,e2,en,vs',e3,e4⟩=>(by cases e3)⟩;injection e3 with e3;subst e1;subst e3;obtain ⟨g1,g2⟩:=TRr.after hR hD hM d2 d3 hmk hp c2 e2;exact ⟨_,_,_,VR.zyh hD (VRL.maps g2 hD e.outs e4),g1.zab (λk s hk=>(d2 k _ hk).imp λsl h=>⟨h.1,lookup_append h.2⟩) g2 _ en,hy⟩
         · have hh:=hflat F.lv σ.H.L F.E ρ0 vargs d1 d4 d5 hinj;rw [<-hHeap] at hh;refine ⟨_,hh,λv H' ⟨L',ρ',e1,e2,vs',e3,e4⟩=>(by cases e3),λrv H' ⟨L',ρ',e1,e2,vs',e3,e4⟩ => ?_⟩;injection e3 with e3;subst e1;subst e3;obtain ⟨g1,g2⟩:=TRr.after hR hD hM d2 d3 hmk hp c3 e2;exact ⟨_,_,_,VR.maps g2 hD e.pan e4,g1,hy⟩
      · cases h
theorem zlw {R:Type} (hR:TRr D F ρ ts σ) {f:Nat} {vs:List (TV D.T)} {vargs:List V} {chk:z1p D.T->Bool} {k kp:TV D.T->TS D.T->Option R} {r:R} (hv:VRL D ρ F.lv vs vargs):∀{tbl:List (Ent D)},(∀e∈tbl,e.Ok P∧e.pure=false)->zt3 D f vs ts chk k kp tbl=some r ->
  ∃(M:z1p D.T) (Post:Out->Heap->Prop),chk M=true∧(∀k s,(k,Src.slot s)∈M->∃o',fnd ts.o s=some o'∧o'.live)∧zn2 P f vargs σ.H Post ∧
   (∀out H',Post out H'->H'.lv=F.lv∧∀i,i<σ.H.L.length->(∀k s sl,(k,Src.slot s)∈M->ρ[s]? = some sl->¬sl.has i)->H'.L[i]? = σ.H.L[i]?) ∧
   (∀rv H',Post (.ret rv) H'->∃z ts' ρ',VR D ρ' F.lv z rv∧TRr D F ρ' ts' {σ with H:=H'}∧k z ts'=some r) ∧
   (∀v H',Post (.pan v) H'->∃z ts' ρ',VR D ρ' F.lv z v∧TRr D F ρ' ts' {σ with H:=H'}∧kp z ts'=some r)
 |[],_,h=>by simp [zt3,yg1] at h
 |e::tbl,htbl,h=>by
  simp only [zt3] at h;split at h
  · exact zlw hR hv (λe he=>htbl e (Qag _ he)) h
  · rename_i hf;have hf:=Qah hf;subst hf;split at h
    · rename_i M x hfit;split at h
      · rename_i hc;obtain ⟨c0,c1,c2,c3,c4⟩:=hc;obtain ⟨hM,ρ0,d1,d2,d3,d4,d5⟩:=Ent.zit hD hR hv hfit
        have hp:∀k,k<e.p->∃s,fnd M k=some (.slot s):=λk hk=>by
         have:=Qar.1 c4 k (List.mem_range.2 hk);split at this
         · rename_i s hs;exact ⟨s,hs⟩
         · cases this
        have hmk:∀k s,(k,Src.slot s)∈M->fnd M k=some (.slot s):=λk s hm=>hM.one k _ hm
        have hinj:=ztf hR hM d3;obtain ⟨hok,hpure⟩:=htbl e Qai;have hok:=hok _ _ _ _ _ h;rw [hpure] at hok;have hHeap:σ.H=⟨F.lv,σ.H.L,F.E⟩:=zl1 σ.H hR.lv hR.E
        have hlive:∀k s,(k,Src.slot s)∈M->∃o',fnd ts.o s=some o'∧o'.live:=λk s hm=>by
         obtain ⟨sl,e1,e2⟩:=d2 k _ (hmk k s hm);obtain ⟨src,f1,_,f3⟩:=d3 k sl e1
         rw [hmk k s hm] at f1;injection f1 with f1
         exact f3 s f1.symm
        have frame:∀{p:Nat} {L':List (Option kz2)} {ρ':List Slot} {os:List OSh} {y:HL D.T (z09 os)},Left D F.lv σ.H.L ρ0 p L' ρ' os y->∀i,i<σ.H.L.length->(∀k s sl,(k,Src.slot s)∈M->ρ[s]? = some sl->¬sl.has i)->L'[i]? = σ.H.L[i]? := λ{p L' ρ' os y} hl i hi hno=>by
         refine (hl.out i hi λk sl0 e1 e2 => ?_).2;obtain ⟨src,f1,f2,f3⟩:=d3 k sl0 e1
         cases src with
         |nil=>simp only [Src.is] at f2;subst f2;rcases e2 with h|h <;> cases h
         |slot s=>exact hno k s sl0 (z4b f1) f2 e2
        rcases hok with ⟨y,hy,hflat⟩|⟨y,hy,hflat⟩
        · have hh:=hflat F.lv σ.H.L F.E ρ0 vargs d1 d4 d5 hinj;rw [<-hHeap] at hh;refine ⟨M,_,c0,hlive,hh,λout H' ⟨L',ρ',e1,e2,_⟩=>⟨by rw [e1],λi hi hno=>by rw [e1];exact frame e2 i hi hno⟩,λrv H' ⟨L',ρ',e1,e2,en,vs',e3,e4⟩ => ?_,λv H' ⟨L',ρ',e1,e2,en,vs',e3,e4⟩=>(by cases e3)⟩;injection e3 with e3;subst e1;subst e3;obtain ⟨g1,g2⟩:=TRr.after hR hD hM d2 d3 hmk hp c2 e2
          exact ⟨_,_,_,VR.zyh hD (VRL.maps g2 hD e.outs e4),g1.zab (λk s hk=>(d2 k _ hk).imp λsl h=>⟨h.1,lookup_append h.2⟩) g2 _ en,hy⟩
        · have hh:=hflat F.lv σ.H.L F.E ρ0 vargs d1 d4 d5 hinj;rw [<-hHeap] at hh;refine ⟨M,_,c0,hlive,hh,λout H' ⟨L',ρ',e1,e2,_⟩=>⟨by rw [e1],λi hi hno=>by rw [e1];exact frame e2 i hi hno⟩,λv H' ⟨L',ρ',e1,e2,vs',e3,e4⟩=>(by cases e3),λrv H' ⟨L',ρ',e1,e2,vs',e3,e4⟩ => ?_⟩;injection e3 with e3;subst e1;subst e3;obtain ⟨g1,g2⟩:=TRr.after hR hD hM d2 d3 hmk hp c3 e2
          exact ⟨_,_,_,VR.maps g2 hD e.pan e4,g1,hy⟩
      · cases h
    · exact zlw hR hv (λe he=>htbl e (Qag _ he)) h
end
end Go.Ab
