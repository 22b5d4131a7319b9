/-
  THE TYPED MACHINE: own slices become data.
-/
import Derived.Test.YtcaehabdaleamaaGreatLib5
import Derived.Test.YtcaehabdaleamaaGreatLib3
namespace Go.Ab
open Go
set_option linter.unusedVariables false
set_option linter.unusedSimpArgs false
set_option linter.unusedSectionVars false
section
variable {P : Program} {D : Dat} {F : Fr} {ρ : List Slot} {ts : TS D.T} {σ : St} {lv : Nat}
mutual
theorem ylh{s:Nat}{m:Bool}{z:TV D.T}{v0 r:V}(h1:∀v,VR D ρ lv (match m with|true=>TV.map s|false=>TV.own s) v->v=v0)(hr:VR D ρ lv z r):∀{x:TV D.T}{v:V},VR D ρ lv x v->∃v',FV v0 r v v'∧VR D ρ lv (TV.frz D s m z x) v'
 |.own j,v,h=>by
  cases m with
  |true=>exact⟨v,.keep _,by simpa only[TV.frz]using h⟩
  |false=>
   simp only[TV.frz];split;rename_i hj;subst hj;obtain rfl:=h1 v h;exact⟨r,.it,hr⟩
   exact⟨v,.keep _,h⟩
 |.map j,v,h=>by
  cases m with
  |false=>exact⟨v,.keep _,by simpa only[TV.frz]using h⟩
  |true=>
   simp only[TV.frz];split;rename_i hj;subst hj;obtain rfl:=h1 v h;exact⟨r,.it,hr⟩
   exact⟨v,.keep _,h⟩
 |.agg cs,v,h=>by
  simp only[TV.frz,VR]at h ⊢;obtain⟨vs,rfl,k2⟩:=h;obtain⟨us,q1,q2⟩:=zr0 h1 hr k2
  exact⟨.agg us,.agg' q1,us,rfl,q2⟩
 |.tup cs,v,h=>by
  simp only[TV.frz,VR]at h ⊢;obtain⟨vs,rfl,k2⟩:=h;obtain⟨us,q1,q2⟩:=zr0 h1 hr k2
  exact⟨.tup us,.ypu q1,us,rfl,q2⟩
 |.dp j i off,v,h=>⟨v,.keep _,by simpa only[TV.frz]using h⟩
 |.bsl q cs,v,h=>⟨v,.keep _,by simp only[TV.frz,VR]⟩
 |.any,v,h=>⟨v,.keep _,by simpa only[TV.frz]using h⟩
 |.bool b,v,h=>⟨v,.keep _,by simpa only[TV.frz]using h⟩
 |.int k n,v,h=>⟨v,.keep _,by simpa only[TV.frz]using h⟩
 |.str b,v,h=>⟨v,.keep _,by simpa only[TV.frz]using h⟩
 |.nilp,v,h=>⟨v,.keep _,by simpa only[TV.frz]using h⟩
 |.nils,v,h=>⟨v,.keep _,by simpa only[TV.frz]using h⟩
 |.mapn,v,h=>⟨v,.keep _,by simpa only[TV.frz]using h⟩
 |.nilf,v,h=>⟨v,.keep _,by simpa only[TV.frz]using h⟩
 |.nili,v,h=>⟨v,.keep _,by simpa only[TV.frz]using h⟩
 |.sl t' ys fl,v,h=>⟨v,.keep _,by simpa only[TV.frz]using h⟩
 |.ptr j off,v,h=>⟨v,.keep _,by simpa only[TV.frz]using h⟩
 |.bp j off,v,h=>⟨v,.keep _,by simpa only[TV.frz]using h⟩
 |.osl j lo,v,h=>⟨v,.keep _,by simpa only[TV.frz]using h⟩
 |.mc t' es,v,h=>⟨v,.keep _,by simpa only[TV.frz]using h⟩
 |.ref cs off,v,h=>⟨v,.keep _,by simpa only[TV.frz]using h⟩
 |.ap j t' i x off,v,h=>⟨v,.keep _,by simpa only[TV.frz]using h⟩
 |.fn f a b,v,h=>⟨v,.keep _,by simpa only[TV.frz]using h⟩
 |.iface t' x,v,h=>⟨v,.keep _,by simpa only[TV.frz]using h⟩
theorem zr0{s:Nat}{m:Bool}{z:TV D.T}{v0 r:V}(h1:∀v,VR D ρ lv (match m with|true=>TV.map s|false=>TV.own s) v->v=v0)(hr:VR D ρ lv z r):∀{cs:List (TV D.T)}{vs:List V},VRL D ρ lv cs vs->∃us,FVL v0 r vs us∧VRL D ρ lv (TV.yhy D s m z cs) us
 |[],vs,h=>by simp only[TV.yhy,VRL]at h ⊢;subst h;exact⟨[],.nil,rfl⟩
 |c::cs,vs,h=>by
  simp only[TV.yhy,VRL]at h ⊢;obtain⟨v,q,rfl,k2,k3⟩:=h;obtain⟨v',a1,a2⟩:=ylh h1 hr k2;obtain⟨us,b1,b2⟩:=zr0 h1 hr k3;exact⟨v'::us,.cons a1 b1,v',us,rfl,a2,b2⟩
end
theorem yey(s)(m)(z):∀cs:List (TV D.T),TV.yhy D s m z cs=cs.map (TV.frz D s m z)
 |[]=>rfl
 |c::cs=>by simp[TV.yhy,yey s m z cs]
theorem zqh{s m z v0 r}(h1:∀v,VR D ρ lv (match m with|true=>TV.map s|false=>TV.own s) v->v=v0)(hr:VR D ρ lv z r)(f:Nat->Option (TV D.T)):∀(l) (k),(∀j x v,f (k+j)=some x->l[j]? = some v->VR D ρ lv x v) ->
  ∃l',FVL v0 r l l'∧∀j x v,f (k+j)=some x->l'[j]? = some v->VR D ρ lv (TV.frz D s m z x) v
 |[],k,h=>⟨[],.nil,λj x v _ hv=>by simp at hv⟩
 |u::l,k,h=>by
  obtain⟨l',a1,a2⟩:=zqh h1 hr f l (k+1) λj x v hx hv=>h (j+1) x v (by grind) (by simpa using hv)
  cases hf:f k with
  |none=>
   refine⟨u::l',.cons (.keep _) a1,λj x v hx hv =>?_⟩
   cases j with
   |zero=>grind
   |succ j=>grind
  |some y=>
   obtain⟨u',b1,b2⟩:=ylh h1 hr (h 0 y u (by simpa using hf) rfl);refine⟨u'::l',.cons b1 a1,λj x v hx hv =>?_⟩
   cases j with
   |zero=>simp_all
   |succ j=>grind
theorem zs0(hR:TRr D F ρ ts σ){s:Nat}{m:Bool}{z:TV D.T}{v0 r:V}(hz:∀q,z ≠ .own q)(h1:∀v,VR D ρ F.lv (match m with|true=>TV.map s|false=>TV.own s) v->v=v0)(hr:VR D ρ F.lv z r):∀n:Nat,∃os os':List (Nat×kz8),FOL v0 r os os'∧(os.map (·.1)).Nodup ∧
  (∀p∈os,σ.H.L[p.1]? = some (some p.2)∧∃s' o sl',s'<n∧s'≠s∧fnd ts.o s'=some o∧o.live∧ρ[s']? = some sl'∧sl'.k=some p.1) ∧
  ∀s' o sl' i,s'<n->s'≠s->fnd ts.o s'=some o->o.live->ρ[s']? = some sl'->sl'.k=some i->∃ao,(i,ao)∈os'∧∀L',L'[i]? = some (some ao)->(∀j∈sl'.fp,L'[j]? = σ.H.L[j]?)->OR D ρ F.lv L' sl' (TO.map D (TV.frz D s m z) o)
 |0=>⟨[],[],.refl _,by simp,by simp,λs' o sl' i h=>by omega⟩
 |n+1=>by
  obtain⟨os,os',a1,a2,a3,a4⟩:=zs0 hR hz h1 hr n
  have skip:(∀o sl' i,n≠s->fnd ts.o n=some o->o.live->ρ[n]? = some sl'->sl'.k=some i->False)->∃os os':List (Nat×kz8),FOL v0 r os os'∧(os.map (·.1)).Nodup ∧
    (∀p∈os,σ.H.L[p.1]? = some (some p.2)∧∃s' o sl',s'<n+1∧s'≠s∧fnd ts.o s'=some o∧o.live∧ρ[s']? = some sl'∧sl'.k=some p.1) ∧
    ∀s' o sl' i,s'<n+1->s'≠s->fnd ts.o s'=some o->o.live->ρ[s']? = some sl'->sl'.k=some i->∃ao,(i,ao)∈os'∧∀L',L'[i]? = some (some ao)->(∀j∈sl'.fp,L'[j]? = σ.H.L[j]?)->OR D ρ F.lv L' sl' (TO.map D (TV.frz D s m z) o):=λhno=>
   ⟨os,os',a1,a2,λp hp=>by obtain⟨b1,s',o,sl',b2,b3⟩:=a3 p hp;exact⟨b1,s',o,sl',by omega,b3⟩,λs' o sl' i c1 c2 c3 c4 c5 c6=>by
     by_cases e:s'=n;subst e;exact(hno o sl' i c2 c3 c4 c5 c6).elim
     exact a4 s' o sl' i (by omega) c2 c3 c4 c5 c6⟩
  by_cases hns:n=s;exact skip λo sl' i hne=>(hne hns).elim
  ·cases ho:fnd ts.o n with
   |none=>exact skip λo sl' i _ h=>by rw[ho]at h;cases h
   |some o=>
    obtain⟨sl',k1,k2⟩:=hR.ob n o ho;by_cases hl:o.live
    ·cases hk:sl'.k with
     |none=>exact skip λo' sl2 i _ h hl' h2 h3=>by rw[k1]at h2;injection h2 with h2;subst h2;rw[hk]at h3;cases h3
     |some i=>
      obtain⟨a,ha⟩:=k2.at hl hk
      have hfresh:i∉os.map (·.1):=λhm=>by
       obtain⟨p,hp,hpi⟩:=Qbc.1 hm;obtain⟨b1,s',o',sl2,b2,b3,b4,b5,b6,b7⟩:=a3 p hp;have:=hR.inj n s' o o' sl' sl2 i ho b4 hl b5 k1 b6 (.inl hk) (.inl (by rw[b7,hpi]));omega
      have step:∀a':kz8,FO v0 r a a'->(∀L':List (Option kz8),L'[i]? = some (some a')->(∀j∈sl'.fp,L'[j]? = σ.H.L[j]?)->OR D ρ F.lv L' sl' (TO.map D (TV.frz D s m z) o))->∃os os':List (Nat×kz8),FOL v0 r os os'∧(os.map (·.1)).Nodup ∧
        (∀p∈os,σ.H.L[p.1]? = some (some p.2)∧∃s' o sl',s'<n+1∧s'≠s∧fnd ts.o s'=some o∧o.live∧ρ[s']? = some sl'∧sl'.k=some p.1) ∧
        ∀s' o sl' i,s'<n+1->s'≠s->fnd ts.o s'=some o->o.live->ρ[s']? = some sl'->sl'.k=some i->∃ao,(i,ao)∈os'∧∀L',L'[i]? = some (some ao)->(∀j∈sl'.fp,L'[j]? = σ.H.L[j]?)->OR D ρ F.lv L' sl' (TO.map D (TV.frz D s m z) o):=λa' hfo hor=>
       ⟨(i,a)::os,(i,a')::os',.cons hfo a1,by simp only[List.map_cons,List.nodup_cons];exact⟨hfresh,a2⟩,λp hp=>by
         rcases Qbf.1 hp with rfl|hp
         exact⟨ha,n,o,sl',by omega,hns,ho,hl,k1,hk⟩
         obtain⟨b1,s',o,sl',b2,b3⟩:=a3 p hp;exact⟨b1,s',o,sl',by omega,b3⟩,λs' o2 sl2 i2 c1 c2 c3 c4 c5 c6=>by
         by_cases e:s'=n;subst e
         rw[ho]at c3;injection c3 with c3;subst c3
         rw[k1]at c5;injection c5 with c5;subst c5
         rw[hk]at c6;injection c6 with c6;subst c6
         exact⟨a',Qak,hor⟩;obtain⟨ao,d1,d2⟩:=a4 s' o2 sl2 i2 (by omega) c2 c3 c4 c5 c6
         exact⟨ao,Qai _ d1,d2⟩⟩
      cases o with
      |cells cs=>
       simp only[OR]at k2;obtain⟨i',vs,e1,e2,e3⟩:=k2
       rw[hk]at e1;injection e1 with e1;subst e1
       rw[ha]at e2;injection e2 with e2;injection e2 with e2;subst e2
       obtain⟨us,f1,f2⟩:=zr0 h1 hr e3;rw[yey]at f2
       exact step (.cells us) (.inr ⟨vs,us,rfl,rfl,f1⟩) λL' hL' hL2=>by simp only[TO.map,OR];exact⟨i,us,hk,hL',f2⟩
      |acc ty' t' xs' w'=>
       have:=k2;refine step a (.inl rfl) λL' hL' hL2 =>?_
       simp only[OR,hk]at k2;simp only[TO.map,OR,hk];obtain⟨e1,e2,ver,cp,e3,e4⟩:=k2;rw[ha]at e4
       exact⟨e1,e2,ver,cp,e3,hL'.trans e4⟩
      |rig=>simp only[OR]at k2;rw[k2.1]at hk;cases hk
      |siter l pos=>
       refine step a (.inl rfl) λL' hL' hL2 =>?_
       simp only[OR]at k2;simp only[TO.map,OR];obtain⟨i',e1,e2⟩:=k2
       rw[hk]at e1;injection e1 with e1;subst e1
       rw[ha]at e2
       exact⟨i,hk,hL'.trans e2⟩
      |mp ty' t' es'=>
       refine step a (.inl rfl) λL' hL' hL2 =>?_
       simp only[OR]at k2;simp only[TO.map,OR];obtain⟨i',ms,e1,e0,e3,e2⟩:=k2
       rw[hk]at e1;injection e1 with e1;subst e1
       rw[ha]at e2
       exact⟨i,ms,hk,e0,e3,hL'.trans e2⟩
      |mit t' last es'=>
       refine step a (.inl rfl) λL' hL' hL2 =>?_
       simp only[OR]at k2;simp only[TO.map,OR];obtain⟨i',fs,vis,e1,e0,e2,e3⟩:=k2
       rw[hk]at e1;injection e1 with e1;subst e1
       rw[ha]at e2
       exact⟨i,fs,vis,hk,e0,hL'.trans e2,e3⟩
      |bld ty' b'=>
       refine step a (.inl rfl) λL' hL' hL2 =>?_
       simp only[OR]at k2;obtain⟨i',u,c,e1,e2,e3,e4⟩:=k2
       rw[hk]at e1;injection e1 with e1;subst e1
       rw[ha]at e2
       cases b' with
       |none=>simp only[TO.map,OR];exact⟨i,u,c,hk,hL'.trans e2,e3,e4⟩
       |some q=>
        cases m with
        |true=>simp only[TO.map,TV.frz,OR];exact⟨i,u,c,hk,hL'.trans e2,e3,e4⟩
        |false=>
         simp only[TO.map,TV.frz];by_cases hq:q=s
         ·rw[Qbo hq];cases z <;> simp only[OR]
          case own q'=>exact(hz q' rfl).elim
         rw[Qbp hq];simp only[OR];exact⟨i,u,c,hk,hL'.trans e2,e3,e4⟩
      |gone=>exact hl.elim
      |deep ty' q' xs' h'=>
       have hsame:∀L':List (Option kz8),L'[i]? = some (some a)->(∀j∈sl'.fp,L'[j]? = σ.H.L[j]?)->OR D ρ F.lv L' sl' (.deep ty' q' xs' h'):=λL' hL' hL2=>by
        have:=k2.mono (L':=L') [] λj hj _=>by
         rcases hj with hj|hj
         rw[hk]at hj;injection hj with hj;subst hj;exact hL'.trans ha.symm
         exact hL2 j hj
        simpa using this
       refine step a (.inl rfl) λL' hL' hL2 =>?_
       cases h' with
       |none=>exact hsame L' hL' hL2
       |some p=>
        obtain⟨n',c',s0⟩:=p;simp only[TO.map]
        cases m with
        |true=>simp only[TV.frz];exact hsame L' hL' hL2
        |false=>
         simp only[TV.frz];by_cases hq:s0=s
         ·rw[Qbo hq];cases z <;> simp only[OR]
          case own q'=>exact(hz q' rfl).elim
         rw[Qbp hq];exact hsame L' hL' hL2
    exact skip λo' sl2 i _ h hl'=>by rw[ho]at h;injection h with h;subst h;exact(hl hl').elim
theorem y2d(hR:TRr D F ρ ts σ){s:Nat}{m:Bool}{z:TV D.T}(hz:∀q,z ≠ .own q){v0 r:V}{sl:Slot}(k1:ρ[s]? = some sl)(hd0:ts.d=[]){os':List (Nat×kz8)}
  (a4:∀s' o sl' i,s'<ts.nx->s'≠s->fnd ts.o s'=some o->o.live->ρ[s']? = some sl'->sl'.k=some i->∃ao,(i,ao)∈os'∧∀L',L'[i]? = some (some ao)->(∀j∈sl'.fp,L'[j]? = σ.H.L[j]?)->OR D ρ F.lv L' sl' (TO.map D (TV.frz D s m z) o))
  {t':List V} (c1:FVL v0 r σ.t t') (c2:∀j x v,fnd ts.t (0+j)=some x->t'[j]? = some v->VR D ρ F.lv (TV.frz D s m z x) v) {L':List (Option kz8)}(d1:∀p'∈os',L'[p'.1]? = some (some p'.2)) (d3:L'.length=σ.H.L.length) (d4:∀i,F.out i->L'[i]? = σ.H.L[i]?) (d5:∀s' o sl' i,s'≠s->fnd ts.o s'=some o->o.live->ρ[s']? = some sl'->i∈sl'.fp->L'[i]? = σ.H.L[i]?) :
  TRr D F ρ {ts.z7y D (TV.frz D s m z)with o:=(s,TO.gone)::(ts.z7y D (TV.frz D s m z)).o} ⟨t',⟨F.lv,L',σ.H.E⟩,[],σ.e0⟩:=by
 have hob:∀s' o,fnd ((s,TO.gone)::(ts.z7y D (TV.frz D s m z)).o) s'=some o->(s'=s∧o = .gone)∨(s'≠s∧∃o',fnd ts.o s'=some o'∧o=TO.map D (TV.frz D s m z) o'):=λs' o h=>by
  rw[kz5]at h;split at h
  rename_i e;injection h with h;exact .inl ⟨e.symm,h.symm⟩
  rename_i e;simp only[TS.z7y]at h;rw[zer (TO.map D (TV.frz D s m z)),Qaf]at h;obtain⟨o',h1,h2⟩:=h;exact .inr ⟨λe'=>e e'.symm,o',h1,h2.symm⟩
 have hlive:∀o:TO D.T,(TO.map D (TV.frz D s m z) o).live->o.live:=λo h=>by cases o <;> first|exact h|trivial
 have old:∀s' o,fnd ((s,TO.gone)::(ts.z7y D (TV.frz D s m z)).o) s'=some o->o.live->s'≠s∧∃o',fnd ts.o s'=some o'∧o'.live∧o=TO.map D (TV.frz D s m z) o':=λs' o h hl=>by
  rcases hob s' o h with ⟨_,rfl⟩|⟨h1,o',h2,rfl⟩
  exact hl.elim;exact⟨h1,o',h2,hlive o' hl,rfl⟩
 refine⟨hR.nx,c1.length.symm.trans hR.nt,λj x hj =>?_,λs' o h =>?_,λs1 s2 o1 o2 sl1 sl2 i h1 h2 l1 l2 r1 r2 =>?_,λs1 o1 sl1 i h1 l1 r1 =>?_,rfl,hR.E,hR.e0,(by simp only[TS.z7y,hd0,List.map_nil];rfl),λi hi =>?_,hR.pin,λs1 o1 sl1 i h1 l1 r1 k1 =>?_,λi s1 v h1 h2=>yl6 (f:=TV.frz D s m z) (λs0 s' e u hu=>by
  cases m with
  |true=>simp only[TV.frz,TV.own.injEq]at e;subst e;exact hu
  |false=>
   simp only[TV.frz]at e;split at e;exact(hz _ e).elim
   simp only[TV.own.injEq]at e;subst e;exact hu) (λs0 e=>hR.g i s0 v e h2) h1⟩
 simp only[TS.z7y]at hj;rw[zer (TV.frz D s m z),Qaf]at hj;obtain⟨y,hy,rfl⟩:=hj;obtain⟨u,e1,e2⟩:=hR.tm j y hy;have hlt:j<t'.length:=by rw[<-c1.length];exact(Qaa.1 e1).1
 exact⟨t'[j],Qab hlt,c2 j y _ (by simpa using hy) (Qab hlt)⟩
 rcases hob s' o h with ⟨rfl,rfl⟩|⟨h1,o',h2,rfl⟩
 exact⟨sl,k1,by simp only[OR]⟩;obtain⟨sl',m1,m2⟩:=hR.ob s' o' h2;refine⟨sl',m1,?_⟩;by_cases hl:o'.live
 cases hk:sl'.k with
 |some i=>
  obtain⟨ao,n1,n2⟩:=a4 s' o' sl' i (by rw[<-hR.nx];exact(Qaa.1 m1).1) h1 h2 hl m1 hk
  exact n2 L' (d1 _ n1) λj hj=>d5 s' o' sl' j h1 h2 hl m1 hj
 |none=>
  cases o' with
  |cells cs=>simp only[OR]at m2;obtain⟨i,_,e,_⟩:=m2;rw[hk]at e;cases e
  |acc ty' t'' xs' w'=>simp only[OR,hk]at m2;simp only[TO.map,OR,hk];exact m2
  |siter l pos=>simp only[OR]at m2;obtain⟨i,e,_⟩:=m2;rw[hk]at e;cases e
  |rig=>exact m2
  |mp ty' t' es'=>simp only[OR]at m2;obtain⟨i,_,e,_⟩:=m2;rw[hk]at e;cases e
  |mit t' last es'=>simp only[OR]at m2;obtain⟨i,_,_,e,_⟩:=m2;rw[hk]at e;cases e
  |bld ty' b'=>simp only[OR]at m2;obtain⟨i,_,_,e,_⟩:=m2;rw[hk]at e;cases e
  |gone=>simp only[TO.map,OR]
  |deep ty' q' xs' h'=>
   simp only[OR,hk]at m2;obtain⟨e1,e2,e3,e4,rfl⟩:=m2;simp only[TO.map,OR,hk];exact⟨e1,e2,e3,e4,trivial⟩
 cases o' with
 |gone=>simp only[TO.map,OR]
 |_=>exact(hl trivial).elim
 obtain⟨_,o1',e1,f1,_⟩:=old s1 o1 h1 l1;obtain⟨_,o2',e2,f2,_⟩:=old s2 o2 h2 l2;exact hR.inj s1 s2 o1' o2' sl1 sl2 i e1 e2 f1 f2 r1 r2;obtain⟨_,o1',e1,f1,_⟩:=old s1 o1 h1 l1;exact hR.mine s1 o1' sl1 i e1 f1 r1;obtain⟨h1,h2⟩:=hR.out i hi;exact⟨by show i<L'.length;rw[d3];exact h1,(d4 i hi).trans h2⟩;obtain⟨hne,o1',e1,f1,_⟩:=old s1 o1 h1 l1;have hq:=hR.fpl s1 o1' sl1 i e1 f1 r1 k1
 exact⟨hq.1,by show ∃a,L'[i]? = _;rw[d5 s1 o1' sl1 i hne e1 f1 r1 k1];exact hq.2⟩
theorem zr4(hD:D.Ok P){s:Nat}{ts':TS D.T}(hR:TRr D F ρ ts σ)(h:ts.freeze D s=some ts'):∃τ,zj1 σ τ∧TRr D F ρ ts' τ:=by
 unfold TS.freeze at h;split at h;rename_i ty t xs w hd0 ho;injection h with h;subst h;have hd1:σ.d=[]:=by have:=hR.d;rw[hd0]at this;exact this
 obtain⟨sl,k1,k2⟩:=hR.ob s _ ho;have hor:=k2;simp only[OR]at k2;obtain⟨q1,q2,q3⟩:=k2;have hsn:s<ρ.length:=(Qaa.1 k1).1
 have hr:VR D ρ F.lv (.sl t xs 0) (.sl (D.len t) sl.ws false):=by
  simp only[VR];exact⟨.sl t xs sl.ws false q1 q2,by omega,by omega⟩
 obtain⟨os,os',a1,a2,a3,a4⟩:=zs0 hR (s:=s) (m:=false) (z:=.sl t xs 0) (v0:=sl.v) (λq h=>by cases h) (λv h=>by
  simp only[VR]at h;obtain⟨q,e1,e2,_⟩:=h;rw[k1]at e1;injection e1 with e1;subst e1;exact e2) hr ts.nx
 have hacc:z6y F.lv σ.H.L [⟨ty,D.len t,sl.v,sl.ws,w⟩] os:=by
  refine⟨⟨[sl.k],rfl,λj k a hj ha =>?_,λi j n hi hj =>?_,λp hp=>⟨(a3 p hp).1,λj hj =>?_⟩⟩,a2⟩
  cases j with
  |zero=>
   simp at hj ha;subst hj;subst ha
   cases hk:sl.k with
   |none=>rw[hk]at q3;exact q3.imp id λq=>⟨q.1.1,q.2⟩
   |some i=>rw[hk]at q3;obtain⟨ver,cp,e1,e2⟩:=q3;exact⟨ver,cp,e1,e2⟩
  |succ j=>simp at hj
  cases i <;> cases j <;> simp at hi hj <;> rfl
  obtain⟨_,s',o,sl',b2,b3,b4,b5,b6,b7⟩:=a3 p hp
  cases j with
  |zero=>
   simp at hj
   exact b3 (hR.inj s' s o _ sl' sl p.1 b4 ho b5 trivial b6 k1 (.inl b7) (.inl hj))
  |succ j=>simp at hj
 obtain⟨t',c1,c2⟩:=zqh (s:=s) (m:=false) (z:=.sl t xs 0) (v0:=sl.v) (λv h=>by
  simp only[VR]at h;obtain⟨q,e1,e2,_⟩:=h;rw[k1]at e1;injection e1 with e1;subst e1;exact e2) hr (fnd ts.t) σ.t 0 λj x v hx hv=>by
  obtain⟨u,e1,e2⟩:=hR.tm j x (by simpa using hx)
  rw[hv]at e1;injection e1 with e1;subst e1;exact e2
 obtain⟨L',⟨d1,d2⟩,d3,d4⟩:=hacc.yld (j:=0) rfl c1 a1 σ.H.E σ.e0
 have hσ:σ=⟨σ.t,⟨F.lv,σ.H.L,σ.H.E⟩,[],σ.e0⟩:=by
  have e1:=hR.lv;have e2:=hd1;obtain⟨t,⟨l,L,E⟩,d,e0⟩:=σ;simp only at e1 e2;subst e1;subst e2;rfl
 rw[<-hσ]at d2;refine⟨_,d2,?_⟩
 have hfp:∀s' o sl' i,s'≠s->fnd ts.o s'=some o->o.live->ρ[s']? = some sl'->i∈sl'.fp->L'[i]? = σ.H.L[i]? := λs' o' sl' i hne ho' hl' hs' hi=>by
  obtain⟨f1,f2⟩:=hR.fpl s' o' sl' i ho' hl' hs' hi;refine d4 i (hR.lt ho' hl' hs' (.inr hi)) (λp hp e =>?_) λver n e =>?_
  obtain⟨_,s2,o2,sl2,b2,b3,b4,b5,b6,b7⟩:=a3 p hp;have:=hR.inj s2 s' o2 o' sl2 sl' i b4 ho' b5 hl' b6 hs' (.inl (by rw[b7,e])) (.inr hi);subst this
  rw[hs']at b6;injection b6 with b6;subst b6
  exact f1 (by rw[b7,e])
  cases hk:sl.k with
  |none=>rw[hk]at q3;rcases q3 with ⟨q,_⟩|⟨⟨q,_⟩,_⟩ <;> (rw[e]at q;cases q)
  |some j=>
   rw[hk]at q3;obtain⟨ver',cp,q,_⟩:=q3
   rw[e]at q;injection q with _ q;subst q
   exact hne (hR.inj s' s o' _ sl' sl i ho' ho hl' trivial hs' k1 (.inr hi) (.inl hk))
 refine y2d hR (λq h=>by cases h) k1 hd0 a4 c1 c2 (λp' hp'=>d1.accs.get (by exact hp')) d3 (λi hi =>?_) hfp;refine d4 i (hR.out i hi).1 (λp hp e =>?_) λver n e =>?_
 obtain⟨_,s',o,sl',b2,b3,b4,b5,b6,b7⟩:=a3 p hp;exact hR.mine s' o sl' i b4 b5 b6 (.inl (by rw[b7,e])) hi
 cases hk:sl.k with
 |none=>rw[hk]at q3;rcases q3 with ⟨q,_⟩|⟨⟨q,_⟩,_⟩ <;> (rw[e]at q;cases q)
 |some j=>
  rw[hk]at q3;obtain⟨ver',cp,q,_⟩:=q3
  rw[e]at q;injection q with _ q;subst q
  exact hR.mine s _ sl i ho trivial k1 (.inl hk) hi
 rename_i ty q xs hd0 ho;injection h with h;subst h;have hd1:σ.d=[]:=by have:=hR.d;rw[hd0]at this;exact this
 obtain⟨sl,k1,k2⟩:=hR.ob s _ ho;obtain⟨u,u1,u2⟩:=(yd9 k2).seeH (R:=(· ∈ sl.all)) (λi hi=>hi)
 have hr:VR D ρ F.lv (.sl (.st q) xs 0) u:=by
  simp only[VR];exact⟨u1,by omega,by omega⟩
 have hit:∀v,VR D ρ F.lv (match false with|true=>TV.map s|false=>TV.own s:TV D.T) v->v=sl.v:=λv h=>by
  simp only[VR]at h;obtain⟨q,e1,e2,_⟩:=h;rw[k1]at e1;injection e1 with e1;subst e1;exact e2
 obtain⟨os,os',a1,a2,a3,a4⟩:=zs0 hR (s:=s) (m:=false) (z:=.sl (.st q) xs 0) (v0:=sl.v) (λq h=>by cases h) hit hr ts.nx
 obtain⟨t',c1,c2⟩:=zqh (s:=s) (m:=false) (z:=.sl (.st q) xs 0) (v0:=sl.v) hit hr (fnd ts.t) σ.t 0 λj x v hx hv=>by
  obtain⟨u,e1,e2⟩:=hR.tm j x (by simpa using hx)
  rw[hv]at e1;injection e1 with e1;subst e1;exact e2
 have hu2:VH σ.H.lv σ.H.L (· ∈ sl.all) sl.v u:=by rw[hR.lv];exact u2
 obtain⟨d1,d2,d3⟩:=yod hd1 hu2 a2 a1 (λp hp=>⟨(a3 p hp).1,λhm=>by
  obtain⟨_,s',o,sl',b2,b3,b4,b5,b6,b7⟩:=a3 p hp
  exact b3 (hR.inj s' s o _ sl' sl p.1 b4 ho b5 trivial b6 k1 (.inl b7) (Slot.zn9.1 hm))⟩) c1
 rw[hR.lv]at d1;refine⟨_,d1,?_⟩
 have hfp:∀s' o sl' n,s'≠s->fnd ts.o s'=some o->o.live->ρ[s']? = some sl'->n∈sl'.fp->_:=λs' o' sl' n hne ho' hl' hs' hi=>by
  obtain⟨f1,f2⟩:=hR.fpl s' o' sl' n ho' hl' hs' hi;refine d3 n (hR.lt ho' hl' hs' (.inr hi)) (λhm =>?_) λp hp e =>?_
  exact hne (hR.inj s' s o' _ sl' sl n ho' ho hl' trivial hs' k1 (.inr hi) (Slot.zn9.1 hm));obtain⟨_,s2,o2,sl2,b2,b3,b4,b5,b6,b7⟩:=a3 p hp;have:=hR.inj s2 s' o2 o' sl2 sl' n b4 ho' b5 hl' b6 hs' (.inl (by rw[b7,e])) (.inr hi);subst this
  rw[hs']at b6;injection b6 with b6;subst b6
  exact f1 (by rw[b7,e])
 refine y2d hR (λq h=>by cases h) k1 hd0 a4 c1 c2 d2 (zn1 _ _ _) (λn hn =>?_) hfp;refine d3 n (hR.out n hn).1 (λhm =>?_) λp hp e =>?_
 exact hR.mine s _ sl n ho trivial k1 (Slot.zn9.1 hm) hn;obtain⟨_,s',o,sl',b2,b3,b4,b5,b6,b7⟩:=a3 p hp;exact hR.mine s' o sl' n b4 b5 b6 (.inl (by rw[b7,e])) hn
 ·rename_i ty t es hd0 ho;split at h
  case isFalse=>cases h
  rename_i hfl;injection h with h;subst h;have hd1:σ.d=[]:=by have:=hR.d;rw[hd0]at this;exact this
  obtain⟨sl,k1,k2⟩:=hR.ob s _ ho;simp only[OR]at k2;obtain⟨i,ms,q1,q2',q4,q3⟩:=k2;have q2:=hfl;have hr:VR D ρ F.lv (.mc t es) (.mapc (es.map λp=>(.str p.1,zvm t p.2))):=by unfold VR;exact⟨q2,rfl⟩
  have hit:∀v,VR D ρ F.lv (match true with|true=>TV.map s|false=>TV.own s:TV D.T) v->v = .map F.lv i:=λv h=>by
   simp only[VR]at h;obtain⟨q,i',e1,e2,e3⟩:=h;rw[k1]at e1;injection e1 with e1;subst e1;rw[q1]at e2;injection e2 with e2;subst e2;exact e3
  obtain⟨os,os',a1,a2,a3,a4⟩:=zs0 hR (s:=s) (m:=true) (z:=.mc t es) (λq h=>by cases h) hit hr ts.nx
  obtain⟨t',c1,c2⟩:=zqh (s:=s) (m:=true) (z:=.mc t es) hit hr (fnd ts.t) σ.t 0 λj x v hx hv=>by
   obtain⟨u,e1,e2⟩:=hR.tm j x (by simpa using hx)
   rw[hv]at e1;injection e1 with e1;subst e1;exact e2
  rw[<-hR.lv]at a1 c1
  have q3':σ.H.L[i]? = some (some (.map ((es.map λp=>((.str p.1:PV),zvm t p.2)).map λp=>(p.1.v,p.2.v)))):=by
   rw[q3,List.map_map,q2',List.map_map]
   congr 3
   exact List.map_congr_left λp hp=>by show _=(V.str p.1,(zvm t p.2.1).v);rw[yse D q2,DR.flat q2 (q4 p hp)]
  obtain⟨d1,d2,d3⟩:=ynp q3' hd1 a2 a1 (λp hp=>⟨(a3 p hp).1,λe=>by
   obtain⟨_,s',o,sl',b2,b3,b4,b5,b6,b7⟩:=a3 p hp
   exact b3 (hR.inj s' s o _ sl' sl p.1 b4 ho b5 trivial b6 k1 (.inl b7) (.inl (by rw[e];exact q1)))⟩) c1
  rw[hR.lv]at d1;refine⟨_,d1,?_⟩
  have hfp:∀s' o sl' n,s'≠s->fnd ts.o s'=some o->o.live->ρ[s']? = some sl'->n∈sl'.fp->_:=λs' o' sl' n hne ho' hl' hs' hi=>by
   obtain⟨f1,f2⟩:=hR.fpl s' o' sl' n ho' hl' hs' hi;refine d3 n (hR.lt ho' hl' hs' (.inr hi)) (λe =>?_) λp hp e =>?_
   subst e;exact hne (hR.inj s' s o' _ sl' sl n ho' ho hl' trivial hs' k1 (.inr hi) (.inl q1));obtain⟨_,s2,o2,sl2,b2,b3,b4,b5,b6,b7⟩:=a3 p hp;have:=hR.inj s2 s' o2 o' sl2 sl' n b4 ho' b5 hl' b6 hs' (.inl (by rw[b7,e])) (.inr hi);subst this
   rw[hs']at b6;injection b6 with b6;subst b6
   exact f1 (by rw[b7,e])
  refine y2d hR (λq h=>by cases h) k1 hd0 a4 c1 c2 d2 (zdl _ _ _) (λn hn =>?_) hfp;refine d3 n (hR.out n hn).1 (λe =>?_) λp hp e =>?_
  subst e;exact hR.mine s _ sl n ho trivial k1 (.inl q1) hn;obtain⟨_,s',o,sl',b2,b3,b4,b5,b6,b7⟩:=a3 p hp;exact hR.mine s' o sl' n b4 b5 b6 (.inl (by rw[b7,e])) hn
 cases h
end
section
variable {P : Program} {D : Dat} {F : Fr} {ρ : List Slot} {ts : TS D.T} {σ : St} {lv : Nat}
theorem zfh{α}:∀(a b:List (Nat×α)) (j),fnd (a++b) j=match fnd a j with|some x=>some x|none=>fnd b j
 |[],b,j=>rfl
 |(i,x)::a,b,j=>by
  rw[List.cons_append,kz5,kz5];split;rfl;exact zfh a b j
theorem y0o{T}:∀(tos) (n s) (o:TO T),fnd (ybf tos n) s=some o->∃a,s=n+a∧tos[a]? = some o
 |[],n,s,o,h=>by cases h
 |t::r,n,s,o,h=>by
  simp[ybf,kz5]at h;split at h
  rename_i e;injection h with h;simp_all
  obtain⟨a,h1,h2⟩:=y0o r (n+1) s o h;exact⟨a+1,by omega,by simpa using h2⟩
theorem zv7{T}:∀(l) (s) (o:TO T),fnd (zr2 l) s=some o->o = .gone∧s∈l
 |[],s,o,h=>by cases h
 |t::r,s,o,h=>by
  simp[zr2,kz5]at h;split at h
  rename_i e;injection h with h;grind
  obtain⟨h1,h2⟩:=zv7 r s o h
  grind
theorem zr8{T}:∀(l) (s),fnd (zr2 (T:=T) l) s=none->s∉l
 |[],s,h=>by simp
 |t::r,s,h=>by
  simp[zr2,kz5]at h;split at h;cases h;rename_i e;intro hm
  rcases Qbf.1 hm with rfl|hm
  exact e rfl;exact zr8 r s h hm
theorem TRr.zj8(hR:TRr D F ρ ts σ)(olds:List Nat)(hold:∀s∈olds,∃o sl,fnd ts.o s=some o∧o.live∧ρ[s]? = some sl)(news:List (TO D.T×Slot))(H':kz3)(hlv:H'.lv=F.lv)(hE:H'.E=F.E)(hlen:σ.H.L.length<=H'.L.length)
  (hL:∀i,i<σ.H.L.length->(∀s∈olds,∀sl,ρ[s]? = some sl->¬sl.has i)->H'.L[i]? = σ.H.L[i]?)
  (hhas:∀p∈news,∀i,p.2.has i->σ.H.L.length<=i∨∃s∈olds,∃sl,ρ[s]? = some sl∧sl.has i)
  (hdis:∀(a b:Nat) (p p':TO D.T×Slot) (i:Nat),news[a]? = some p->news[b]? = some p'->p.2.has i->p'.2.has i->a=b)
  (hor:∀p∈news,OR D (ρ++news.map (·.2)) F.lv H'.L p.2 p.1)
  (hfp:∀p∈news,∀i∈p.2.fp,p.2.k≠some i∧∃a,H'.L[i]? = some (some a)) :
  TRr D F (ρ++news.map (·.2)) (ts.zj8 olds (news.map (·.1))) {σ with H:=H'}:=by
 have kinds:∀s o,fnd (ts.zj8 olds (news.map (·.1))).o s=some o->(∃a p,s=ts.nx+a∧news[a]? = some p∧p.1=o)∨(o = .gone∧s∈olds)∨(s∉olds∧fnd ts.o s=some o):=λs o h=>by
  simp only[TS.zj8]at h;rw[zfh]at h;split at h;rename_i o' ho';injection h with h;subst h;obtain⟨a,h1,h2⟩:=y0o _ _ _ _ ho';rw[Qan,Qaf]at h2;obtain⟨p,h3,h4⟩:=h2;exact .inl ⟨a,p,h1,h3,h4⟩;rw[zfh]at h;split at h;rename_i o' ho';injection h with h;subst h;exact .inr (.inl (zv7 _ _ _ ho'));rename_i hn;exact .inr (.inr ⟨zr8 _ _ hn,h⟩)
 have slotNew:∀(a:Nat) (p:TO D.T×Slot),news[a]? = some p->(ρ++news.map (·.2))[ts.nx+a]? = some p.2:=λa p h=>by
  rw[<-hR.nx,Qau (by omega),show ρ.length+a-ρ.length=a by omega,Qan,h];rfl
 have slotOld:∀s o sl,fnd ts.o s=some o->(ρ++news.map (·.2))[s]? = some sl->ρ[s]? = some sl:=λs o sl ho h=>by
  obtain⟨q,h1,h2⟩:=hR.ob s o ho;rw[lookup_append h1]at h;rw[h1,h]
 have apart:∀s o sl i,fnd ts.o s=some o->o.live->s∉olds->ρ[s]? = some sl->sl.has i->∀s0∈olds,∀sl0,ρ[s0]? = some sl0->¬sl0.has i:=λs o sl i ho hl hno hs hk s0 h0 sl0 h1 h2=>by
  obtain⟨o0,sl1,e1,e2,e3⟩:=hold s0 h0
  rw[h1]at e3;injection e3 with e3;subst e3
  have:=hR.inj s s0 o o0 sl sl0 i ho e1 hl e2 hs h1 hk h2;subst this;exact hno h0
 have mem:∀{a:Nat}{p:TO D.T×Slot},news[a]? = some p->p∈news:=λh=>Qaw h
 have newold:∀(a:Nat) (p:TO D.T×Slot) s o sl i,news[a]? = some p->p.2.has i->fnd ts.o s=some o->o.live->s∉olds->ρ[s]? = some sl->sl.has i->False:=λa p s o sl i hp hi ho hl hno hs hk=>by
  rcases hhas p (mem hp) i hi with h|⟨s0,h0,sl0,h1,h2⟩
  have:=hR.lt ho hl hs hk;omega;exact apart s o sl i ho hl hno hs hk s0 h0 sl0 h1 h2
 refine⟨by simp[TS.zj8,hR.nx],hR.nt,λj x hj =>?_,λs o ho =>?_,λs s' o o' sl sl' i h1 h2 l1 l2 r1 r2 k1 k2 =>?_,λs o sl i h1 l1 r1 k1 =>?_,hlv,hE,hR.e0,hR.d.more _,λi hi =>?_,λj sl hj=>lookup_append (hR.pin j sl hj),λs o sl i h1 l1 r1 k1 =>?_,λi s v h1 h2=>(hR.g i s v h1 h2).more _⟩;obtain⟨v,h1,h2⟩:=hR.tm j x hj;exact⟨v,h1,h2.more _⟩
 rcases kinds s o ho with ⟨a,p,rfl,h2,rfl⟩|⟨rfl,h1⟩|⟨h1,h2⟩
 exact⟨p.2,slotNew a p h2,hor p (mem h2)⟩;obtain⟨o0,sl,e1,e2,e3⟩:=hold s h1;exact⟨sl,lookup_append e3,by simp only[OR]⟩;obtain⟨q,e1,e2⟩:=hR.ob s o h2;exact⟨q,lookup_append e1,e2.mono _ λi hi hl=>hL i (hR.lt h2 hl e1 hi) (apart s o q i h2 hl h1 e1 hi)⟩
 rcases kinds s o h1 with ⟨a,p,rfl,a2,rfl⟩|⟨rfl,a1⟩|⟨a1,a2⟩
 rw[slotNew a p a2]at r1;injection r1 with r1;subst r1
 rcases kinds s' o' h2 with ⟨b,p',rfl,b2,rfl⟩|⟨rfl,b1⟩|⟨b1,b2⟩
 rw[slotNew b p' b2]at r2;injection r2 with r2;subst r2
 rw[hdis a b p p' i a2 b2 k1 k2];exact l2.elim;exact(newold a p s' o' sl' i a2 k1 b2 l2 b1 (slotOld _ _ _ b2 r2) k2).elim;exact l1.elim
 rcases kinds s' o' h2 with ⟨b,p',rfl,b2,rfl⟩|⟨rfl,b1⟩|⟨b1,b2⟩
 rw[slotNew b p' b2]at r2;injection r2 with r2;subst r2
 exact(newold b p' s o sl i b2 k2 a2 l1 a1 (slotOld _ _ _ a2 r1) k1).elim;exact l2.elim;exact hR.inj s s' o o' sl sl' i a2 b2 l1 l2 (slotOld _ _ _ a2 r1) (slotOld _ _ _ b2 r2) k1 k2
 rcases kinds s o h1 with ⟨a,p,rfl,a2,rfl⟩|⟨rfl,a1⟩|⟨a1,a2⟩
 rw[slotNew a p a2]at r1;injection r1 with r1;subst r1
 intro ho
 rcases hhas p (mem a2) i k1 with h|⟨s0,h0,sl0,h3,h4⟩
 have:=(hR.out i ho).1;omega;obtain⟨o0,sl1,e1,e2,e3⟩:=hold s0 h0;exact hR.mine s0 o0 sl0 i e1 e2 h3 h4 ho;exact l1.elim;exact hR.mine s o sl i a2 l1 (slotOld _ _ _ a2 r1) k1;obtain⟨h1,h2⟩:=hR.out i hi;refine⟨Qbe h1 hlen,(hL i h1 λs0 h0 sl0 h3 h4 =>?_).trans h2⟩;obtain⟨o0,sl1,e1,e2,e3⟩:=hold s0 h0;exact hR.mine s0 o0 sl0 i e1 e2 h3 h4 hi
 rcases kinds s o h1 with ⟨a,p,rfl,a2,rfl⟩|⟨rfl,a1⟩|⟨a1,a2⟩
 rw[slotNew a p a2]at r1;injection r1 with r1;subst r1
 exact hfp p (mem a2) i k1;exact l1.elim;have q1:=slotOld _ _ _ a2 r1;have hq:=hR.fpl s o sl i a2 l1 q1 k1;refine⟨hq.1,?_⟩;show ∃a,H'.L[i]? = _;rw[hL i (hR.lt a2 l1 q1 (.inr k1)) (apart s o sl i a2 l1 a1 q1 (.inr k1))];exact hq.2
end
theorem yku{T a b x}{y:b.S T}(h:zqr a b x=some y):∃e:a=b,y=e▸x:=by
 grind[zqr]
theorem ylg{T}:∀{l x z f t} {y:t.S T},HL.upd l x f t y=some z->∀j,HL.nth l z j=if j=f then some ⟨t,y⟩else HL.nth l x j
 |[],x,z,f,t,y,h=>by cases h
 |t0::l,x,z,0,t,y,h=>by
  unfold HL.upd at h
  cases h1:zqr t t0 y with
  |none=>rw[h1]at h;cases h
  |some y'=>
  rw[h1]at h;cases h;obtain⟨e1,e2⟩:=yku h1;subst e1;subst e2;intro j
  cases j with
  |zero=>rfl
  |succ j=>rfl
 |t0::l,x,z,f+1,t,y,h=>by
  unfold HL.upd at h
  cases h1:HL.upd l x.2 f t y with
  |none=>rw[h1]at h;cases h
  |some z'=>
  rw[h1]at h;cases h;intro j
  cases j with
  |zero=>rfl
  |succ j=>
   have:=ylg h1 j
   simp_all[HL.nth]
theorem ypp{T}:∀(l) (x:HL T l) (j),HL.at l x j=HL.nth l x j
 |[],_,_=>rfl
 |_::_,_,0=>rfl
 |_::l,x,j+1=>ypp l x.2 j
section
variable {P : Program} {D : Dat} {F : Fr} {ρ : List Slot} {ts : TS D.T} {σ : St} {lv : Nat} {L : List (Option kz8)}
theorem yqx{T}:∀{l x z f t} {y:t.S T},HL.upd l x f t y=some z->f<l.length
 |[],x,z,f,t,y,h=>by cases h
 |t0::l,x,z,0,t,y,h=>by simp
 |t0::l,x,z,f+1,t,y,h=>by
  unfold HL.upd at h
  cases h1:HL.upd l x.2 f t y with
  |none=>rw[h1]at h;cases h
  |some z'=>have:=yqx h1;simp;omega
theorem yfc{α:Type}{l:List α}{n a}(h:l[n]? = some a):l.set n a=l:=by
 apply List.ext_getElem?;intro i;rw[Qbd];split;rename_i e;subst e
 grind
 rfl
theorem y8g(hD:D.Ok P)(hR:TRr D F ρ ts σ){s c ty q f:Nat}{n:Int}{xs:List (D.T q)}(hs:fnd ts.o s=some (.deep ty q xs (some (n,f,c)))){o:TO D.T}(hc:fnd ts.o c=some o)(hol:o.live)(hne:c≠s){ty':Nat}{t':DTy}{ys:List (t'.S D.T)}(how:D.ow q f=some ty')
  {slc:Slot} (hslc:ρ[c]? = some slc) {fpc:List Nat}(hdo:DO D F.lv σ.H.L (.own ty') (.sl t') ys slc.v fpc) (hfpc:∀i∈fpc,slc.has i) (hnd:fpc.Nodup) {y:D.T q}{z:HL D.T (D.fl q)}(hy:ix xs n=some y) (hz:HL.upd (D.fl q) (D.get q y) f (.sl t') ys=some z) :
  ∃ρ',TRr D F ρ' ((ts.zj8 [s,c] [.deep ty q (xs.set n.toNat (D.make q z)) none]).z7y D (TV.ren D s ts.nx)) σ:=by
 obtain⟨sl,k1,k2⟩:=hR.ob s _ hs;simp only[OR]at k2;obtain⟨q1,q3⟩:=k2
 cases hk:sl.k with
 |none=>rw[hk]at q3;cases q3.2.2.2
 |some j=>
 rw[hk]at q3;obtain⟨ver,cp,fps,e1,e2,e3,e4,e5,e6,e7⟩:=q3;obtain⟨p1,p2⟩:=zdd hy;have hlt:n.toNat<xs.length:=(Qaa.1 p2).1;have hw:sl.ws[n.toNat]? = some (sl.ws[n.toNat]'(by omega)):=Qab (by omega);have hc0:fps[n.toNat]? = some (fps[n.toNat]'(by omega)):=Qab (by omega);obtain⟨vs,cs,b1,b2,b3,b4,b5⟩:=e6 n.toNat y _ _ p2 hw hc0;have hf:=yqx hz
 obtain⟨pf,hpf,_⟩:=HL.ze0 (D.fl q) (D.get q y) f hf;have hu:vs[f]? = some (vs[f]'(by omega)):=Qab (by omega);have hb:cs[f]? = some (cs[f]'(by omega)):=Qab (by omega);have hole:=b5 f pf _ _ hpf hu hb;rw[show z07 (some (n,f,c)) n.toNat f=some c by simp[z07]]at hole;obtain⟨g1,g2,g3,sl2,g4,g5⟩:=hole
 rw[hslc]at g4;injection g4 with g4;subst g4
 rw[g1]at hb;rw[g5]at hu;have hcs:(cs.set f fpc)[f]? = some fpc:=Qap (by omega);have hback:(cs.set f fpc).set f []=cs:=by rw[List.set_set];exact yfc hb
 have perm1:(cs.set f fpc).flatten.Perm (fpc++cs.flatten):=by
  have:=z8t (cs.set f fpc) f fpc fpc [] hcs (by simp);rw[hback]at this;exact this
 rw[b4]at hc0;have hfs:(fps.set n.toNat (cs.set f fpc).flatten)[n.toNat]? = some (cs.set f fpc).flatten:=Qap (by omega)
 have perm2:(fps.set n.toNat (cs.set f fpc).flatten).flatten.Perm (fpc++sl.fp):=by
  have:=z8t _ n.toNat _ fpc cs.flatten hfs perm1;rw[List.set_set,yfc hc0,<-e4]at this;exact this
 have hmem:∀i,i∈(fps.set n.toNat (cs.set f fpc).flatten).flatten->i∈fpc∨i∈sl.fp:=λi hi=>List.mem_append.1 (perm2.mem_iff.1 hi)
 have hap:∀i,slc.has i->sl.has i->False:=λi h1 h2=>hne (hR.inj c s o _ slc sl i hc hs hol trivial hslc k1 h1 h2)
 let sl':Slot:=⟨sl.v,sl.k,sl.ws,(fps.set n.toNat (cs.set f fpc).flatten).flatten⟩
 have hT:=hR.zj8 [s,c] (λs0 h0=>by
  rcases Qbf.1 h0 with rfl|h0
  exact⟨_,sl,hs,trivial,k1⟩
  rcases Qbf.1 h0 with rfl|h0
  exact⟨o,slc,hc,hol,hslc⟩
  cases h0) [((.deep ty q (xs.set n.toNat (D.make q z)) none:TO D.T),sl')] σ.H hR.lv hR.E (Qbn _) (λ_ _ _=>rfl)
  (λp hp i hi=>by
   rcases Qbf.1 hp with rfl|hp
   rcases hi with hi|hi
   exact .inr ⟨s,Qak,sl,k1,.inl hi⟩
   rcases hmem i hi with hi|hi
   exact .inr ⟨c,Qai _ Qak,slc,hslc,hfpc i hi⟩;exact .inr ⟨s,Qak,sl,k1,.inr hi⟩
   cases hp)
  (λa b p p' i ha hb' _ _=>by
   have h1:=(Qaa.1 ha).1;have h2:=(Qaa.1 hb').1
   simp at h1 h2;omega)
  (λp hp=>by
   rcases Qbf.1 hp with rfl|hp
   simp only[OR];refine⟨by simpa using q1,?_⟩;show(match sl.k with|none=>_|some j=>_);rw[hk];refine⟨ver,cp,fps.set n.toNat (cs.set f fpc).flatten,e1,e2,by simpa using e3,rfl,?_,λm x w' c' m1 m2 m3 =>?_,λ_ _ _ h=>by cases h⟩;refine perm2.nodup_iff.2 (List.nodup_append.2 ⟨hnd,e5,λa ha b hb' e =>?_⟩);subst e;exact hap a (hfpc a ha) (.inr hb');by_cases hm:n.toNat=m;subst hm
   rw[Qap hlt]at m1;injection m1 with m1;subst m1
   rw[hfs]at m3;injection m3 with m3;subst m3
   have m2':sl.ws[n.toNat]? = some w':=m2
   rw[hw]at m2';injection m2' with m2'
   refine⟨vs,cs.set f fpc,m2'.symm.trans b1,b2,by simpa using b3,rfl,λf' p' u' b' r1 r2 r3 =>?_⟩;show DO D F.lv σ.H.L (ynt (D.ow q f')) p'.1 p'.2 u' b';rw[hD.getMake,ylg hz]at r1;by_cases hff:f'=f;subst hff
   rw[Qbo rfl]at r1;injection r1 with r1;subst r1
   rw[hu]at r2;injection r2 with r2;subst r2
   rw[hcs]at r3;injection r3 with r3;subst r3
   rw[how];exact hdo;rw[Qbp hff]at r1;rw[Qam (λe=>hff e.symm)]at r3;have:=b5 f' p' u' b' r1 r2 r3;rw[show z07 (some (n,f,c)) n.toNat f'=none by simp[z07];exact λe=>hff e.symm]at this;exact this;rw[Qam hm]at m1;rw[Qam hm]at m3;obtain⟨vs',cs',d1,d2,d3,d4,d5⟩:=e6 m x w' c' m1 m2 m3;refine⟨vs',cs',d1,d2,d3,d4,λf' p' u' b' r1 r2 r3 =>?_⟩
   have:=d5 f' p' u' b' r1 r2 r3;rw[show z07 (some (n,f,c)) m f'=none by simp[z07];exact λe=>(hm e).elim]at this;exact this
   cases hp)
  (λp hp i hi=>by
   rcases Qbf.1 hp with rfl|hp
   rcases hmem i hi with hi|hi
   refine⟨λe=>hap i (hfpc i hi) (.inl e),?_⟩;exact hR.at hc hol hslc (hfpc i hi);exact hR.fpl s _ sl i hs trivial k1 hi
   cases hp)
 refine⟨_,hT.z7y (TV.ren D s ts.nx) λx v h=>VR.ren (sl:=sl) (sl':=sl') (lookup_append k1) ?_ rfl h⟩;rw[<-hR.nx];simp
theorem TRr.ymu(hR:TRr D F ρ ts σ){s o sl}(hs:fnd ts.o s=some o)(hl:o.live)(h:ρ[s]? = some sl)(hn:sl.fp.Nodup):sl.all.Nodup:=by
 unfold Slot.all
 cases hk:sl.k with
 |none=>simpa using hn
 |some j=>
  refine List.nodup_cons.2 ⟨λhm =>?_,hn⟩;exact(hR.fpl s o sl j hs hl h hm).1 hk
theorem zxp{R}(hD:D.Ok P)(hR:TRr D F ρ ts σ){s k}{r:R}(h:ts.fold D s k=some r):∃ts' ρ',TRr D F ρ' ts' σ∧k ts'=some r∧ts'.t=ts.t.map (λp=>(p.1,TV.ren D s ts.nx p.2))∧ts'.nt=ts.nt:=by
 unfold TS.fold at h;split at h;rename_i ty q xs n f c hs;split at h;rename_i ty' how;split at h;rename_i ty2 q' ys hc;split at h;rename_i hcc;obtain⟨rfl,hne⟩:=hcc;obtain⟨y,hy,h⟩:=yzv h;split at h;rename_i z hz;obtain⟨slc,c1,c2⟩:=hR.ob c _ hc
 have hn:slc.fp.Nodup:=by
  grind[OR]
 obtain⟨ρ',w⟩:=y8g hD hR hs hc trivial hne how c1 (yd9 c2) (λi hi=>Slot.zn9.1 hi) (hR.ymu hc trivial c1 hn) hy hz;exact⟨_,ρ',w,h,rfl,rfl⟩;cases h;cases h;rename_i ty2 t' ys hc;split at h;rename_i hcc;obtain⟨rfl,hne,hpl⟩:=hcc;obtain⟨y,hy,h⟩:=yzv h;split at h;rename_i z hz;obtain⟨slc,c1,c2⟩:=hR.ob c _ hc
 obtain⟨ρ',w⟩:=y8g hD hR hs hc trivial hne how c1 (ytl c2 hpl) (λi hi=>.inl (by grind)) (by cases slc.k <;> simp) hy hz;exact⟨_,ρ',w,h,rfl,rfl⟩;cases h;cases h;cases h;cases h;cases h
end
section
variable {P : Program} {D : Dat} {F : Fr} {ρ : List Slot} {ts : TS D.T} {σ : St} {lv : Nat} {L : List (Option kz8)}
theorem yfh{t x w c}(h:DO D lv L .el t x w c)(ht:D.zg8 t=true):DR D t x w:=by
 cases h with
 |elf _ h=>exact h
 |el hl hc h=>
  rename_i i y vs cs;refine .st _ _ _ hl λf p u h1 h2 =>?_
  have hf:=(HL.zb1 _ _ _ _ h1).1;obtain⟨b,hb⟩:∃b,cs[f]? = some b:=⟨_,Qab (show f<cs.length by omega)⟩;have:=h f p u b h1 h2 hb;rw[zp1 ht i f hf rfl]at this
  cases this with
  |dat h=>exact h
theorem yis{q}{x:D.T q}{w c}(h:DO D lv L .el (.st q) x w c)(ht:D.owns q=true)(ρ)(n):EO D ρ lv L q none n x w c:=by
 cases h with
 |elf h1 h=>
  simp[Dat.owns,List.mem_range]at ht
  grind
 |el hl hc h=>exact⟨_,_,rfl,hl,hc,rfl,λf p u b h1 h2 h3=>h f p u b h1 h2 h3⟩
theorem yrs{ty}{t:DTy}{xs:List (t.S D.T)}{v fp}(h:DO D lv L (.own ty) (.sl t) xs v fp)(h1:D.zg8 t=true)(hu:t ≠ .int .u8):∃sl:Slot,sl.v=v∧v.leaf=true∧sl.all=fp∧∀ρ,OR D ρ lv L sl (.acc ty t xs true):=by
 cases h with
 |nil h hv=>
  refine⟨⟨v,none,[],[]⟩,rfl,by rcases hv with rfl|rfl <;> rfl,rfl,λρ =>?_⟩;unfold OR
  rcases hv with rfl|rfl
  grind
  grind
 |own hL hl hf he=>
  rename_i j ver cp ws fps;refine⟨⟨.hs lv j ver 0 ws.length false,some j,ws,fps.flatten⟩,rfl,rfl,rfl,λρ =>?_⟩;refine⟨hl,λn x w h2 h3 =>?_,ver,cp,rfl,hL⟩;have hn:n<fps.length:=by grind
  exact yfh (he n x w _ h2 h3 (Qab hn)) h1
theorem ysu{ty q}{xs:List (D.T q)}{v fp}(h:DO D lv L (.own ty) (.sl (.st q)) xs v fp)(h1:D.owns q=true)(hn:fp.Nodup):∃sl:Slot,sl.v=v∧v.leaf=true∧sl.all=fp∧∀ρ,OR D ρ lv L sl (.deep ty q xs none):=by
 cases h with
 |nil h hv=>
  refine⟨⟨v,none,[],[]⟩,rfl,by rcases hv with rfl|rfl <;> rfl,rfl,λρ =>?_⟩
  exact⟨rfl,rfl,hv,rfl,rfl⟩
 |own hL hl hf he=>
  rename_i j ver cp ws fps;refine⟨⟨.hs lv j ver 0 ws.length false,some j,ws,fps.flatten⟩,rfl,rfl,rfl,λρ =>?_⟩;exact⟨hl,ver,cp,fps,rfl,hL,hf,rfl,(List.nodup_cons.1 hn).2,λn x w c h2 h3 h4=>yis (he n x w c h2 h3 h4) h1 ρ n,λ_ _ _ h=>by cases h⟩
theorem y2b(hD:D.Ok P)(hR:TRr D F ρ ts σ){s ty q f:Nat}{n:Int}{xs:List (D.T q)}(hs:fnd ts.o s=some (.deep ty q xs none)){ty':Nat}{t':DTy}{ys:List (t'.S D.T)}(how:D.ow q f=some ty')
  {y:D.T q} (hy:ix xs n=some y) (hz:HL.nth (D.fl q) (D.get q y) f=some ⟨.sl t',ys⟩) {to:TO D.T}(hto:∀v fp,DO D F.lv σ.H.L (.own ty') (.sl t') ys v fp->fp.Nodup->∃slc:Slot,slc.v=v∧v.leaf=true∧slc.all=fp∧∀ρ,OR D ρ F.lv σ.H.L slc to) :
  ∃ρ',TRr D F ρ' ((ts.zj8 [s] [.deep ty q xs (some (n,f,ts.nx+1)),to]).z7y D (TV.ren D s ts.nx)) σ∧∃j ver m w u,σ.H.L[j]? = some (some (.arr ver ty (D.len (.st q)) m w))∧(∃sl,ρ[s]? = some sl∧sl.v = .hs F.lv j ver 0 m.length false)∧(m[n.toNat]?.bind λx=>x.cells[f]?)=some u∧VR D ρ' F.lv (.own (ts.nx+1)) u:=by
 obtain⟨sl,k1,k2⟩:=hR.ob s _ hs;simp only[OR]at k2;obtain⟨q1,q3⟩:=k2;obtain⟨p1,p2⟩:=zdd hy;have hlt:n.toNat<xs.length:=(Qaa.1 p2).1
 cases hk:sl.k with
 |none=>rw[hk]at q3;rw[q3.1]at hlt;simp at hlt
 |some j=>
 rw[hk]at q3;obtain⟨ver,cp,fps,e1,e2,e3,e4,e5,e6,e7⟩:=q3;have hw:sl.ws[n.toNat]? = some (sl.ws[n.toNat]'(by omega)):=Qab (by omega);have hc0:fps[n.toNat]? = some (fps[n.toNat]'(by omega)):=Qab (by omega);obtain⟨vs,cs,b1,b2,b3,b4,b5⟩:=e6 n.toNat y _ _ p2 hw hc0;have hf:=(HL.zb1 _ _ _ _ hz).1
 have hu:vs[f]? = some (vs[f]'(by omega)):=Qab (by omega);have hb:cs[f]? = some (cs[f]'(by omega)):=Qab (by omega);have hdo:DO D F.lv σ.H.L (ynt (D.ow q f)) (.sl t') ys _ _:=b5 f ⟨.sl t',ys⟩ _ _ hz hu hb;rw[how]at hdo;rw[b4]at hc0
 have perm0:sl.fp.Perm ((cs[f]'(by omega))++(fps.set n.toNat (cs.set f []).flatten).flatten):=by rw[e4];exact z8t fps n.toNat _ _ _ hc0 (z8t cs f _ _ [] hb (by simp))
 obtain⟨slc,c1,c2,c3,c4⟩:=hto _ _ hdo (List.nodup_append.1 (perm0.nodup_iff.1 e5)).1;have perm2:sl.fp.Perm (slc.all++(fps.set n.toNat (cs.set f []).flatten).flatten):=by rw[c3];exact perm0
 have hnd:=perm2.nodup_iff.1 e5;obtain⟨hn1,hn2,hn3⟩:=List.nodup_append.1 hnd;have hin:∀i,slc.has i->i∈sl.fp:=λi h=>perm2.mem_iff.2 (List.mem_append_left _ (Slot.zn9.2 h))
 have hin2:∀i,i∈(fps.set n.toNat (cs.set f []).flatten).flatten->i∈sl.fp:=λi h=>perm2.mem_iff.2 (List.mem_append_right _ h)
 let sl':Slot:=⟨sl.v,sl.k,sl.ws,(fps.set n.toNat (cs.set f []).flatten).flatten⟩
 have hkn:∀i,i∈sl.fp->sl.k≠some i:=λi h=>(hR.fpl s _ sl i hs trivial k1 h).1
 have hget1:(ρ++[sl',slc])[ts.nx]? = some sl':=by rw[<-hR.nx];simp
 have hget2:(ρ++[sl',slc])[ts.nx+1]? = some slc:=by rw[<-hR.nx,Qau (by omega)];simp
 have hT:=hR.zj8 [s] (λs0 h0=>by
  rcases Qbf.1 h0 with rfl|h0
  exact⟨_,sl,hs,trivial,k1⟩
  cases h0) [((.deep ty q xs (some (n,f,ts.nx+1)):TO D.T),sl'),(to,slc)] σ.H hR.lv hR.E (Qbn _) (λ_ _ _=>rfl)
  (λp hp i hi=>by
   refine .inr ⟨s,Qak,sl,k1,?_⟩
   rcases Qbf.1 hp with rfl|hp
   rcases hi with hi|hi
   exact .inl hi;exact .inr (hin2 i hi)
   rcases Qbf.1 hp with rfl|hp
   exact .inr (hin i hi)
   cases hp)
  (λa b p p' i ha hb' h1 h2=>by
   have apart:sl'.has i->slc.has i->False:=λh1 h2=>by
    rcases h1 with h1|h1
    exact hkn i (hin i h2) h1;exact hn3 i (Slot.zn9.2 h2) i h1 rfl
   have l1:=(Qaa.1 ha).1;have l2:=(Qaa.1 hb').1;simp at l1 l2
   match a,b,ha,hb',l1,l2 with
   |0,0,_,_,_,_=>rfl
   |1,1,_,_,_,_=>rfl
   |0,1,ha,hb',_,_=>simp at ha hb';subst ha;subst hb';exact(apart h1 h2).elim
   |1,0,ha,hb',_,_=>simp at ha hb';subst ha;subst hb';exact(apart h2 h1).elim
   |a+2,_,_,_,l1,_=>omega
   |0,b+2,_,_,_,l2=>omega
   |1,b+2,_,_,_,l2=>omega)
  (λp hp=>by
   rcases Qbf.1 hp with rfl|hp
   simp only[OR];refine⟨q1,?_⟩;show(match sl.k with|none=>_|some j=>_);rw[hk];refine⟨ver,cp,fps.set n.toNat (cs.set f []).flatten,e1,e2,by simpa using e3,rfl,hn2,λm x w' c' m1 m2 m3 =>?_,λn' f' s' e =>?_⟩;by_cases hm:n.toNat=m;subst hm
   rw[p2]at m1;injection m1 with m1;subst m1
   rw[Qap (by omega)]at m3;injection m3 with m3;subst m3
   have m2':sl.ws[n.toNat]? = some w':=m2
   rw[hw]at m2';injection m2' with m2'
   refine⟨vs,cs.set f [],m2'.symm.trans b1,b2,by simpa using b3,rfl,λf' p' u' b' r1 r2 r3 =>?_⟩;by_cases hff:f'=f;subst hff;rw[show z07 (some (n,f',ts.nx+1)) n.toNat f'=some (ts.nx+1) by simp[z07]]
   rw[Qap (by omega)]at r3;injection r3 with r3;subst r3
   rw[hu]at r2;injection r2 with r2;subst r2
   exact⟨rfl,by rw[how];rfl,c2,slc,hget2,c1.symm⟩;rw[show z07 (some (n,f,ts.nx+1)) n.toNat f'=none by simp[z07];exact λe=>hff e.symm];rw[Qam (λe=>hff e.symm)]at r3;exact b5 f' p' u' b' r1 r2 r3;rw[Qam hm]at m3;obtain⟨vs',cs',d1,d2,d3,d4,d5⟩:=e6 m x w' c' m1 m2 m3;refine⟨vs',cs',d1,d2,d3,d4,λf' p' u' b' r1 r2 r3 =>?_⟩
   rw[show z07 (some (n,f,ts.nx+1)) m f'=none by simp[z07];exact λe=>(hm e).elim];exact d5 f' p' u' b' r1 r2 r3;simp only[Qbl,Prod.mk.injEq]at e;obtain⟨rfl,rfl,rfl⟩:=e;exact⟨p1,hlt⟩
   rcases Qbf.1 hp with rfl|hp
   exact c4 _
   cases hp)
  (λp hp i hi=>by
   rcases Qbf.1 hp with rfl|hp
   exact hR.fpl s _ sl i hs trivial k1 (hin2 i hi)
   rcases Qbf.1 hp with rfl|hp
   refine⟨λe =>?_,(hR.fpl s _ sl i hs trivial k1 (hin i (.inr hi))).2⟩;have:slc.all=i::slc.fp:=by unfold Slot.all;rw[e];rfl
   rw[this]at hn1;exact(List.nodup_cons.1 hn1).1 hi
   cases hp)
 refine⟨_,hT.z7y (TV.ren D s ts.nx) λx v h=>VR.ren (sl:=sl) (sl':=sl') (lookup_append k1) hget1 rfl h,j,ver,sl.ws,cp,vs[f]'(by omega),e2,⟨sl,k1,e1⟩,?_,?_⟩;rw[hw];show(sl.ws[n.toNat]'(by omega)).cells[f]? = _;rw[b1];exact hu;simp only[VR];exact⟨slc,hget2,c1.symm,c2⟩
theorem y7n{R}(hD:D.Ok P)(hR:TRr D F ρ ts σ){s f n k}{r:R}(h:ts.opn D s n f k=some r) :
  ∃ts' ρ' ty q j ver cp m u,k (.own (ts.nx+1)) ts'=some r∧TRr D F ρ' ts' σ∧σ.H.L[j]? = some (some (.arr ver ty (D.len (.st q)) m cp))∧(∃sl,ρ[s]? = some sl∧sl.v = .hs F.lv j ver 0 m.length false)∧(m[n.toNat]?.bind λx=>x.cells[f]?)=some u∧VR D ρ' F.lv (.own (ts.nx+1)) u:=by
 unfold TS.opn at h;split at h;rename_i ty q xs hs;split at h;rename_i ty' how;obtain⟨y,hy,h⟩:=yzv h;rw[ypp]at h;split at h;rename_i q' ys hz;split at h;rename_i ho;obtain⟨ρ',w1,j,ver,m,w,u,w2,w3,w4,w5⟩:=y2b hD hR hs how hy hz λv fp hd hn=>ysu hd ho hn
 grind
 rename_i ho;obtain⟨ρ',w1,j,ver,m,w,u,w2,w3,w4,w5⟩:=y2b hD hR hs how hy hz λv fp hd hn=>yrs hd (by simp[Dat.zg8,ho]) (by intro e;cases e)
 grind
 rename_i t' ys _ hz;split at h;rename_i hc;simp[decide_eq_false_iff_not]at hc;obtain⟨ρ',w1,j,ver,m,w,u,w2,w3,w4,w5⟩:=y2b hD hR hs how hy hz λv fp hd hn=>yrs hd hc.1 hc.2
 grind
 cases h;cases h;cases h;cases h
end
theorem yoy{T a b x}{y:b.S T}(h:zqr a b x=some y):∃e:a=b,y=e▸x:=by
 grind[zqr]
theorem HL.zgn{T}:∀{a b} (x) (y:HL T b),HL.fst a (HL.app x y)=x
 |[],_,_,_=>rfl
 |_::_,_,x,y=>by simp[HL.app,HL.fst];rw[HL.zgn];rfl
theorem HL.zgg{T}:∀{a b} (x) (y:HL T b),HL.snd a (HL.app x y)=y
 |[],_,_,_=>rfl
 |_::_,_,x,y=>by simp[HL.app,HL.snd];rw[HL.zgg]
section
variable (D : Dat) (n : Nat) (M : z45 D.T) (c : TV D.T)
theorem you:zw2 D n .any c M = .ok (M,()):=rfl
theorem yta(t):zw2 D n (.d t) c M=(match asD D t c with
 |.ok x=>.ok (M,(x,()))
 |.frz s=>.frz s
 |.bad=>.bad):=rfl
theorem ysm(f)(a b)(f')(a' b'):zw2 D n (.fn f a b) (.fn f' a' b') M=if f=f' then (match znk D n a a' M with
 |.ok (M,x)=>match znk D n b b' M with
  |.ok (M,y)=>.ok (M,HL.app x y)
  |.frz s=>.frz s
  |.bad=>.bad
 |.frz s=>.frz s
 |.bad=>.bad)else .bad:=rfl
theorem ynr(cs)(sh)(l):znk D n (sh::l) (c::cs) M=(match zw2 D n sh c M with
 |.ok (M,x)=>match znk D n l cs M with
  |.ok (M,y)=>.ok (M,HL.app x y)
  |.frz s=>.frz s
  |.bad=>.bad
 |.frz s=>.frz s
 |.bad=>.bad):=rfl
variable (m : Nat → Nat)
theorem ys8(f)(a b)(x)(y):zeo D m (.fn f a b) (HL.app x y) = .fn f (z01 D m a x) (z01 D m b y):=by
 show TV.fn f (z01 D m a (HL.fst _ (HL.app x y))) (z01 D m b (HL.snd _ (HL.app x y)))=_;rw[HL.zgn,HL.zgg]
theorem ymm(sh)(l)(x)(y):z01 D m (sh::l) (HL.app x y)=zeo D m sh x::z01 D m l y:=by
 grind[z01,HL.zgn,HL.zgg]
end
theorem z3m{α}:∀{l j} {a:α},fnd l j=some a->(j,a)∈l
 |[],j,a,h=>by simp[fnd]at h
 |(i,b)::r,j,a,h=>by
  rw[kz5]at h;split at h
  grind
  exact Qai _ (z3m h)
section
variable {P : Program} {D : Dat} {F : Fr} {ρ : List Slot} {ts : TS D.T} {σ : St} {lv : Nat} {T : Nat → Type}
def zgf:Slot:=⟨.nils,none,[],[]⟩
def Src.is(ρ:List Slot)(sl:Slot):Src T->Prop
 |.slot s=>ρ[s]? = some sl
 |.nil=>sl=zgf
def Agr(ρ:List Slot)(M:z45 T)(ρ':List Slot):Prop:=∀(k) (src),fnd M k=some src->∃sl,ρ'[k]? = some sl∧src.is ρ sl
structure MOk(n:Nat)(M:z45 T):Prop where
 lt:∀k src,fnd M k=some src->k<n
 inj:∀k k' s,fnd M k=some (.slot s)->fnd M k'=some (.slot s)->k=k'
 one:∀k src,(k,src)∈M->fnd M k=some src
def y60(M M':z45 T):Prop:=∀k src,fnd M k=some src->fnd M' k=some src
theorem y60.agr{M M':z45 T}(h:y60 M M'){ρ'}(k:Agr ρ M' ρ'):Agr ρ M ρ':=λj src hj=>k j src (h j src hj)
theorem z62{n k s}{M M':z45 T}(h:zay n k s M=some M'):y60 M M'∧fnd M' k=some (.slot s)∧(MOk n M->MOk n M'):=by
 unfold zay at h;split at h;rename_i s' hk;split at h
 rename_i e;injection h with h;subst h;subst e;exact⟨λ_ _ h=>h,hk,λh=>h⟩
 cases h;cases h;split at h;rename_i hc;cases h
 refine⟨λj src hj =>?_,by rw[kz5,Qbo rfl],λhM=>⟨λj src hj =>?_,λj j' q hj hj' =>?_,λj src hm=>by
  rw[kz5]
  rcases Qbf.1 hm with hm|hm
  injection hm with h1 h2;grind;have:=hM.one j src hm;split
  grind
  exact this⟩⟩
 grind[kz5]
 rw[kz5]at hj;split at hj;omega;exact hM.lt j src hj
 have hno:∀j',fnd M j'≠some (.slot s):=λj' hj'=>by
  have:=Qas.1 hc.2 _ (z3m hj');simp[Src.yqv]at this
 rw[kz5]at hj hj';split at hj <;> split at hj'
 omega
 grind
 grind
 exact hM.inj j j' q hj hj';cases h
theorem zvc{n k}{M M':z45 T}(h:yee n k M=some M'):y60 M M'∧fnd M' k=some .nil∧(MOk n M->MOk n M'):=by
 unfold yee at h;split at h;rename_i hk;cases h;exact⟨λ_ _ h=>h,hk,λh=>h⟩;cases h;split at h;rename_i hc;cases h
 refine⟨λj src hj =>?_,by rw[kz5,Qbo rfl],λhM=>⟨λj src hj =>?_,λj j' q hj hj' =>?_,λj src hm=>by
  rw[kz5]
  rcases Qbf.1 hm with hm|hm
  injection hm with h1 h2;grind;have:=hM.one j src hm;split
  grind
  exact this⟩⟩
 grind[kz5]
 rw[kz5]at hj;split at hj;omega;exact hM.lt j src hj;rw[kz5]at hj hj';split at hj
 grind
 split at hj'
 grind
 exact hM.inj j j' q hj hj';cases h
theorem FR.inj{α}{a b:α}(h:FR.ok a=FR.ok b):a=b:=by cases h;rfl
theorem FR.pair{α β}{a c:α}{b d:β}(h:FR.ok (a,b)=FR.ok (c,d)):a=c∧b=d:=⟨congrArg Prod.fst (FR.inj h),congrArg Prod.snd (FR.inj h)⟩
theorem zpq{o}{M:z45 T}{u}(h:frU o = .ok (M,u)):o=some M:=by
 unfold frU at h;split at h
 grind
 cases h
def zpe(D:Dat)(ρ:List Slot)(lv n:Nat)(M M':z45 D.T)(x:TV D.T)(v:V):Prop:=y60 M M'∧(MOk n M->MOk n M')∧∀ρ',Agr ρ M' ρ'->VR D ρ' lv x v
def FitL(D:Dat)(ρ:List Slot)(lv n:Nat)(M M':z45 D.T)(xs:List (TV D.T))(vs:List V):Prop:=y60 M M'∧(MOk n M->MOk n M')∧∀ρ',Agr ρ M' ρ'->VRL D ρ' lv xs vs
theorem EO.ytn{ρ' L q n x w c}(h:EO D ρ lv L q none n x w c):EO D ρ' lv L q none n x w c:=h
theorem EO.zzt{ρ' L q n f s s' i x w c sl}(h:EO D ρ lv L q (some (i,f,s)) n x w c)(h1:ρ[s]? = some sl)(h2:ρ'[s']? = some sl):EO D ρ' lv L q (some (i,f,s')) n x w c:=by
 obtain⟨vs,cs,a1,a2,a3,a4,a5⟩:=h;refine⟨vs,cs,a1,a2,a3,a4,λf' p u b e1 e2 e3 =>?_⟩;have:=a5 f' p u b e1 e2 e3;by_cases hc:i.toNat=n∧f=f';simp[z07,Qbo hc]at this ⊢
 grind
 simp_all[z07,Qbp]
variable (hD : D.Ok P)
include hD
mutual
theorem zfe{n:Nat}:∀(sh:Sh) {c:TV D.T}{v:V}{M M':z45 D.T}{x:HL D.T sh.tys},zw2 D n sh c M = .ok (M',x)->VR D ρ lv c v->zpe D ρ lv n M M' (zeo D (λk=>k) sh x) v
 |.any,c,v,M,M',x,h,hv=>by
  rw[you]at h;cases h
  exact⟨λ_ _ h=>h,λh=>h,λρ' _=>(by simp only[VR]:VR D ρ' lv .any v)⟩
 |.d t,c,v,M,M',x,h,hv=>by
  rw[yta]at h;split at h;rename_i y hy;cases h;exact⟨λ_ _ h=>h,λh=>h,λρ' _=>(VR.tv hD (zd4 hD hy hv):VR D ρ' lv (D.tv t y) v)⟩;cases h
  cases h
 |.own k,c,v,M,M',x,h,hv=>by
  show zpe D ρ lv n M M' (.own k) v
  cases c <;> first|(cases h;done)|skip
  case own s=>
   obtain⟨h1,h2,h3⟩:=z62 (zpq h);refine⟨h1,h3,λρ' ha =>?_⟩;obtain⟨sl,e1,e2⟩:=ha k _ h2;simp only[Src.is]at e2;simp only[VR]at hv;obtain⟨sl',e3,e4,e5⟩:=hv
   rw[e2]at e3;injection e3 with e3;subst e3
   simp only[VR];exact⟨sl,e1,e4,e5⟩
  case nils=>
   obtain⟨h1,h2,h3⟩:=zvc (zpq h);refine⟨h1,h3,λρ' ha =>?_⟩;obtain⟨sl,e1,e2⟩:=ha k _ h2;simp only[Src.is]at e2;subst e2;simp only[VR]at hv;subst hv;simp only[VR]
   exact⟨zgf,e1,rfl,rfl⟩
 |.ptr k off,c,v,M,M',x,h,hv=>by
  show zpe D ρ lv n M M' (.ptr k off) v
  cases c <;> first|(cases h;done)|skip
  case ptr s off'=>
   replace h:(if off=off' then frU (zay n k s M)else .bad) = .ok (M',()):=h;by_cases e:off=off';rw[Qbo e]at h;subst e;obtain⟨h1,h2,h3⟩:=z62 (zpq h);refine⟨h1,h3,λρ' ha =>?_⟩;obtain⟨sl,e1,e2⟩:=ha k _ h2;simp only[Src.is]at e2;simp only[VR]at hv;obtain⟨sl',i,e3,e4,e5⟩:=hv
   rw[e2]at e3;injection e3 with e3;subst e3
   simp only[VR];exact⟨sl,i,e1,e4,e5⟩
   rw[Qbp e]at h;cases h
 |.map k,c,v,M,M',x,h,hv=>by
  show zpe D ρ lv n M M' (.map k) v
  cases c <;> first|(cases h;done)|skip
  case map s=>
   obtain⟨h1,h2,h3⟩:=z62 (zpq h);refine⟨h1,h3,λρ' ha =>?_⟩;obtain⟨sl,e1,e2⟩:=ha k _ h2;simp only[Src.is]at e2;simp only[VR]at hv;obtain⟨sl',i,e3,e4,e5⟩:=hv
   rw[e2]at e3;injection e3 with e3;subst e3
   simp only[VR]
   exact⟨sl,i,e1,e4,e5⟩
 |.mc t,c,v,M,M',x,h,hv=>by
  cases c <;> first|(cases h;done)|skip
  case mc t' es=>
   replace h:(match zlc t' t es with|some es=>FR.ok (M,(List.map Prod.fst es,(List.map Prod.snd es,())))|none=>.bad) = .ok (M',x):=h
   cases hys:zlc t' t es with
   |none=>rw[hys]at h;cases h
   |some ys=>
    rw[hys]at h;obtain⟨e1,e2⟩:=zq6 hys;subst e1;replace e2:ys=es:=e2;subst e2;cases h;refine⟨λ_ _ h=>h,λh=>h,λρ' ha =>?_⟩;show VR D ρ' lv (.mc t' (List.zip (List.map Prod.fst ys) (List.map Prod.snd ys))) v;rw[show List.zip (List.map Prod.fst ys) (List.map Prod.snd ys)=ys from y1b ys];unfold VR at hv ⊢
    exact hv
 |.bp k,c,v,M,M',x,h,hv=>by
  show zpe D ρ lv n M M' (.bp k 0) v
  cases c <;> first|(cases h;done)|skip
  case bp s off=>
   cases off with
   |succ off=>cases h
   |zero=>
   obtain⟨h1,h2,h3⟩:=z62 (zpq h);refine⟨h1,h3,λρ' ha =>?_⟩;obtain⟨sl,e1,e2⟩:=ha k _ h2;simp only[Src.is]at e2;simp only[VR]at hv;obtain⟨sl',i,e3,e4,e5⟩:=hv
   rw[e2]at e3;injection e3 with e3;subst e3
   simp only[VR]
   exact⟨sl,i,e1,e4,e5⟩
 |.nilp,c,v,M,M',x,h,hv=>by
  show zpe D ρ lv n M M' .nilp v
  cases c <;> first|(cases h;done)|skip
  cases h;exact⟨λ_ _ h=>h,λh=>h,λρ' _=>by simpa only[VR]using hv⟩
 |.nilf,c,v,M,M',x,h,hv=>by
  show zpe D ρ lv n M M' .nilf v
  cases c <;> first|(cases h;done)|skip
  cases h;exact⟨λ_ _ h=>h,λh=>h,λρ' _=>by simpa only[VR]using hv⟩
 |.nili,c,v,M,M',x,h,hv=>by
  show zpe D ρ lv n M M' .nili v
  cases c <;> first|(cases h;done)|skip
  cases h;exact⟨λ_ _ h=>h,λh=>h,λρ' _=>by simpa only[VR]using hv⟩
 |.nils,c,v,M,M',x,h,hv=>by
  show zpe D ρ lv n M M' .nils v
  cases c <;> first|(cases h;done)|skip
  cases h;exact⟨λ_ _ h=>h,λh=>h,λρ' _=>by simpa only[VR]using hv⟩
 |.fn f a b,c,v,M,M',x,h,hv=>by
  cases c <;> first|(cases h;done)|skip
  case fn f' a' b'=>
   rw[ysm]at h;by_cases e:f=f';rw[Qbo e]at h;subst e;split at h;rename_i M1 y hy;split at h;rename_i M2 z hz;cases h;simp only[VR]at hv;obtain⟨as,bs,rfl,k1,k2⟩:=hv;obtain⟨a1,a2,a3⟩:=z8z a hy k1;obtain⟨b1,b2,b3⟩:=z8z b hz k2;refine⟨λj src hj=>b1 j src (a1 j src hj),λh=>b2 (a2 h),λρ' ha =>?_⟩;rw[ys8];simp only[VR];exact⟨as,bs,rfl,a3 ρ' (b1.agr ha),b3 ρ' ha⟩;cases h;cases h;cases h;cases h
   rw[Qbp e]at h;cases h
 |.iface t s,c,v,M,M',x,h,hv=>by
  show zpe D ρ lv n M M' (.iface t (zeo D (λk=>k) s x)) v
  cases c <;> first|(cases h;done)|skip
  case iface t' y'=>
   replace h:(if t=t' then zw2 D n s y' M else .bad) = .ok (M',x):=h;by_cases e:t=t';rw[Qbo e]at h;subst e;simp only[VR]at hv;obtain⟨y,rfl,k1⟩:=hv;obtain⟨a1,a2,a3⟩:=zfe s h k1;exact⟨a1,a2,λρ' ha=>by simp only[VR];exact⟨y,rfl,a3 ρ' ha⟩⟩
   rw[Qbp e]at h;cases h
 |.agg cs,c,v,M,M',x,h,hv=>by
  show zpe D ρ lv n M M' (.agg (z01 D (λk=>k) cs x)) v
  cases c <;> first|(cases h;done)|skip
  case agg vs=>
   replace h:znk D n cs vs M = .ok (M',x):=h;simp only[VR]at hv;obtain⟨y,rfl,k1⟩:=hv;obtain⟨a1,a2,a3⟩:=z8z cs h k1
   exact⟨a1,a2,λρ' ha=>by simp only[VR];exact⟨y,rfl,a3 ρ' ha⟩⟩
 |.tup cs,c,v,M,M',x,h,hv=>by
  show zpe D ρ lv n M M' (.tup (z01 D (λk=>k) cs x)) v
  cases c <;> first|(cases h;done)|skip
  case tup vs=>
   replace h:znk D n cs vs M = .ok (M',x):=h;simp only[VR]at hv;obtain⟨y,rfl,k1⟩:=hv;obtain⟨a1,a2,a3⟩:=z8z cs h k1
   exact⟨a1,a2,λρ' ha=>by simp only[VR];exact⟨y,rfl,a3 ρ' ha⟩⟩
 |.ref cs off,c,v,M,M',x,h,hv=>by
  show zpe D ρ lv n M M' (.ref (z01 D (λk=>k) cs x) off) v
  cases c <;> first|(cases h;done)|skip
  case ref vs off'=>
   replace h:(if off=off' then znk D n cs vs M else .bad) = .ok (M',x):=h;by_cases e:off=off';rw[Qbo e]at h;subst e;simp only[VR]at hv;obtain⟨y,rfl,k1⟩:=hv;obtain⟨a1,a2,a3⟩:=z8z cs h k1;exact⟨a1,a2,λρ' ha=>by simp only[VR];exact⟨y,rfl,a3 ρ' ha⟩⟩
   rw[Qbp e]at h;cases h
 |.dp k off,c,v,M,M',x,h,hv=>by
  show zpe D ρ lv n M M' (.dp k x.1 off) v
  cases c <;> first|(cases h;done)|skip
  case dp s i off'=>
   replace h:(if off=off' then (match zay n k s M with|some M=>FR.ok (M,((i,()):HL D.T [.int .i64]))|none=>.bad)else .bad) = .ok (M',x):=h;by_cases e:off=off';rw[Qbo e]at h;subst e
   cases hb:zay n k s M with
   |none=>rw[hb]at h;cases h
   |some M1=>
    rw[hb]at h;cases h;obtain⟨h1,h2,h3⟩:=z62 hb;refine⟨h1,h3,λρ' ha =>?_⟩;obtain⟨sl,e1,e2⟩:=ha k _ h2;simp only[Src.is]at e2;simp only[VR]at hv;obtain⟨sl',j,ver,m,e3,e4⟩:=hv
    rw[e2]at e3;injection e3 with e3;subst e3
    show VR D ρ' lv (.dp k i off) v;simp only[VR];exact⟨sl,j,ver,m,e1,e4⟩
   rw[Qbp e]at h;cases h
 |.ap k t off,c,v,M,M',x,h,hv=>by
  show zpe D ρ lv n M M' (.ap k t x.1 x.2.1 off) v
  cases c <;> first|(cases h;done)|skip
  case ap s t' i y off'=>
   replace h:(if off=off' then (match zqr t' t y with|some y=>(match zay n k s M with|some M=>FR.ok (M,((i,(y,())):HL D.T [.int .i64,t]))|none=>.bad)|none=>.bad)else .bad) = .ok (M',x):=h;by_cases e:off=off'
   ·rw[Qbo e]at h;subst e
    cases hc:zqr t' t y with
    |none=>rw[hc]at h;cases h
    |some z=>
    rw[hc]at h;obtain⟨et,ez⟩:=yoy hc;subst et;replace ez:z=y:=ez;subst ez;replace h:(match zay n k s M with|some M=>FR.ok (M,((i,(z,())):HL D.T [.int .i64,t']))|none=>.bad) = .ok (M',x):=h
    cases hb:zay n k s M with
    |none=>rw[hb]at h;cases h
    |some M1=>
     rw[hb]at h;cases h;obtain⟨h1,h2,h3⟩:=z62 hb;refine⟨h1,h3,λρ' ha =>?_⟩;obtain⟨sl,e1,e2⟩:=ha k _ h2;simp only[Src.is]at e2;simp only[VR]at hv;obtain⟨sl',w,e3,e4⟩:=hv
     rw[e2]at e3;injection e3 with e3;subst e3
     show VR D ρ' lv (.ap k t' i z off) v;simp only[VR];exact⟨sl,w,e1,e4⟩
   rw[Qbp e]at h;cases h
theorem z8z{n:Nat}:∀(l:List Sh) {cs:List (TV D.T)}{vs:List V}{M M':z45 D.T}{x:HL D.T (Sh.z0r l)},znk D n l cs M = .ok (M',x)->VRL D ρ lv cs vs->FitL D ρ lv n M M' (z01 D (λk=>k) l x) vs
 |[],cs,vs,M,M',x,h,hv=>by
  cases cs with
  |nil=>cases h;exact⟨λ_ _ h=>h,λh=>h,λρ' _=>(by simpa only[VRL]using hv:VRL D ρ' lv [] vs)⟩
  |cons c cs=>cases h
 |sh::l,cs,vs,M,M',x,h,hv=>by
  cases cs with
  |nil=>cases h
  |cons c cs=>
   simp only[VRL]at hv;obtain⟨v,r,rfl,k1,k2⟩:=hv;rw[ynr]at h;split at h;rename_i M1 y hy;split at h;rename_i M2 z hz;cases h;obtain⟨a1,a2,a3⟩:=zfe sh hy k1;obtain⟨b1,b2,b3⟩:=z8z l hz k2;refine⟨λj src hj=>b1 j src (a1 j src hj),λh=>b2 (a2 h),λρ' ha =>?_⟩;rw[ymm];simp only[VRL];exact⟨v,r,rfl,a3 ρ' (b1.agr ha),b3 ρ' ha⟩;cases h;cases h;cases h;cases h
end
theorem ykh{n}(hR:TRr D F ρ ts σ){o src M M' x}(h:zsj D n ts o src M = .ok (M',x)) :
  y60 M M'∧(MOk n M->MOk n M')∧(∀s,src = .slot s->∃o',fnd ts.o s=some o'∧o'.live)∧∀ρ' sl,Agr ρ M' ρ'->src.is ρ sl->OR D ρ' F.lv σ.H.L sl (zko D (λk=>k) o x):=by
 cases o with
 |cells cs=>
  cases src with
  |nil=>cases h
  |slot s=>
   simp[zsj]at h
   cases ho:fnd ts.o s with
   |none=>rw[ho]at h;cases h
   |some o'=>
    rw[ho]at h
    cases o' <;> first|(cases h;done)|skip
    rename_i vs;obtain⟨sl',k1,k2⟩:=hR.ob s _ ho;simp[OR]at k2;obtain⟨i,us,q1,q2,q3⟩:=k2;obtain⟨a1,a2,a3⟩:=z8z hD cs h q3;refine⟨a1,a2,λs' e=>by cases e;exact⟨_,ho,trivial⟩,λρ' sl ha hs =>?_⟩
    grind[Src.is,zko,OR]
 |st i=>
  cases src with
  |nil=>cases h
  |slot s=>
   simp[zsj]at h
   cases ho:fnd ts.o s with
   |none=>rw[ho]at h;cases h
   |some o'=>
    rw[ho]at h
    cases o' <;> first|(cases h;done)|skip
    rename_i vs;replace h:(match z60 D (D.fl i) vs with| .ok x=>FR.ok (M,(D.make i x,()))| .frz s=>.frz s| .bad=>.bad) = .ok (M',x):=h;obtain⟨sl',k1,k2⟩:=hR.ob s _ ho;simp only[OR]at k2;obtain⟨i',us,q1,q2,q3⟩:=k2
    cases hl:z60 D (D.fl i) vs with
    |frz s=>rw[hl]at h;cases h
    |bad=>rw[hl]at h;cases h
    |ok y=>
     rw[hl]at h;cases h;refine⟨λ_ _ h=>h,λh=>h,λs' e=>by cases e;exact⟨_,ho,trivial⟩,λρ' sl ha hs =>?_⟩;simp[Src.is]at hs;rw[k1]at hs;cases hs;obtain⟨m1,m2⟩:=zfj hl q3;show OR D ρ' F.lv σ.H.L sl' (.cells (D.leaves (D.fl i) (D.get i (D.make i y))));rw[hD.getMake];simp only[OR];refine⟨i',us,q1,q2,.of (by rw[z99,m1]) λj c v hc hv =>?_⟩;rw[zbb,Qaf]at hc;obtain⟨p,hp,rfl⟩:=hc
     exact VR.leaf (m2 j p v hp hv)
 |acc ty t w=>
  cases src with
  |nil=>
   cases h;refine⟨λ_ _ h=>h,λh=>h,λs e=>(by cases e),λρ' sl ha hs =>?_⟩;simp[Src.is]at hs;subst hs;show OR D ρ' F.lv σ.H.L zgf (.acc ty t [] w);simp only[OR,zgf]
   exact⟨rfl,λj x v hx=>by simp at hx,.inl ⟨trivial,trivial⟩⟩
  |slot s=>
   simp[zsj]at h
   cases ho:fnd ts.o s with
   |none=>rw[ho]at h;cases h
   |some o'=>
    rw[ho]at h
    cases o' <;> first|(cases h;done)|skip
    rename_i ty' t' xs w';replace h:(if ty=ty'∧(w=true->w'=true)then (match z9d t' t xs with|some xs=>FR.ok (M,(xs,()))|none=>.bad)else .bad) = .ok (M',x):=h;by_cases hc:ty=ty'∧(w=true->w'=true);rw[Qbo hc]at h
    cases hys:z9d t' t xs with
    |none=>grind
    |some ys=>
     rw[hys]at h;obtain⟨e1,e2⟩:=z4c hys;subst e1;replace e2:=e2;subst e2;cases h;obtain⟨sl',k1,k2⟩:=hR.ob s _ ho;refine⟨λ_ _ h=>h,λh=>h,λs' e=>by cases e;exact⟨_,ho,trivial⟩,λρ' sl ha hs =>?_⟩;simp[Src.is]at hs;rw[k1]at hs;cases hs;obtain⟨hty,hw⟩:=hc;subst hty;simp[OR]at k2;obtain⟨q1,q2,q3⟩:=k2;show OR D ρ' F.lv σ.H.L sl' (.acc ty t' ys w)
     grind[OR]
    grind
 |rig=>
  cases src with
  |nil=>cases h
  |slot s=>
   simp[zsj]at h
   cases ho:fnd ts.o s with
   |none=>rw[ho]at h;cases h
   |some o'=>
    rw[ho]at h
    cases o' <;> first|(cases h;done)|skip
    cases h;obtain⟨sl',k1,k2⟩:=hR.ob s _ ho;refine⟨λ_ _ h=>h,λh=>h,λs' e=>by cases e;exact⟨_,ho,trivial⟩,λρ' sl ha hs =>?_⟩;simp[Src.is]at hs;rw[k1]at hs;cases hs
    exact k2
 |siter=>
  cases src with
  |nil=>cases h
  |slot s=>
   simp[zsj]at h
   cases ho:fnd ts.o s with
   |none=>rw[ho]at h;cases h
   |some o'=>
    rw[ho]at h
    cases o' <;> first|(cases h;done)|skip
    rename_i l pos;cases h;obtain⟨sl',k1,k2⟩:=hR.ob s _ ho;refine⟨λ_ _ h=>h,λh=>h,λs' e=>by cases e;exact⟨_,ho,trivial⟩,λρ' sl ha hs =>?_⟩;simp[Src.is]at hs;rw[k1]at hs;cases hs
    exact k2
 |mp ty t=>
  cases src with
  |nil=>cases h
  |slot s=>
   simp[zsj]at h
   cases ho:fnd ts.o s with
   |none=>rw[ho]at h;cases h
   |some o'=>
    rw[ho]at h
    cases o' <;> first|(cases h;done)|skip
    rename_i ty' t' es;replace h:(if ty=ty' then (match zlc t' t es with|some es=>FR.ok (M,(List.map Prod.fst es,(List.map Prod.snd es,())))|none=>.bad)else .bad) = .ok (M',x):=h;by_cases hc:ty=ty';rw[Qbo hc]at h
    cases hys:zlc t' t es with
    |none=>grind
    |some ys=>
     rw[hys]at h;obtain⟨e1,e2⟩:=zq6 hys;subst e1;replace e2:=e2;subst e2;cases h;obtain⟨sl',k1,k2⟩:=hR.ob s _ ho;refine⟨λ_ _ h=>h,λh=>h,λs' e=>by cases e;exact⟨_,ho,trivial⟩,λρ' sl ha hs =>?_⟩;simp[Src.is]at hs;rw[k1]at hs;cases hs;show OR D ρ' F.lv σ.H.L sl' (.mp ty t' (List.zip (List.map Prod.fst ys) (List.map Prod.snd ys)));rw[show List.zip (List.map Prod.fst ys) (List.map Prod.snd ys)=ys from y1b ys]
     exact k2
    grind
 |mit t=>
  cases src with
  |nil=>cases h
  |slot s=>
   simp[zsj]at h
   cases ho:fnd ts.o s with
   |none=>rw[ho]at h;cases h
   |some o'=>
    rw[ho]at h
    cases o' <;> first|(cases h;done)|skip
    rename_i t' last es;replace h:(match zlc t' t es with|some es=>FR.ok (M,(List.map Prod.fst es,(List.map Prod.snd es,())))|none=>.bad) = .ok (M',x):=h
    cases hys:zlc t' t es with
    |none=>grind
    |some ys=>
     rw[hys]at h;obtain⟨e1,e2⟩:=zq6 hys;subst e1;replace e2:=e2;subst e2;cases h;obtain⟨sl',k1,k2⟩:=hR.ob s _ ho;refine⟨λ_ _ h=>h,λh=>h,λs' e=>by cases e;exact⟨_,ho,trivial⟩,λρ' sl ha hs =>?_⟩;simp[Src.is]at hs;rw[k1]at hs;cases hs;show OR D ρ' F.lv σ.H.L sl' (.mit t' none (List.zip (List.map Prod.fst ys) (List.map Prod.snd ys)));rw[show List.zip (List.map Prod.fst ys) (List.map Prod.snd ys)=ys from y1b ys]
     grind[OR]
 |bld ty k=>
  cases src with
  |nil=>cases h
  |slot s=>
   simp[zsj]at h
   cases ho:fnd ts.o s with
   |none=>rw[ho]at h;cases h
   |some o'=>
    rw[ho]at h
    cases o' <;> first|(cases h;done)|skip
    rename_i ty' b;replace h:(if ty=ty' then (match b with|some q=>frU (zay n k q M)|none=>frU (yee n k M))else .bad) = .ok (M',x):=h;by_cases hty:ty=ty';rw[Qbo hty]at h;subst hty;obtain⟨sl',k1,k2⟩:=hR.ob s _ ho;simp only[OR]at k2;obtain⟨i,u,c,q1,q2,q3,q4⟩:=k2
    cases b with
    |some q=>
     obtain⟨h1,h2,h3⟩:=z62 (zpq h);refine⟨h1,h3,λs' e=>by cases e;exact⟨_,ho,trivial⟩,λρ' sl ha hs =>?_⟩;simp[Src.is]at hs;rw[k1]at hs;cases hs;obtain⟨sq,e1,e2⟩:=ha k _ h2;simp[Src.is]at e2;simp[y8x,VR]at q4;obtain⟨sq',e3,e4,e5⟩:=q4;rw[e2]at e3;cases e3;simp only[OR]
     exact⟨i,u,c,q1,q2,q3,by grind[y8x,VR]⟩
    |none=>
     obtain⟨h1,h2,h3⟩:=zvc (zpq h);refine⟨h1,h3,λs' e=>by cases e;exact⟨_,ho,trivial⟩,λρ' sl ha hs =>?_⟩;simp[Src.is]at hs;rw[k1]at hs;cases hs;obtain⟨sq,e1,e2⟩:=ha k _ h2;simp[Src.is]at e2;subst e2;simp[y8x,VR]at q4;subst q4;simp only[OR];exact⟨i,u,_,q1,q2,q3,by simp only[y8x,VR];exact⟨zgf,e1,rfl,rfl⟩⟩
    grind
 |deep ty q=>
  cases src with
  |nil=>
   cases h;refine⟨λ_ _ h=>h,λh=>h,λs e=>(by cases e),λρ' sl ha hs =>?_⟩;simp[Src.is]at hs;subst hs;show OR D ρ' F.lv σ.H.L zgf (.deep ty q [] none);simp only[OR,zgf]
   grind
  |slot s=>
   simp[zsj]at h
   cases ho:fnd ts.o s with
   |none=>rw[ho]at h;cases h
   |some o'=>
    rw[ho]at h
    cases o' <;> first|(cases h;done)|skip
    rename_i ty' q' xs h';replace h:(if ty=ty' then (match h' with|none=>(match z9d (.st q') (.st q) xs with|some xs=>FR.ok (M,((xs,()):HL D.T [.sl (.st q)]))|none=>.bad)|some _=>.frz s)else .bad) = .ok (M',x):=h;by_cases hc:ty=ty'
    ·rw[Qbo hc]at h;subst hc
     cases h' with
     |some p=>cases h
     |none=>
     replace h:=h
     cases hys:z9d (.st q') (.st q) xs with
     |none=>grind
     |some ys=>
      rw[hys]at h;obtain⟨e1,e2⟩:=z4c hys;injection e1 with e1;subst e1;replace e2:=e2;subst e2;cases h;obtain⟨sl',k1,k2⟩:=hR.ob s _ ho;refine⟨λ_ _ h=>h,λh=>h,λs' e=>by cases e;exact⟨_,ho,trivial⟩,λρ' sl ha hs =>?_⟩;simp[Src.is]at hs;rw[k1]at hs;cases hs;show OR D ρ' F.lv σ.H.L sl' (.deep ty q' ys none);simp only[OR]at k2 ⊢;refine⟨k2.1,?_⟩;have k3:=k2.2
      cases hk:sl'.k with
      |none=>grind
      |some j=>
       rw[hk]at k3;obtain⟨ver,cp,fps,q1,q2,q3,q4,q5,q6,q7⟩:=k3;exact⟨ver,cp,fps,q1,q2,q3,q4,q5,λn x w c a b d=>(q6 n x w c a b d).ytn,q7⟩
    grind
 |deeph ty q f k=>
  cases src with
  |nil=>cases h
  |slot s=>
   simp[zsj]at h
   cases ho:fnd ts.o s with
   |none=>rw[ho]at h;cases h
   |some o'=>
    rw[ho]at h
    cases o' <;> first|(cases h;done)|skip
    rename_i ty' q' xs h';replace h:(if ty=ty' then (match h' with|some p=>if f=p.2.1 then (match z9d (.st q') (.st q) xs with|some xs=>(match zay n k p.2.2 M with|some M=>FR.ok (M,((xs,(p.1,())):HL D.T [.sl (.st q),.int .i64]))|none=>.bad)|none=>.bad)else .bad|none=>.bad)else .bad) = .ok (M',x):=h;by_cases hc:ty=ty'
    ·rw[Qbo hc]at h;subst hc
     cases h' with
     |none=>cases h
     |some p=>
     obtain⟨i,f',c⟩:=p;replace h:(if f=f' then (match z9d (.st q') (.st q) xs with|some xs=>(match zay n k c M with|some M=>FR.ok (M,((xs,(i,())):HL D.T [.sl (.st q),.int .i64]))|none=>.bad)|none=>.bad)else .bad) = .ok (M',x):=h;by_cases hf:f=f';rw[Qbo hf]at h;subst hf
     cases hys:z9d (.st q') (.st q) xs with
     |none=>grind
     |some ys=>
      rw[hys]at h;obtain⟨e1,e2⟩:=z4c hys;injection e1 with e1;subst e1;replace e2:=e2;subst e2;replace h:=h
      cases hb:zay n k c M with
      |none=>rw[hb]at h;cases h
      |some M1=>
      rw[hb]at h;cases h;obtain⟨h1,h2,h3⟩:=z62 hb;obtain⟨sl',k1,k2⟩:=hR.ob s _ ho;refine⟨h1,h3,λs' e=>by cases e;exact⟨_,ho,trivial⟩,λρ' sl ha hs =>?_⟩;simp[Src.is]at hs;rw[k1]at hs;cases hs;obtain⟨slc,d1,d2⟩:=ha k _ h2;simp[Src.is]at d2;show OR D ρ' F.lv σ.H.L sl' (.deep ty q' ys (some (i,f,k)));simp only[OR]at k2 ⊢;refine⟨k2.1,?_⟩;have k3:=k2.2
      cases hk:sl'.k with
      |none=>grind
      |some j=>
       rw[hk]at k3;obtain⟨ver,cp,fps,q1,q2,q3,q4,q5,q6,q7⟩:=k3;exact⟨ver,cp,fps,q1,q2,q3,q4,q5,λn x w cc a b d=>(q6 n x w cc a b d).zzt d2 d1,λn' f' s' e=>by injection e with e;grind⟩
     grind
    grind
omit hD in
theorem y8c{m o x}:(zko D m o x).live:=by cases o <;> trivial
omit hD in
theorem yl0(n)(o)(os)(k)(M):y0i D n ts (o::os) k M=(match fnd M k with
 |some src=>match zsj D n ts o src M with
  |.ok (M,x)=>match y0i D n ts os (k+1) M with
   |.ok (M,y)=>.ok (M,HL.app x y)
   |.frz s=>.frz s
   |.bad=>.bad
  |.frz s=>.frz s
  |.bad=>.bad
 |none=>.bad):=rfl
omit hD in
theorem yki(m)(o)(os)(k)(x)(y):z1g D m (o::os) k (HL.app x y)=(m k,zko D m o x)::z1g D m os (k+1) y:=by
 grind[z1g,HL.zgn,HL.zgg]
theorem zgt{n}(hR:TRr D F ρ ts σ):∀(os) {k M M' x},y0i D n ts os k M = .ok (M',x) ->
  y60 M M'∧(MOk n M->MOk n M')∧(∀j,j<os.length->∃src,fnd M' (k+j)=some src∧∀s,src = .slot s->∃o',fnd ts.o s=some o'∧o'.live) ∧
  (∀ρ',Agr ρ M' ρ'->∀j o,(j,o)∈z1g D (λk=>k) os k x->k<=j∧j<k+os.length∧o.live∧∃sl,ρ'[j]? = some sl∧OR D ρ' F.lv σ.H.L sl o)
 |[],k,M,M',x,h=>by
  cases h
  exact⟨λ_ _ h=>h,λh=>h,λj hj=>by simp at hj,λρ' _ j o hm=>by cases hm⟩
 |o::os,k,M,M',x,h=>by
  rw[yl0]at h;split at h;rename_i src hsrc;split at h;rename_i M1 y hy;split at h;rename_i M2 z hz;cases h;obtain⟨a1,a2,a3,a4⟩:=ykh hD hR hy;obtain⟨b1,b2,b3,b4⟩:=zgt hR os hz;refine⟨λj s hj=>b1 j s (a1 j s hj),λh=>b2 (a2 h),λj hj =>?_,λρ' ha j o' hm =>?_⟩
  cases j with
  |zero=>exact⟨src,b1 _ _ (a1 _ _ hsrc),a3⟩
  |succ j=>
   obtain⟨src',e1,e2⟩:=b3 j (by simpa using hj)
   grind
  rw[yki]at hm
  rcases Qbf.1 hm with hm|hm
  injection hm with h1 h2;subst h1;subst h2;obtain⟨sl,e1,e2⟩:=ha j src (b1 _ _ (a1 _ _ hsrc));exact⟨Qbn _,by simp,y8c,sl,e1,a4 ρ' sl (b1.agr ha) e2⟩
  grind
  cases h;cases h;cases h;cases h;cases h
omit hD in
theorem yir(n)(p)(l)(M):ygq D n ts (p::l) M=(match fnd ts.t p.1 with
 |some v=>match zw2 D n p.2 v M with
  |.ok (M,x)=>match ygq D n ts l M with
   |.ok (M,y)=>.ok (M,HL.app x y)
   |.frz s=>.frz s
   |.bad=>.bad
  |.frz s=>.frz s
  |.bad=>.bad
 |none=>.bad):=rfl
omit hD in
theorem ym7(m)(p)(l)(x)(y):yhb D m (p::l) (HL.app x y)=(p.1,zeo D m p.2 x)::yhb D m l y:=by
 simp_all[yhb,HL.zgn,HL.zgg]
theorem zut{n}(hR:TRr D F ρ ts σ):∀(l) {M M' x},ygq D n ts l M = .ok (M',x) ->
  y60 M M'∧(MOk n M->MOk n M')∧∀ρ',Agr ρ M' ρ'->∀j c,(j,c)∈yhb D (λk=>k) l x->∃v,σ.t[j]? = some v∧VR D ρ' F.lv c v
 |[],M,M',x,h=>by
  cases h
  exact⟨λ_ _ h=>h,λh=>h,λρ' _ j o hm=>by cases hm⟩
 |p::l,M,M',x,h=>by
  rw[yir]at h;split at h;rename_i c hc;split at h;rename_i M1 y hy;split at h;rename_i M2 z hz;cases h;obtain⟨v,k1,k2⟩:=hR.tm _ _ hc;obtain⟨a1,a2,a3⟩:=zfe hD p.2 hy k2;obtain⟨b1,b2,b3⟩:=zut hR l hz;refine⟨λj s hj=>b1 j s (a1 j s hj),λh=>b2 (a2 h),λρ' ha j c' hm =>?_⟩;rw[ym7]at hm
  rcases Qbf.1 hm with hm|hm
  cases hm;exact⟨v,k1,a3 ρ' (b1.agr ha)⟩
  grind
  cases h;cases h;cases h;cases h;cases h
omit hD in
theorem yj7(hR:TRr D F ρ ts σ){M:z45 D.T}{n}(hM:MOk n M)(hall:∀j,j<n->∃src,fnd M j=some src∧∀s,src = .slot s->∃o',fnd ts.o s=some o'∧o'.live) :
  ∃ρ':List Slot,ρ'.length=n∧Agr ρ M ρ'∧∀j sl,ρ'[j]? = some sl->∃src,fnd M j=some src∧src.is ρ sl:=by
 have step:∀m,m<=n->∃ρ':List Slot,ρ'.length=m∧∀j,j<m->∃sl src,ρ'[j]? = some sl∧fnd M j=some src∧src.is ρ sl:=λm=>by
  induction m with
  |zero=>simp_all
  |succ m ih=>
   intro hm;obtain⟨ρ',h1,h2⟩:=ih (by omega);obtain⟨src,k1,k2⟩:=hall m (by omega)
   have hsl:∃sl,src.is ρ sl:=by
    cases src with
    |nil=>exact⟨zgf,rfl⟩
    |slot s=>
     obtain⟨o',e1,_⟩:=k2 s rfl;obtain⟨sl,e2,_⟩:=hR.ob s o' e1;exact⟨sl,e2⟩
   obtain⟨sl,hsl⟩:=hsl;refine⟨ρ'++[sl],by simp[h1],λj hj =>?_⟩
   grind
 obtain⟨ρ',h1,h2⟩:=step n (Qbn _);refine⟨ρ',h1,λk src hk =>?_,λj sl hj =>?_⟩;obtain⟨sl,src',e1,e2,e3⟩:=h2 k (hM.lt k src hk)
 grind
 grind
omit hD in
theorem zdx:∀{n k} {src:Src T},fnd (pins n) k=some src->k<n∧src = .slot k
 |0,k,src,h=>by simp[pins,fnd]at h
 |n+1,k,src,h=>by
  simp[pins,kz5]at h;split at h
  grind
  obtain⟨h1,h2⟩:=zdx h;grind
omit hD in
theorem zsk:∀{n k},k<n->fnd (pins (T:=T) n) k=some (.slot k)
 |0,k,h=>by omega
 |n+1,k,h=>by
  simp[pins,kz5];split;rename_i e;rw[e];exact zsk (by omega)
omit hD in
theorem zxo:∀{n k src},(k,src)∈pins (T:=T) n->fnd (pins n) k=some src
 |0,k,src,h=>by cases h
 |n+1,k,src,h=>by
  simp[pins,kz5]
  rcases Qbf.1 h with h|h
  grind
  have:=zxo h;split;rename_i e;subst e;have:=(zdx this).1;omega;exact this
omit hD in
theorem y0x{n}:∀{gs g} {M M':z45 T},yj9 n gs g M=some M'->y60 M M'∧(MOk n M->MOk n M')∧∀(i k:Nat),gs[i]? = some k->∃s:Nat,g[i]? = some (some s)∧fnd M' k=some (.slot s)
 |[],[],M,M',h=>by
  cases h
  exact⟨λ_ _ h=>h,λh=>h,λi k hk=>by simp at hk⟩
 |[],_::_,M,M',h=>by simp[yj9]at h
 |k::ks,[],M,M',h=>by simp[yj9]at h
 |k::ks,none::ss,M,M',h=>by simp[yj9]at h
 |k::ks,some s::ss,M,M',h=>by
  simp[yj9]at h;split at h;rename_i M1 hM1;obtain⟨a1,a2,a3⟩:=z62 hM1;obtain⟨b1,b2,b3⟩:=y0x h;refine⟨λj src hj=>b1 j src (a1 j src hj),λh=>b2 (a3 h),λi k' hk =>?_⟩
  cases i with
  |zero=>simp at hk;subst hk;exact⟨s,rfl,b1 _ _ a2⟩
  |succ i=>grind
  cases h
theorem LSh.zd6(hR:TRr D F ρ ts σ){l:LSh}{x}(hp:F.pin.length<=l.pin)(hp2:l.pin<=l.os.length)(h:l.fit D ts = .ok x):∃ρ',TRr D F ρ' (l.bld D x) σ:=by
 unfold LSh.fit at h;by_cases hnt0:ts.nt=l.nt∧ts.d.isEmpty=true
 rotate_left
 grind
 rw[Qbo hnt0]at h;obtain⟨hnt,hde⟩:=hnt0;have hde:=by simpa using hde
 split at h
 ·rename_i M y hy;split at h
  case h_2=>cases h
  rename_i Mg hMg;obtain⟨c1g,c2g,c3g⟩:=y0x hMg;split at h
  ·rename_i M' z hz;cases h;obtain⟨a1',a2',a3⟩:=zut hD hR l.ts hy;have a1:=λj src hj=>c1g j src (a1' j src hj)
   have a2:=λh=>c2g (a2' h)
   obtain⟨b1,b2,b3,b4⟩:=zgt hD hR l.os hz;have hM:=b2 (a2 ⟨λk src h=>by have:=(zdx h).1;omega,λk k' s h h'=>by have e:=(zdx h).2;have e':=(zdx h').2;grind,λk src hm=>zxo hm⟩);obtain⟨ρ',c1,c2,c3⟩:=yj7 hR hM λj hj=>by simpa using b3 j hj
   have hb:l.bld D (HL.app y z)=⟨yhb D (λk=>k) l.ts y,z1g D (λk=>k) l.os 0 z,l.os.length,l.nt,[],l.gs.map some⟩:=by
    show(⟨yhb D (λk=>k) l.ts (HL.fst _ (HL.app y z)),z1g D (λk=>k) l.os 0 (HL.snd _ (HL.app y z)),l.os.length,l.nt,[],l.gs.map some⟩:TS D.T)=_;rw[HL.zgn,HL.zgg]
   rw[hb]
   have place:∀s sl i,ρ'[s]? = some sl->sl.has i->∃s0 o0,fnd M' s=some (.slot s0)∧fnd ts.o s0=some o0∧o0.live∧ρ[s0]? = some sl:=λs sl i hs hk=>by
    obtain⟨src,e1,e2⟩:=c3 s sl hs
    cases src with
    |nil=>simp[Src.is]at e2;subst e2;rcases hk with h|h <;> cases h
    |slot s0=>
     obtain⟨src',e3,e4⟩:=b3 s (by grind);rw[Nat.zero_add,e1]at e3;cases e3;obtain⟨o0,f1,f2⟩:=e4 s0 rfl;exact⟨s0,o0,e1,f1,f2,e2⟩
   refine⟨ρ',c1,hR.nt.trans hnt,λj c hj=>a3 ρ' (c1g.agr (b1.agr c2)) j c (z3m hj),λs o ho =>?_,λs s' o o' sl sl' i h1 h2 l1 l2 r1 r2 k1 k2 =>?_,λs o sl i h1 l1 r1 k1 =>?_,hR.lv,hR.E,hR.e0,(by have:=hR.d;rw[hde]at this;exact this),hR.out,λj sl hj =>?_,λs o sl i h1 l1 r1 k1=>by
    obtain⟨s0,o0,d1,d2,d3,d4⟩:=place s sl i r1 (.inr k1)
    exact hR.fpl s0 o0 sl i d2 d3 d4 k1,λi s v h1 h2=>by
    rw[Qan,Qaf]at h1;obtain⟨k,hk,e⟩:=h1;injection e with e;subst e;obtain⟨s0,d1,d2⟩:=c3g i k hk;have:=hR.g i s0 v d1 h2;simp[VR]at this ⊢;obtain⟨sl,f1,f2⟩:=this;obtain⟨sl',f3,f4⟩:=c2 k _ (b1 _ _ d2)
    grind[Src.is]⟩
   rotate_right
   have hlt:=(Qaa.1 hj).1;obtain⟨sl',e1,e2⟩:=c2 j _ (b1 _ _ (a1 _ _ (zsk (n:=l.pin) (k:=j) (by omega))));simp[Src.is]at e2;rw[hR.pin j sl hj]at e2;cases e2;exact e1
   simp_all[z3m]
   obtain⟨s0,o0,d1,d2,d3,d4⟩:=place s sl i r1 k1;obtain⟨s1,o1,e1,e2,e3,e4⟩:=place s' sl' i r2 k2;have:=hR.inj s0 s1 o0 o1 sl sl' i d2 e2 d3 e3 d4 e4 k1 k2;subst this;exact hM.inj s s' s0 d1 e1;obtain⟨s0,o0,d1,d2,d3,d4⟩:=place s sl i r1 k1;exact hR.mine s0 o0 sl i d2 d3 d4 k1
  cases h;cases h
 cases h;cases h
omit hD in
def TR(D:Dat)(F:Fr)(ts:TS D.T)(σ:St):Prop:=∃τ ρ,zj1 σ τ∧TRr D F ρ ts τ
omit hD in
theorem TRr.tr(hR:TRr D F ρ ts σ):TR D F ts σ:=⟨σ,ρ,.refl σ,hR⟩
theorem TR.freeze(h:TR D F ts σ){s ts'}(hf:ts.freeze D s=some ts'):TR D F ts' σ:=by
 obtain⟨τ,ρ,h1,h2⟩:=h;obtain⟨υ,h3,h4⟩:=zr4 hD h2 hf;exact⟨υ,ρ,h1.trans h3,h4⟩
theorem TR.fold{R}(h:TR D F ts σ){s k}{r:R}(hf:ts.fold D s k=some r):∃ts',TR D F ts' σ∧k ts'=some r:=by
 obtain⟨τ,ρ,h1,h2⟩:=h;obtain⟨ts',ρ',h3,h4,_⟩:=zxp hD h2 hf;exact⟨ts',⟨τ,ρ',h1,h3⟩,h4⟩
theorem LSh.z66{R l}(hp:F.pin.length<=l.pin)(hp2:l.pin<=l.os.length){k}{r:R}:∀{f ts},TR D F ts σ->LSh.enter D l k f ts=some r->∃x,k x=some r∧TR D F (l.bld D x) σ
 |0,ts,hT,h=>by simp[LSh.enter]at h
 |f+1,ts,hT,h=>by
  simp[LSh.enter]at h;split at h;rename_i x hx;obtain⟨τ,ρ,h1,h2⟩:=hT;obtain⟨ρ',h3⟩:=LSh.zd6 hD h2 hp hp2 hx;exact⟨x,h,τ,ρ',h1,h3⟩;split at h;obtain⟨ts',h1,h2⟩:=hT.fold hD h;exact LSh.z66 hp hp2 h1 h2;split at h;rename_i s _ _ ts' hf;obtain⟨x,h1,h2⟩:=LSh.z66 hp hp2 (hT.freeze hD hf) h;exact⟨x,h1,h2⟩;cases h;cases h
end
section
variable {P : Program} {D : Dat} {F : Fr} {ρ : List Slot} {ts : TS D.T} {σ : St} {lv : Nat} {T : Nat → Type}
theorem VR.zfw{ρ' lv' t x v}(h:VR D ρ lv (D.leaf t x) v):VR D ρ' lv' (D.leaf t x) v:=by
 cases t <;> first|(simp only[Dat.leaf,VR];done)|simpa only[Dat.leaf,VR]using h
theorem VR.data{ρ' lv' t x v}(hD:D.Ok P)(h:VR D ρ lv (D.tv t x) v):VR D ρ' lv' (D.tv t x) v:=by
 cases t with
 |st i=>
  obtain⟨vs,rfl,h⟩:=h;refine⟨vs,rfl,.of h.length λj c v hc hv =>?_⟩;have:=h.zp9 hc hv;rw[zbb,Qaf]at hc;obtain⟨p,hp,rfl⟩:=hc
  exact VR.zfw this
 |bool=>exact VR.zfw (t:=.bool) h
 |int k=>exact VR.zfw (t:=.int k) h
 |str=>exact VR.zfw (t:=.str) h
 |nat=>exact VR.zfw (t:=.nat) (x:=x) h
 |sl t=>exact VR.zfw (t:=.sl t) h
def Maps(m:Nat->Nat)(ρ ρ':List Slot):Prop:=∀(j) (sl),ρ[j]? = some sl->ρ'[m j]? = some sl
variable {m : Nat → Nat} {ρ' : List Slot}
mutual
theorem VR.maps(hm:Maps m ρ ρ')(hD:D.Ok P):∀(sh:Sh) {x:HL D.T sh.tys}{v:V},VR D ρ lv (zeo D (λk=>k) sh x) v->VR D ρ' lv (zeo D m sh x) v
 |.any,x,v,h=>(by simp only[VR]:VR D ρ' lv .any v)
 |.d t,x,v,h=>by
  replace h:VR D ρ lv (D.tv t x.1) v:=h;show VR D ρ' lv (D.tv t x.1) v
  exact VR.data hD h
 |.own k,x,v,h=>by
  replace h:VR D ρ lv (.own k) v:=h;show VR D ρ' lv (.own (m k)) v;simp only[VR]at h ⊢;obtain⟨sl,h1,h2⟩:=h
  exact⟨sl,hm k sl h1,h2⟩
 |.ptr k off,x,v,h=>by
  replace h:VR D ρ lv (.ptr k off) v:=h;show VR D ρ' lv (.ptr (m k) off) v;simp only[VR]at h ⊢;obtain⟨sl,i,h1,h2⟩:=h
  exact⟨sl,i,hm k sl h1,h2⟩
 |.map k,x,v,h=>by
  replace h:VR D ρ lv (.map k) v:=h;show VR D ρ' lv (.map (m k)) v;simp only[VR]at h ⊢;obtain⟨sl,i,h1,h2⟩:=h
  exact⟨sl,i,hm k sl h1,h2⟩
 |.mc t,x,v,h=>by
  replace h:VR D ρ lv (.mc t (List.zip x.1 x.2.1)) v:=h;show VR D ρ' lv (.mc t (List.zip x.1 x.2.1)) v;unfold VR at h ⊢
  exact h
 |.bp k,x,v,h=>by
  replace h:VR D ρ lv (.bp k 0) v:=h;show VR D ρ' lv (.bp (m k) 0) v;simp only[VR]at h ⊢;obtain⟨sl,i,h1,h2⟩:=h
  exact⟨sl,i,hm k sl h1,h2⟩
 |.nilp,x,v,h=>by
  replace h:VR D ρ lv .nilp v:=h;show VR D ρ' lv .nilp v
  simpa only[VR]using h
 |.nilf,x,v,h=>by
  replace h:VR D ρ lv .nilf v:=h;show VR D ρ' lv .nilf v
  simpa only[VR]using h
 |.nili,x,v,h=>by
  replace h:VR D ρ lv .nili v:=h;show VR D ρ' lv .nili v
  simpa only[VR]using h
 |.nils,x,v,h=>by
  replace h:VR D ρ lv .nils v:=h;show VR D ρ' lv .nils v
  simpa only[VR]using h
 |.fn f a b,x,v,h=>by
  replace h:VR D ρ lv (.fn f (z01 D (λk=>k) a (HL.fst _ x)) (z01 D (λk=>k) b (HL.snd _ x))) v:=h;show VR D ρ' lv (.fn f (z01 D m a (HL.fst _ x)) (z01 D m b (HL.snd _ x))) v;simp only[VR]at h ⊢;obtain⟨as,bs,h1,h2,h3⟩:=h
  exact⟨as,bs,h1,VRL.maps hm hD a h2,VRL.maps hm hD b h3⟩
 |.iface t s,x,v,h=>by
  replace h:VR D ρ lv (.iface t (zeo D (λk=>k) s x)) v:=h;show VR D ρ' lv (.iface t (zeo D m s x)) v;simp only[VR]at h ⊢;obtain⟨y,h1,h2⟩:=h
  exact⟨y,h1,VR.maps hm hD s h2⟩
 |.agg cs,x,v,h=>by
  replace h:VR D ρ lv (.agg (z01 D (λk=>k) cs x)) v:=h;show VR D ρ' lv (.agg (z01 D m cs x)) v;simp only[VR]at h ⊢;obtain⟨y,h1,h2⟩:=h
  exact⟨y,h1,VRL.maps hm hD cs h2⟩
 |.tup cs,x,v,h=>by
  replace h:VR D ρ lv (.tup (z01 D (λk=>k) cs x)) v:=h;show VR D ρ' lv (.tup (z01 D m cs x)) v;simp only[VR]at h ⊢;obtain⟨y,h1,h2⟩:=h
  exact⟨y,h1,VRL.maps hm hD cs h2⟩
 |.ref cs off,x,v,h=>by
  replace h:VR D ρ lv (.ref (z01 D (λk=>k) cs x) off) v:=h;show VR D ρ' lv (.ref (z01 D m cs x) off) v;simp only[VR]at h ⊢;obtain⟨y,h1,h2⟩:=h
  exact⟨y,h1,VRL.maps hm hD cs h2⟩
 |.dp k off,x,v,h=>by
  replace h:VR D ρ lv (.dp k x.1 off) v:=h;show VR D ρ' lv (.dp (m k) x.1 off) v;simp only[VR]at h ⊢;obtain⟨sl,j,ver,n,h1,h2⟩:=h
  exact⟨sl,j,ver,n,hm k sl h1,h2⟩
 |.ap k t off,x,v,h=>by
  replace h:VR D ρ lv (.ap k t x.1 x.2.1 off) v:=h;show VR D ρ' lv (.ap (m k) t x.1 x.2.1 off) v;simp only[VR]at h ⊢;obtain⟨sl,w,h1,h2⟩:=h;exact⟨sl,w,hm k sl h1,h2⟩
theorem VRL.maps(hm:Maps m ρ ρ')(hD:D.Ok P):∀(l:List Sh) {x:HL D.T (Sh.z0r l)}{vs:List V},VRL D ρ lv (z01 D (λk=>k) l x) vs->VRL D ρ' lv (z01 D m l x) vs
 |[],x,vs,h=>by
  replace h:VRL D ρ lv [] vs:=h;show VRL D ρ' lv [] vs
  simpa only[VRL]using h
 |sh::l,x,vs,h=>by
  replace h:VRL D ρ lv (zeo D (λk=>k) sh (HL.fst _ x)::z01 D (λk=>k) l (HL.snd _ x)) vs:=h;show VRL D ρ' lv (zeo D m sh (HL.fst _ x)::z01 D m l (HL.snd _ x)) vs;simp only[VRL]at h ⊢;obtain⟨v,r,h1,h2,h3⟩:=h;exact⟨v,r,h1,VR.maps hm hD sh h2,VRL.maps hm hD l h3⟩
end
theorem OR.maps(hm:Maps m ρ ρ')(hD:D.Ok P){L sl o x}(h:OR D ρ lv L sl (zko D (λk=>k) o x)):OR D ρ' lv L sl (zko D m o x):=by
 cases o with
 |cells cs=>
  grind[zko,OR,VRL.maps]
 |st i=>
  simp[zko,OR]at h ⊢;obtain⟨j,vs,h1,h2,h3⟩:=h;refine⟨j,vs,h1,h2,.of h3.length λk c v hc hv =>?_⟩;have:=h3.zp9 hc hv;rw[zbb,Qaf]at hc;obtain⟨p,hp,rfl⟩:=hc
  exact VR.zfw this
 |acc ty t w=>exact h
 |siter=>exact h
 |rig=>exact h
 |mp ty t=>exact h
 |mit t=>exact h
 |bld ty k=>
  simp[OR]at h ⊢;obtain⟨i,u,c,h1,h2,h3,h4⟩:=h;refine⟨i,u,c,h1,h2,h3,?_⟩;simp[y8x,VR]at h4 ⊢;obtain⟨sl,k1,k2⟩:=h4
  exact⟨sl,hm k sl k1,k2⟩
 |deep ty q=>
  replace h:=h;show OR D ρ' lv L sl (.deep ty q x.1 none);simp only[OR]at h ⊢;refine⟨h.1,?_⟩;have k3:=h.2
  cases hk:sl.k with
  |none=>grind
  |some j=>rw[hk]at k3;exact k3
 |deeph ty q f k=>
  replace h:=h;show OR D ρ' lv L sl (.deep ty q x.1 (some (x.2.1,f,m k)));simp only[OR]at h ⊢;refine⟨h.1,?_⟩;have k3:=h.2
  cases hk:sl.k with
  |none=>grind
  |some j=>
   rw[hk]at k3;obtain⟨ver,cp,fps,q1,q2,q3,q4,q5,q6,q7⟩:=k3;refine⟨ver,cp,fps,q1,q2,q3,q4,q5,λn x' w c a b d =>?_,λn' f' s' e=>by injection e with e;grind⟩;obtain⟨vs,cs,a1,a2,a3,a4,a5⟩:=q6 n x' w c a b d;refine⟨vs,cs,a1,a2,a3,a4,λf' p u b e1 e2 e3 =>?_⟩;have:=a5 f' p u b e1 e2 e3;by_cases hc:x.2.1.toNat=n∧f=f';simp[z07,Qbo hc]at this ⊢;obtain⟨g1,g2,g3,sl',g4,g5⟩:=this;exact⟨g1,g2,g3,sl',hm _ _ g4,g5⟩
   simp[z07,Qbp hc]at this ⊢;exact this
theorem zmk:∀(os) {k x s o},(s,o)∈z1g D m os k x->∃j,k<=j∧j<k+os.length∧s=m j∧∃(osh:OSh) (y:HL D.T osh.tys),o=zko D m osh y∧(j,zko D (λk=>k) osh y)∈z1g D (λk=>k) os k x
 |[],k,x,s,o,h=>by cases h
 |osh::os,k,x,s,o,h=>by
  rcases Qbf.1 h with h|h
  injection h with h1 h2;exact⟨k,Qbn _,by simp,h1,osh,HL.fst _ x,h2,Qak⟩;obtain⟨j,h1,h2,h3,osh',y,h4,h5⟩:=zmk os h;exact⟨j,by omega,by grind,h3,osh',y,h4,Qai _ h5⟩
theorem zm4:∀{M s o},fnd (zdi D M) s=some o->o = .gone∧∃k,(k,Src.slot s)∈M
 |[],s,o,h=>by simp[zdi,fnd]at h
 |(k,.slot s')::M,s,o,h=>by
  simp[zdi,kz5]at h;split at h
  grind
  obtain⟨h1,k',h2⟩:=zm4 h;grind
 |(k,.nil)::M,s,o,h=>by
  simp[zdi]at h;obtain⟨h1,k',h2⟩:=zm4 h
  grind
theorem zjl:∀{M s},fnd (zdi D M) s=none->∀k,(k,Src.slot s)∉M
 |[],s,h,k,hm=>by cases hm
 |(k',.slot s')::M,s,h,k,hm=>by
  simp[zdi,kz5]at h;split at h;cases h
  rcases Qbf.1 hm with hm|hm
  grind
  exact zjl h k hm
 |(k',.nil)::M,s,h,k,hm=>by
  simp[zdi]at h
  rcases Qbf.1 hm with hm|hm
  grind
  exact zjl h k hm
structure Left(D:Dat)(lv:Nat)(L:List (Option kz8))(ρ:List Slot)(p:Nat)(L':List (Option kz8))(ρ':List Slot)(os:List OSh)(y:HL D.T (yzq os)):Prop where
 len:ρ'.length=os.length
 ob:∀j o,(j,o)∈z1g D (λk=>k) os 0 y->∃sl,ρ'[j]? = some sl∧OR D ρ' lv L' sl o
 inj:∀(s s':Nat) (sl sl':Slot) (i:Nat),ρ'[s]? = some sl->ρ'[s']? = some sl'->sl.has i->sl'.has i->s=s'
 mine:∀(s:Nat) (sl:Slot) (i:Nat),ρ'[s]? = some sl->sl.has i->L.length<=i∨∃(k:Nat) (sl0:Slot),ρ[k]? = some sl0∧sl0.has i
 out:∀i,i<L.length->(∀(k:Nat) (sl0:Slot),ρ[k]? = some sl0->¬sl0.has i)->i<L'.length∧L'[i]? = L[i]?
 pin:∀(j:Nat) (sl:Slot),j<p->ρ[j]? = some sl->ρ'[j]? = some sl
 fpl:∀(s:Nat) (sl:Slot) (i:Nat),ρ'[s]? = some sl->i∈sl.fp->sl.k≠some i∧∃a,L'[i]? = some (some a)
theorem TRr.after(hR:TRr D F ρ ts σ)(hD:D.Ok P){M:z45 D.T}{n p:Nat}(hM:MOk n M){ρ0:List Slot}(hA:Agr ρ M ρ0)(h0:∀j sl,ρ0[j]? = some sl->∃src,fnd M j=some src∧src.is ρ sl∧∀s,src = .slot s->∃o',fnd ts.o s=some o'∧o'.live)
  (hMk:∀k s,(k,Src.slot s)∈M->fnd M k=some (.slot s)) (hp:∀k,k<p->∃s,fnd M k=some (.slot s)) {L':List (Option kz8)}{ρ':List Slot}{os:List OSh}{y:HL D.T (yzq os)}(hpo:p<=os.length) (hL:Left D F.lv σ.H.L ρ0 p L' ρ' os y) :
  TRr D F (ρ++ρ'.drop p) (z8d D M p ts os y) {σ with H:=⟨F.lv,L',F.E⟩}∧Maps (z6p D M p ts.nx) ρ' (ρ++ρ'.drop p):=by
 have hmaps:Maps (z6p D M p ts.nx) ρ' (ρ++ρ'.drop p):=λj sl hj=>by
  unfold z6p;by_cases hjp:j<p;rw[Qbo hjp];obtain⟨s,hs⟩:=hp j hjp;obtain⟨sl0,e1,e2⟩:=hA j _ hs;have:=hL.pin j sl0 hjp e1
  rw[hj]at this;injection this with this;subst this
  rw[hs];exact lookup_append e2;rw[Qbp hjp,<-hR.nx,Qau (by omega),Qbb];rw[<-hj];congr 1;omega
 have minj:∀j j',j<os.length->j'<os.length->z6p D M p ts.nx j=z6p D M p ts.nx j'->j=j':=λj j' hj hj' h=>by
  unfold z6p at h
  have low:∀j s,fnd M j=some (.slot s)->s<ts.nx:=λj s hs=>by
   obtain⟨sl0,e1,e2⟩:=hA j _ hs;rw[<-hR.nx];exact(Qaa.1 e2).1
  by_cases h1:j<p <;> by_cases h2:j'<p
  rw[Qbo h1,Qbo h2]at h;obtain⟨s,hs⟩:=hp j h1;obtain⟨s',hs'⟩:=hp j' h2;rw[hs,hs']at h;simp only at h;subst h;exact hM.inj j j' s hs hs';obtain⟨s,hs⟩:=hp j h1;rw[Qbo h1,Qbp h2,hs]at h;simp only at h;have:=low j s hs;omega;obtain⟨s,hs⟩:=hp j' h2;rw[Qbp h1,Qbo h2,hs]at h;simp only at h;have:=low j' s hs;omega;rw[Qbp h1,Qbp h2]at h;omega
 have kinds:∀s o,fnd (z8d D M p ts os y).o s=some o->(∃j,j<os.length∧s=z6p D M p ts.nx j∧∃(osh:OSh) (z:HL D.T osh.tys),o=zko D (z6p D M p ts.nx) osh z∧(j,zko D (λk=>k) osh z)∈z1g D (λk=>k) os 0 y)∨(o = .gone∧∃k,(k,Src.slot s)∈M)∨(fnd ts.o s=some o∧∀k,(k,Src.slot s)∉M):=λs o h=>by
  simp only[z8d]at h;rw[zfh]at h;split at h;rename_i o' ho';injection h with h;subst h;obtain⟨j,h1,h2,h3,h4⟩:=zmk os (z3m ho');exact .inl ⟨j,by omega,h3,h4⟩;rw[zfh]at h;split at h;rename_i o' ho';injection h with h;subst h;obtain⟨h1,h2⟩:=zm4 ho';exact .inr (.inl ⟨h1,h2⟩);rename_i hn;exact .inr (.inr ⟨h,zjl hn⟩)
 have apart:∀s o sl i,fnd ts.o s=some o->o.live->(∀k,(k,Src.slot s)∉M)->ρ[s]? = some sl->sl.has i->∀(k:Nat) (sl0:Slot),ρ0[k]? = some sl0->¬sl0.has i:=λs o sl i ho hl hno hs hk k sl0 h1 h2=>by
  obtain⟨src,e1,e2,e3⟩:=h0 k sl0 h1
  cases src with
  |nil=>simp only[Src.is]at e2;subst e2;rcases h2 with h|h <;> cases h
  |slot s0=>
   obtain⟨o',f1,f2⟩:=e3 s0 rfl;have:=hR.inj s s0 o o' sl sl0 i ho f1 hl f2 hs e2 hk h2;subst this;exact hno k (z3m e1)
 have passed:∀(k:Nat) (sl0:Slot) (i:Nat),ρ0[k]? = some sl0->sl0.has i->¬F.out i:=λk sl0 i h1 h2=>by
  obtain⟨src,e1,e2,e3⟩:=h0 k sl0 h1
  cases src with
  |nil=>simp only[Src.is]at e2;subst e2;rcases h2 with h|h <;> cases h
  |slot s0=>
   obtain⟨o',f1,f2⟩:=e3 s0 rfl;exact hR.mine s0 o' sl0 i f1 f2 e2 h2
 have oldlt:∀s o sl i,fnd ts.o s=some o->o.live->ρ[s]? = some sl->sl.has i->i<σ.H.L.length:=λs o sl i ho hl hs hk=>hR.lt ho hl hs hk
 have slotOld:∀s o sl,fnd ts.o s=some o->(ρ++ρ'.drop p)[s]? = some sl->ρ[s]? = some sl:=λs o sl ho h=>by
  obtain⟨q,h1,h2⟩:=hR.ob s o ho;rw[lookup_append h1]at h;rw[h1,h]
 have slotNew:∀j sl,j<os.length->(ρ++ρ'.drop p)[z6p D M p ts.nx j]? = some sl->ρ'[j]? = some sl:=λj sl hj h=>by
  have hlt:j<ρ'.length:=by rw[hL.len];exact hj
  have:=hmaps j ρ'[j] (Qab hlt)
  rw[this]at h;injection h with h;rw[<-h];exact Qab hlt
 refine⟨⟨?_,hR.nt,λj x hj =>?_,λs o ho =>?_,λs s' o o' sl sl' i h1 h2 l1 l2 r1 r2 k1 k2 =>?_,λs o sl i h1 l1 r1 k1 =>?_,rfl,rfl,hR.e0,hR.d.more _,λi hi =>?_,λj sl hj=>lookup_append (hR.pin j sl hj),λs o sl i h1 l1 r1 k1 =>?_,λi s v h1 h2=>(hR.g i s v h1 h2).more _⟩,hmaps⟩;simp only[z8d,List.length_append,List.length_drop,hL.len,hR.nx];obtain⟨v,h1,h2⟩:=hR.tm j x hj;exact⟨v,h1,h2.more _⟩
 rcases kinds s o ho with ⟨j,h1,h2,osh,z,h3,h4⟩|⟨rfl,k,h1⟩|⟨h1,h2⟩
 obtain⟨sl,e1,e2⟩:=hL.ob j _ h4;refine⟨sl,by rw[h2];exact hmaps j sl e1,?_⟩;rw[h3];exact OR.maps hmaps hD e2;obtain⟨sl0,e1,e2⟩:=hA k _ (hMk k s h1);exact⟨sl0,lookup_append e2,by simp only[OR]⟩;obtain⟨q,e1,e2⟩:=hR.ob s o h1;exact⟨q,lookup_append e1,e2.mono _ λi hi hl=>(hL.out i (hR.lt h1 hl e1 hi) (apart s o q i h1 hl h2 e1 hi)).2⟩
 rcases kinds s o h1 with ⟨j,a1,a2,osh,z,a3,a4⟩|⟨rfl,k,a1⟩|⟨a1,a2⟩
 rcases kinds s' o' h2 with ⟨j',b1,b2,osh',z',b3,b4⟩|⟨rfl,k',b1⟩|⟨b1,b2⟩
 rw[a2,b2]
 congr 1
 rw[a2]at r1;rw[b2]at r2;exact hL.inj j j' sl sl' i (slotNew j sl a1 r1) (slotNew j' sl' b1 r2) k1 k2;exact l2.elim
 exfalso
 rw[a2]at r1;have q2:=slotOld s' o' sl' b1 r2
 rcases hL.mine j sl i (slotNew j sl a1 r1) k1 with h|⟨k,sl0,e1,e2⟩
 have:=oldlt s' o' sl' i b1 l2 q2 k2;omega;exact apart s' o' sl' i b1 l2 b2 q2 k2 k sl0 e1 e2;exact l1.elim
 rcases kinds s' o' h2 with ⟨j',b1,b2,osh',z',b3,b4⟩|⟨rfl,k',b1⟩|⟨b1,b2⟩
 exfalso
 rw[b2]at r2;have q1:=slotOld s o sl a1 r1
 rcases hL.mine j' sl' i (slotNew j' sl' b1 r2) k2 with h|⟨k,sl0,e1,e2⟩
 have:=oldlt s o sl i a1 l1 q1 k1;omega;exact apart s o sl i a1 l1 a2 q1 k1 k sl0 e1 e2;exact l2.elim;exact hR.inj s s' o o' sl sl' i a1 b1 l1 l2 (slotOld _ _ _ a1 r1) (slotOld _ _ _ b1 r2) k1 k2
 rcases kinds s o h1 with ⟨j,a1,a2,osh,z,a3,a4⟩|⟨rfl,k,a1⟩|⟨a1,a2⟩
 rw[a2]at r1
 rcases hL.mine j sl i (slotNew j sl a1 r1) k1 with h|⟨k,sl0,e1,e2⟩
 intro ho;have:=(hR.out i ho).1;omega;exact passed k sl0 i e1 e2;exact l1.elim;exact hR.mine s o sl i a1 l1 (slotOld _ _ _ a1 r1) k1;obtain⟨h1,h2⟩:=hR.out i hi;obtain⟨h3,h4⟩:=hL.out i h1 λk sl0 e1 e2=>passed k sl0 i e1 e2 hi
 exact⟨h3,h4.trans h2⟩
 rcases kinds s o h1 with ⟨j,a1,a2,osh,z,a3,a4⟩|⟨rfl,k,a1⟩|⟨a1,a2⟩
 rw[a2]at r1;exact hL.fpl j sl i (slotNew j sl a1 r1) k1;exact l1.elim;have q1:=slotOld _ _ _ a1 r1;have hq:=hR.fpl s o sl i a1 l1 q1 k1;refine⟨hq.1,?_⟩;show ∃a,L'[i]? = _;rw[(hL.out i (hR.lt a1 l1 q1 (.inr k1)) (apart s o sl i a1 l1 a2 q1 (.inr k1))).2];exact hq.2
end
section
variable {P : Program} {D : Dat} {F : Fr} {ρ : List Slot} {ts : TS D.T} {σ : St} {lv : Nat}
def SlOk(L:List (Option kz8))(ρ0:List Slot):Prop :=
 (∀(s s':Nat) (sl sl') (i),ρ0[s]? = some sl->ρ0[s']? = some sl'->sl.has i->sl'.has i->s=s') ∧
 ∀(s:Nat) (sl) (i),ρ0[s]? = some sl->i∈sl.fp->sl.k≠some i∧∃a,L[i]? = some (some a)
def ygl(L L':List (Option kz8))(ρ0:List Slot)(kc:List (Nat×Nat)):Prop:=∀q∈kc,∀sl i,ρ0[q.1]? = some sl->sl.k=some i->cellAt L'[i]? q.2=cellAt L[i]? q.2
def y3f(L:List (Option kz8))(ρ0:List Slot)(kc:List (Nat×Nat)):Prop:=∀q∈kc,∃sl i u,ρ0[q.1]? = some sl∧sl.k=some i∧cellAt L[i]? q.2=some u∧u.leaf=true
theorem y3f.nil{L ρ0}:y3f L ρ0 []:=λq hq=>by cases hq
theorem ygl.nil{L L' ρ0}:ygl L L' ρ0 []:=λq hq=>by cases hq
def ykr(pan:Sh)(v:V):Out:=match pan with
 |.tup _=>.ret v
 |_=>.pan v
theorem ye5{pan v w}(h:Out.ret w=ykr pan v):v=w∧∀{R} (k kp:TV D.T->TS D.T->Option R),altK D pan k kp=k:=by
 cases pan <;> simp only[ykr]at h <;> first|(cases h;done)|(injection h with h;exact⟨h.symm,λ_ _=>rfl⟩)
theorem y80{pan v w}(h:Out.pan w=ykr pan v):v=w∧∀{R} (k kp:TV D.T->TS D.T->Option R),altK D pan k kp=kp:=by
 cases pan <;> simp only[ykr]at h <;> first|(cases h;done)|(injection h with h;exact⟨h.symm,λ_ _=>rfl⟩)
theorem y1k{M:z45 D.T}{old}(h:∀k s,fnd M k≠some (.slot s)):∀(l) (ts),Go.Ab.z5y D M old l ts=ts
 |[],ts=>rfl
 |q::l,ts=>by
  simp[Go.Ab.z5y];split
  grind
  exact y1k h l ts
theorem yr0{pan v}(h:(match pan with| .tup _=>false|_=>true)=true):ykr pan v = .pan v:=by cases pan <;> first|rfl|cases h
def Ent.Flat(P:Program)(e:Ent D)(x:HL D.T (Sh.z0r e.args++yzq e.aos))(o:HL D.T (Sh.z0r e.outs++yzq e.ros) ⊕ HL D.T (e.pan.tys++yzq e.pos)):Prop :=
 ∀(lv) (L) (E) (ρ0) (vargs),ρ0.length=e.aos.length->VRL D ρ0 lv (z01 D (λk=>k) e.args (HL.fst _ x)) vargs ->
  (∀j o,(j,o)∈z1g D (λk=>k) e.aos 0 (HL.snd _ x)->∃sl,ρ0[j]? = some sl∧OR D ρ0 lv L sl o) ->
  SlOk L ρ0->y3f L ρ0 e.kc ->
  znr P e.f vargs ⟨lv,L,E⟩ λout H'=>∃L' ρ',H'=⟨lv,L',E⟩ ∧
   match o with
   |.inl y=>Left D lv L ρ0 e.p L' ρ' e.ros (HL.snd _ y)∧((∀q∈e.ren,∀sl,ρ0[q.1]? = some sl->∃sl',ρ'[q.2]? = some sl'∧sl'.v=sl.v)∧ygl L L' ρ0 e.kc)∧∃vs,out = .ret (z9a vs)∧VRL D ρ' lv (z01 D (λk=>k) e.outs (HL.fst _ y)) vs
   |.inr y=>Left D lv L ρ0 e.p L' ρ' e.pos (HL.snd _ y)∧∃v,out=ykr e.pan v∧VR D ρ' lv (zeo D (λk=>k) e.pan (HL.fst _ y)) v
def Ent.Pure(P:Program)(e:Ent D)(x:HL D.T (Sh.z0r e.args++yzq e.aos))(y:HL D.T (Sh.z0r e.outs++yzq e.ros)):Prop :=
 e.aos=[]∧e.ros=[]∧e.ren=[]∧∀(lv) (vargs),VRL D [] lv (z01 D (λk=>k) e.args (HL.fst _ x)) vargs->∃vs,(∀ρ lv',VRL D ρ lv' (z01 D (λk=>k) e.outs (HL.fst _ y)) vs)∧y2w P e.f vargs (z9a vs)
def Ent.Ok(P:Program)(e:Ent D):Prop:=∀(R) (x) (k) (kp) (r:R),e.go x k kp=some r ->
 match e.pure with
 |true=>∃y,k y=some r∧e.Pure P x y
 |false=>(∃y,k y=some r∧e.Flat P x (.inl y))∨∃y,kp y=some r∧e.Flat P x (.inr y)
theorem TRr.z5y{M:z45 D.T}{old ρ0 ρ' σ'}(hold:TRr D F ρ old σ)(hA:∀k s,fnd M k=some (.slot s)->∃sl,ρ0[k]? = some sl∧ρ[s]? = some sl)(hm:∀(s:Nat) (sl:Slot),ρ[s]? = some sl->ρ'[s]? = some sl)
  (hv:∀x v,VR D ρ F.lv x v->VR D ρ' F.lv x v):∀(l) {ts},ygl σ.H.L σ'.H.L ρ0 l->TRr D F ρ' ts σ'->TRr D F ρ' (Go.Ab.z5y D M old l ts) σ'
 |[],ts,_,hR=>hR
 |q::l,ts,h,hR=>by
  have hl:=λq hq=>h q (Qai _ hq)
  simp[Go.Ab.z5y];split;rename_i s hs;split;rename_i olds news h1 h2;split;rename_i v hv1;refine TRr.z5y hold hA hm hv l hl ?_;obtain⟨sl,e1,e2⟩:=hA _ _ hs;obtain⟨sl1,f1,f2⟩:=hold.ob s _ h1;rw[e2]at f1;cases f1;obtain⟨sl2,g1,g2⟩:=hR.ob s _ h2;rw[hm _ _ e2]at g1;cases g1;simp only[OR]at f2 g2;obtain⟨i,vs,f3,f4,f5⟩:=f2;obtain⟨i',vs',g3,g4,g5⟩:=g2;rw[f3]at g3;cases g3;have hk:=h q Qak sl i e1 f3
  rw[f4,g4]at hk;have hk:vs'[q.2]? = vs[q.2]? := hk
  have hset:σ'.H.L.set i (some (.cells vs'))=σ'.H.L:=by
   grind[List.set_getElem_self]
  have hup:=hR.upd h2 trivial (hm _ _ e2) f3 (.cells (news.set q.2 v)) (.cells vs') (by
   simp only[OR];refine⟨i,vs',f3,by rw[hset];exact g4,VRL.of (by rw[List.length_set];exact g5.length) λj c u hj hu =>?_⟩;rw[Qbd]at hj;split at hj;rename_i hjq;subst hjq;split at hj;cases hj;obtain⟨w,w1,w2⟩:=f5.get _ _ hv1
   grind
   cases hj
   exact g5.zp9 hj hu)
  simp_all
  exact TRr.z5y hold hA hm hv l hl hR;exact TRr.z5y hold hA hm hv l hl hR;exact TRr.z5y hold hA hm hv l hl hR
theorem TRr.z8q{M:z45 D.T}{p nx}{ρ0 ρ':List Slot}(hA:∀k s,fnd M k=some (.slot s)->∃sl,ρ0[k]? = some sl∧ρ[s]? = some sl)(hm:Maps (z6p D M p nx) ρ' ρ):∀(l) {ts},(∀q∈l,∀sl,ρ0[q.1]? = some sl->∃sl',ρ'[q.2]? = some sl'∧sl'.v=sl.v)->TRr D F ρ ts σ->TRr D F ρ (Go.Ab.z8q D M p nx l ts) σ
 |[],ts,_,hR=>hR
 |q::l,ts,h,hR=>by
  simp[Go.Ab.z8q];split;rename_i s hs;obtain⟨sl,h1,h2⟩:=hA _ _ hs;obtain⟨sl',h3,h4⟩:=h q Qak sl h1;exact TRr.z8q hA hm l (λq hq=>h q (Qai _ hq)) (hR.z7y _ λx v hx=>VR.ren h2 (hm _ _ h3) h4 hx);exact TRr.z8q hA hm l (λq hq=>h q (Qai _ hq)) hR
variable (hD : D.Ok P)
include hD
theorem VR.zw0{cs vs}(h:VRL D ρ lv cs vs):VR D ρ lv (Go.Ab.zw0 D cs) (z9a vs):=by
 cases cs with
 |nil=>subst h;exact⟨[],rfl,by simp[VRL]⟩
 |cons c cs=>
  have h0:=h;obtain⟨v,r,rfl,h1,h2⟩:=h
  cases cs with
  |nil=>subst h2;exact h1
  |cons d ds=>
   simp[VRL]at h2;simp[Go.Ab.zw0,z9a,VR]
   grind
theorem Ent.zd6(hR:TRr D F ρ ts σ){e:Ent D}{vs vargs M x}(hv:VRL D ρ F.lv vs vargs)(h:e.fit D vs ts = .ok (M,x)) :
  MOk e.aos.length M∧∃ρ0:List Slot,ρ0.length=e.aos.length∧Agr ρ M ρ0∧(∀j sl,ρ0[j]? = some sl->∃src,fnd M j=some src∧src.is ρ sl∧∀s,src = .slot s->∃o',fnd ts.o s=some o'∧o'.live) ∧
   VRL D ρ0 F.lv (z01 D (λk=>k) e.args (HL.fst _ x)) vargs∧∀j o,(j,o)∈z1g D (λk=>k) e.aos 0 (HL.snd _ x)->∃sl,ρ0[j]? = some sl∧OR D ρ0 F.lv σ.H.L sl o:=by
 unfold Ent.fit at h;split at h;rename_i M1 y hy;split at h;rename_i M2 z hz;cases h;obtain⟨a1,a2,a3⟩:=z8z hD e.args hy hv;obtain⟨b1,b2,b3,b4⟩:=zgt hD hR e.aos hz;have hM:=b2 (a2 ⟨λk src h=>by simp[fnd]at h,λk k' s h=>by simp[fnd]at h,λk src h=>by cases h⟩);obtain⟨ρ0,c1,c2,c3⟩:=yj7 hR hM λj hj=>by simpa using b3 j hj
 refine⟨hM,ρ0,c1,c2,λj sl hj =>?_,by rw[HL.zgn];exact a3 ρ0 (b1.agr c2),λj o hm =>?_⟩;obtain⟨src,e1,e2⟩:=c3 j sl hj;obtain⟨src',e3,e4⟩:=b3 j (by grind)
 simp_all
 grind[HL.zgg]
 cases h;cases h;cases h;cases h
omit hD in
theorem ynv(hR:TRr D F ρ ts σ):{σ with H:=⟨F.lv,σ.H.L,F.E⟩}=σ:=by
 have e1:=hR.lv;have e2:=hR.E;obtain⟨t,⟨l,L,E⟩,d,e0⟩:=σ
 grind
omit hD in
theorem zu3(hR:TRr D F ρ ts σ){M:z45 D.T}{n}(hM:MOk n M){ρ0}(h0:∀j sl,ρ0[j]? = some sl->∃src,fnd M j=some src∧src.is ρ sl∧∀s,src = .slot s->∃o',fnd ts.o s=some o'∧o'.live) :
  SlOk σ.H.L ρ0:=⟨λs s' sl sl' i h1 h2 k1 k2=>by
 obtain⟨src,e1,e2,e3⟩:=h0 s sl h1;obtain⟨src',f1,f2,f3⟩:=h0 s' sl' h2
 cases src with
 |nil=>subst e2;rcases k1 with h|h <;> cases h
 |slot q=>
  cases src' with
  |nil=>subst f2;rcases k2 with h|h <;> cases h
  |slot q'=>
   obtain⟨o,g1,g2⟩:=e3 q rfl;obtain⟨o',g3,g4⟩:=f3 q' rfl;have:=hR.inj q q' o o' sl sl' i g1 g3 g2 g4 e2 f2 k1 k2;subst this
   exact hM.inj s s' q e1 f1,λs sl i h1 k1=>by
 obtain⟨src,e1,e2,e3⟩:=h0 s sl h1
 cases src with
 |nil=>subst e2;cases k1
 |slot q=>
  obtain⟨o,g1,g2⟩:=e3 q rfl
  exact hR.fpl q o sl i g1 g2 e2 k1⟩
omit hD in
theorem zfp(hR:TRr D F ρ ts σ){M ρ0}(hA:Agr ρ M ρ0):∀{kc},yfg D M ts kc=true->y3f σ.H.L ρ0 kc
 |[],_=>.nil
 |q::l,h=>by
  simp[yfg]at h;split at h;rename_i s hs;split at h;rename_i olds ho;split at h;rename_i s' hv;intro q' hq'
  rcases Qbf.1 hq' with rfl|hq'
  obtain⟨sl,e1,e2⟩:=hA _ _ hs;obtain⟨sl',k1,k2⟩:=hR.ob s _ ho;simp[OR]at k2;obtain⟨i,vs,k2,k3,k4⟩:=k2;have e2:ρ[s]? = some sl:=e2;rw[k1]at e2;cases e2;obtain⟨u,u1,u2⟩:=k4.get _ _ hv
  grind[VR,cellAt]
  exact zfp hR hA h q' hq';cases h;cases h;cases h
theorem zds{R}(hR:TRr D F ρ ts σ){f vs vargs k kp kf}{r:R}(hv:VRL D ρ F.lv vs vargs):∀{tbl},(∀e∈tbl,e.Ok P)->zkl D f vs ts k kp kf tbl=some r ->
  ((∃e∈tbl,e.pure=false)∧∃(Post:Out->kz3->Prop),znr P f vargs σ.H Post∧(∀rv H',Post (.ret rv) H'->∃z ts' ρ',VR D ρ' F.lv z rv∧TRr D F ρ' ts' {σ with H:=H'}∧k z ts'=some r) ∧
    (∀v H',Post (.pan v) H'->∃z ts' ρ',VR D ρ' F.lv z v∧TRr D F ρ' ts' {σ with H:=H'}∧kp z ts'=some r)) ∨
  (∃rv,y2w P f vargs rv∧∃z ρ' ts',(∀ρ',VR D ρ' F.lv z rv)∧TRr D F ρ' ts' σ∧k z ts'=some r∧ts'.t=ts.t∧ts'.nt=ts.nt)∨∃s,kf s=some r
 |[],_,h=>by simp[zkl,yt1]at h
 |e::tbl,htbl,h=>by
  have up:∀{A B:Prop},(((∃e∈tbl,e.pure=false)∧A)∨B)->((∃e'∈e::tbl,e'.pure=false)∧A)∨B:=λ{A B} h=>h.imp (λ⟨⟨e',h1,h2⟩,h3⟩=>⟨⟨e',Qai _ h1,h2⟩,h3⟩) λh=>h
  simp only[zkl]at h;split at h;exact up (zds hR hv (λe he=>htbl e (Qai _ he)) h);rename_i hf;have hf:=Qaj hf;subst hf;split at h;exact up (zds hR hv (λe he=>htbl e (Qai _ he)) h)
  grind
  rename_i M x hfit;split at h;rename_i hc;obtain⟨ck,c1,c2,c3,c4⟩:=hc;obtain⟨hM,ρ0,d1,d2,d3,d4,d5⟩:=Ent.zd6 hD hR hv hfit
  have hp:∀k,k<e.p->∃s,fnd M k=some (.slot s):=λk hk=>by
   have:=Qas.1 c4 k (List.mem_range.2 hk);split at this
   grind
   cases this
  have hmk:∀k s,(k,Src.slot s)∈M->fnd M k=some (.slot s):=λk s hm=>hM.one k _ hm
  have hinj:=zu3 hR hM d3;have hok:=htbl e Qak _ _ _ _ _ h
  cases hpure:e.pure with
  |true=>
   rw[hpure]at hok;obtain⟨y,hy,e1,e2,en,e3⟩:=hok;have hr0:=Qao (by rw[d1,e1];rfl);rw[hr0]at d4;obtain⟨us,f1,f2⟩:=e3 F.lv vargs d4
   have hleft:Left D F.lv σ.H.L ρ0 e.p σ.H.L [] e.ros (HL.snd _ y):=by
    refine⟨by rw[e2];rfl,λj o hm =>?_,λs s' sl sl' i h1=>by simp at h1,λs sl i h1=>by simp at h1,λi hi _=>⟨hi,rfl⟩,λj sl hj hs =>?_,λs sl i h1=>by simp at h1⟩
    grind[zmk]
    grind
   obtain⟨g1,g2⟩:=TRr.after hR hD hM d2 d3 hmk hp c2 hleft;rw[ynv hR]at g1;rw[en,y1k (λk s hk=>by have:=hM.lt k _ hk;grind)]at hy
   exact .inr (.inl ⟨_,f2,_,_,_,λρ'=>VR.zw0 hD (VRL.maps (ρ:=[]) (λj sl hj=>by simp at hj) hD e.outs (f1 _ _)),g1,hy,rfl,rfl⟩)
  |false=>
   rw[hpure]at hok;have hHeap:=zht σ.H hR.lv hR.E;refine .inl ⟨⟨e,Qak,hpure⟩,?_⟩
   rcases hok with ⟨y,hy,hflat⟩|⟨y,hy,hflat⟩
   have hh:=hflat F.lv σ.H.L F.E ρ0 vargs d1 d4 d5 hinj (zfp hR d2 ck);rw[<-hHeap]at hh;refine⟨_,hh,λrv H' ⟨L',ρ',e1,e2,⟨en,ek⟩,vs',e3,e4⟩ =>?_,λv H' ⟨L',ρ',e1,e2,en,vs',e3,e4⟩=>(by cases e3)⟩;injection e3 with e3;subst e1;subst e3;obtain⟨g1,g2⟩:=TRr.after hR hD hM d2 d3 hmk hp c2 e2
   exact⟨_,_,_,VR.zw0 hD (VRL.maps g2 hD e.outs e4),(TRr.z5y (ρ0:=ρ0) hR (λk s hk=>d2 k _ hk) (λs sl h=>lookup_append h) (λx v h=>h.more _) e.kc ek g1).z8q (λk s hk=>(d2 k _ hk).imp λsl h=>⟨h.1,lookup_append h.2⟩) g2 _ en,hy⟩;have hh:=hflat F.lv σ.H.L F.E ρ0 vargs d1 d4 d5 hinj (zfp hR d2 ck);rw[<-hHeap]at hh;refine⟨_,hh,λrv H' ⟨L',ρ',e1,e2,vs',e3,e4⟩ =>?_,λrv H' ⟨L',ρ',e1,e2,vs',e3,e4⟩ =>?_⟩
   obtain⟨e3,e5⟩:=ye5 (D:=D) e3;subst e1;subst e3;rw[e5]at hy;obtain⟨g1,g2⟩:=TRr.after hR hD hM d2 d3 hmk hp c3 e2
   grind[VR.maps]
   obtain⟨e3,e5⟩:=y80 (D:=D) e3;subst e1;subst e3;rw[e5]at hy;obtain⟨g1,g2⟩:=TRr.after hR hD hM d2 d3 hmk hp c3 e2
   grind[VR.maps]
  cases h
theorem zjg{R}(hR:TRr D F ρ ts σ){f vs vargs chk k kp}{r:R}(hv:VRL D ρ F.lv vs vargs):∀{tbl},(∀e∈tbl,e.Ok P∧e.pure=false)->zu1 D f vs ts chk k kp tbl=some r ->
  ∃(M:z45 D.T) (kc:List (Nat×Nat)) (Post:Out->kz3->Prop),chk kc M=true∧(∀k s,(k,Src.slot s)∈M->∃o',fnd ts.o s=some o'∧o'.live)∧znr P f vargs σ.H Post ∧
   (∀out H',Post out H'->H'.lv=F.lv∧∀i,i<σ.H.L.length->(∀k s sl,(k,Src.slot s)∈M->ρ[s]? = some sl->¬sl.has i)->H'.L[i]? = σ.H.L[i]?) ∧
   (∀rv H',Post (.ret rv) H'->∀q∈kc,∀s sl i,fnd M q.1=some (.slot s)->ρ[s]? = some sl->sl.k=some i->cellAt H'.L[i]? q.2=cellAt σ.H.L[i]? q.2) ∧
   (∀rv H',Post (.ret rv) H'->∃z ts' ρ',VR D ρ' F.lv z rv∧TRr D F ρ' ts' {σ with H:=H'}∧k z ts'=some r∧∀(s:Nat) (sl),ρ[s]? = some sl->ρ'[s]? = some sl) ∧
   (∀v H',Post (.pan v) H'->∃z ts' ρ',VR D ρ' F.lv z v∧TRr D F ρ' ts' {σ with H:=H'}∧kp z ts'=some r)∧∀k s,(k,Src.slot s)∈M->fnd M k=some (.slot s)
 |[],_,h=>by simp[zu1,yr4]at h
 |e::tbl,htbl,h=>by
  simp only[zu1]at h;split at h;exact zjg hR hv (λe he=>htbl e (Qai _ he)) h;rename_i hf;have hf:=Qaj hf;subst hf;split at h;rename_i M x hfit;split at h;rename_i hc;obtain⟨c0,ck,c1,c2,c3,c4⟩:=hc;obtain⟨hM,ρ0,d1,d2,d3,d4,d5⟩:=Ent.zd6 hD hR hv hfit
  have hp:∀k,k<e.p->∃s,fnd M k=some (.slot s):=λk hk=>by
   have:=Qas.1 c4 k (List.mem_range.2 hk);split at this
   grind
   cases this
  have hmk:∀k s,(k,Src.slot s)∈M->fnd M k=some (.slot s):=λk s hm=>hM.one k _ hm
  have hinj:=zu3 hR hM d3;obtain⟨hok,hpure⟩:=htbl e Qak;have hok:=hok _ _ _ _ _ h;rw[hpure]at hok;have hHeap:=zht σ.H hR.lv hR.E
  have hlive:∀k s,(k,Src.slot s)∈M->∃o',fnd ts.o s=some o'∧o'.live:=λk s hm=>by
   obtain⟨sl,e1,e2⟩:=d2 k _ (hmk k s hm)
   grind
  have frame:∀{p:Nat}{L':List (Option kz8)}{ρ':List Slot}{os:List OSh}{y:HL D.T (yzq os)},Left D F.lv σ.H.L ρ0 p L' ρ' os y->∀i,i<σ.H.L.length->(∀k s sl,(k,Src.slot s)∈M->ρ[s]? = some sl->¬sl.has i)->L'[i]? = σ.H.L[i]? := λ{p L' ρ' os y} hl i hi hno=>by
   refine(hl.out i hi λk sl0 e1 e2 =>?_).2;obtain⟨src,f1,f2,f3⟩:=d3 k sl0 e1
   cases src with
   |nil=>simp[Src.is]at f2;subst f2;rcases e2 with h|h <;> cases h
   |slot s=>exact hno k s sl0 (z3m f1) f2 e2
  rcases hok with ⟨y,hy,hflat⟩|⟨y,hy,hflat⟩
  have hh:=hflat F.lv σ.H.L F.E ρ0 vargs d1 d4 d5 hinj (zfp hR d2 ck);rw[<-hHeap]at hh;refine⟨M,_,_,c0,hlive,hh,λout H' ⟨L',ρ',e1,e2,_⟩=>⟨by rw[e1],λi hi hno=>by rw[e1];grind⟩,λrv H' ⟨L',ρ',e1,e2,⟨en,ek⟩,_⟩ q hq s sl i hs h1 h2 =>?_,λrv H' ⟨L',ρ',e1,e2,⟨en,ek⟩,vs',e3,e4⟩ =>?_,λv H' ⟨L',ρ',e1,e2,en,vs',e3,e4⟩=>(by cases e3),hmk⟩
  have hq:q∈e.kc:=by
   grind[kcC]
  obtain⟨sl0,w1,w2⟩:=d2 q.1 _ hs;have w2:ρ[s]? = some sl0:=w2;rw[h1]at w2;cases w2;rw[e1];exact ek q hq sl i w1 h2;injection e3 with e3;subst e1;subst e3;obtain⟨g1,g2⟩:=TRr.after hR hD hM d2 d3 hmk hp c2 e2
  exact⟨_,_,_,VR.zw0 hD (VRL.maps g2 hD e.outs e4),(TRr.z5y (ρ0:=ρ0) hR (λk s hk=>d2 k _ hk) (λs sl h=>lookup_append h) (λx v h=>h.more _) e.kc ek g1).z8q (λk s hk=>(d2 k _ hk).imp λsl h=>⟨h.1,lookup_append h.2⟩) g2 _ en,hy,λs sl h=>lookup_append h⟩;have hh:=hflat F.lv σ.H.L F.E ρ0 vargs d1 d4 d5 hinj (zfp hR d2 ck);rw[<-hHeap]at hh
  refine⟨M,_,_,c0,hlive,hh,λout H' ⟨L',ρ',e1,e2,_⟩=>⟨by rw[e1],λi hi hno=>by grind⟩,λrv H' ⟨L',ρ',e1,e2,vs',e3,e4⟩ q hq =>?_,λrv H' ⟨L',ρ',e1,e2,vs',e3,e4⟩ =>?_,λrv H' ⟨L',ρ',e1,e2,vs',e3,e4⟩ =>?_,hmk⟩
  grind[ykr,kcC]
  obtain⟨e3,e5⟩:=ye5 (D:=D) e3;subst e1;subst e3;rw[e5]at hy;obtain⟨g1,g2⟩:=TRr.after hR hD hM d2 d3 hmk hp c3 e2
  grind[VR.maps]
  obtain⟨e3,e5⟩:=y80 (D:=D) e3;subst e1;subst e3;rw[e5]at hy;obtain⟨g1,g2⟩:=TRr.after hR hD hM d2 d3 hmk hp c3 e2
  grind[VR.maps]
  cases h;exact zjg hR hv (λe he=>htbl e (Qai _ he)) h
end
end Go.Ab
