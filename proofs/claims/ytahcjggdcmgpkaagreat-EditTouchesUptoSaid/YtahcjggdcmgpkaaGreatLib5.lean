/-
  THE TYPED MACHINE: own slices become data.
-/
import Derived.Test.YtahcjggdcmgpkaaGreatLib4
namespace Go.Ab
open Go
set_option linter.unusedVariables false
set_option linter.unusedSimpArgs false
set_option linter.unusedSectionVars false
section
variable {P : Program} {D : Dat} {F : Fr} {ρ : List Slot} {ts : TS D.T} {σ : St} {lv : Nat}
mutual
theorem z00r {s:Nat} {m:Bool} {z:TV D.T} {v0 r:V} (h1:∀v,VR D ρ lv (match m with|true=>TV.map s|false=>TV.own s) v->v=v0) (hr:VR D ρ lv z r):∀{x:TV D.T} {v:V},VR D ρ lv x v->∃v',FV v0 r v v'∧VR D ρ lv (TV.frz D s m z x) v'
 | .own j,v,h=>by
   cases m with
   |true=>exact ⟨v,.keep _,by simpa only [TV.frz] using h⟩
   |false =>
    simp only [TV.frz]
    split
    · rename_i hj
      subst hj
      obtain rfl:=h1 v h
      exact ⟨r,.it,hr⟩
    · exact ⟨v,.keep _,h⟩
 | .map j,v,h=>by
   cases m with
   |false=>exact ⟨v,.keep _,by simpa only [TV.frz] using h⟩
   |true =>
    simp only [TV.frz]
    split
    · rename_i hj
      subst hj
      obtain rfl:=h1 v h
      exact ⟨r,.it,hr⟩
    · exact ⟨v,.keep _,h⟩
 | .agg cs,v,h=>by
   simp only [TV.frz,VR] at h ⊢
   obtain ⟨vs,rfl,k2⟩:=h
   obtain ⟨us,q1,q2⟩:=y59 h1 hr k2
   exact ⟨.agg us,.agg' q1,us,rfl,q2⟩
 | .tup cs,v,h=>by
   simp only [TV.frz,VR] at h ⊢
   obtain ⟨vs,rfl,k2⟩:=h
   obtain ⟨us,q1,q2⟩:=y59 h1 hr k2
   exact ⟨.tup us,.tup' q1,us,rfl,q2⟩
 | .any,v,h=>⟨v,.keep _,by simpa only [TV.frz] using h⟩
 | .bool b,v,h=>⟨v,.keep _,by simpa only [TV.frz] using h⟩
 | .int k n,v,h=>⟨v,.keep _,by simpa only [TV.frz] using h⟩
 | .str b,v,h=>⟨v,.keep _,by simpa only [TV.frz] using h⟩
 | .nilp,v,h=>⟨v,.keep _,by simpa only [TV.frz] using h⟩
 | .nils,v,h=>⟨v,.keep _,by simpa only [TV.frz] using h⟩
 | .mapn,v,h=>⟨v,.keep _,by simpa only [TV.frz] using h⟩
 | .nilf,v,h=>⟨v,.keep _,by simpa only [TV.frz] using h⟩
 | .nili,v,h=>⟨v,.keep _,by simpa only [TV.frz] using h⟩
 | .sl t' ys fl,v,h=>⟨v,.keep _,by simpa only [TV.frz] using h⟩
 | .ptr j off,v,h=>⟨v,.keep _,by simpa only [TV.frz] using h⟩
 | .bp j off,v,h=>⟨v,.keep _,by simpa only [TV.frz] using h⟩
 | .osl j lo,v,h=>⟨v,.keep _,by simpa only [TV.frz] using h⟩
 | .mc t' es,v,h=>⟨v,.keep _,by simpa only [TV.frz] using h⟩
 | .ref cs off,v,h=>⟨v,.keep _,by simpa only [TV.frz] using h⟩
 | .ap j t' i x off,v,h=>⟨v,.keep _,by simpa only [TV.frz] using h⟩
 | .fn f a b,v,h=>⟨v,.keep _,by simpa only [TV.frz] using h⟩
 | .iface t' x,v,h=>⟨v,.keep _,by simpa only [TV.frz] using h⟩
theorem y59 {s:Nat} {m:Bool} {z:TV D.T} {v0 r:V} (h1:∀v,VR D ρ lv (match m with|true=>TV.map s|false=>TV.own s) v->v=v0) (hr:VR D ρ lv z r):∀{cs:List (TV D.T)} {vs:List V},VRL D ρ lv cs vs->∃us,FVL v0 r vs us∧VRL D ρ lv (TV.yu5 D s m z cs) us
 |[],vs,h=>by simp only [TV.yu5,VRL] at h ⊢;subst h;exact ⟨[],.nil,rfl⟩
 |c::cs,vs,h=>by
  simp only [TV.yu5,VRL] at h ⊢
  obtain ⟨v,q,rfl,k2,k3⟩:=h
  obtain ⟨v',a1,a2⟩:=z00r h1 hr k2
  obtain ⟨us,b1,b2⟩:=y59 h1 hr k3
  exact ⟨v'::us,.cons a1 b1,v',us,rfl,a2,b2⟩
end
theorem yvf (s:Nat) (m:Bool) (z:TV D.T):∀cs:List (TV D.T),TV.yu5 D s m z cs=cs.map (TV.frz D s m z)
 |[]=>rfl
 |c::cs=>by simp only [TV.yu5,List.map_cons,yvf s m z cs]
theorem yfk {s:Nat} {m:Bool} {z:TV D.T} {v0 r:V} (h1:∀v,VR D ρ lv (match m with|true=>TV.map s|false=>TV.own s) v->v=v0) (hr:VR D ρ lv z r) (f:Nat->Option (TV D.T)):∀(l:List V) (k:Nat),(∀j x v,f (k+j)=some x->l[j]? = some v->VR D ρ lv x v) ->
  ∃l',FVL v0 r l l'∧∀j x v,f (k+j)=some x->l'[j]? = some v->VR D ρ lv (TV.frz D s m z x) v
 |[],k,h=>⟨[],.nil,λj x v _ hv=>by simp at hv⟩
 |u::l,k,h=>by
  obtain ⟨l',a1,a2⟩:=yfk h1 hr f l (k+1) λj x v hx hv=>h (j+1) x v (by rw [<-hx];congr 1;omega) (by simpa using hv)
  cases hf:f k with
  |none =>
   refine ⟨u::l',.cons (.keep _) a1,λj x v hx hv => ?_⟩
   cases j with
   |zero=>rw [Nat.add_zero,hf] at hx;cases hx
   |succ j=>exact a2 j x v (by rw [<-hx];congr 1;omega) (by simpa using hv)
  |some y =>
   obtain ⟨u',b1,b2⟩:=z00r h1 hr (h 0 y u (by simpa using hf) rfl)
   refine ⟨u'::l',.cons b1 a1,λj x v hx hv => ?_⟩
   cases j with
   |zero=>rw [Nat.add_zero,hf] at hx;injection hx with hx;subst hx;simp at hv;subst hv;exact b2
   |succ j=>exact a2 j x v (by rw [<-hx];congr 1;omega) (by simpa using hv)
theorem ycr (hR:TRr D F ρ ts σ) {s:Nat} {m:Bool} {z:TV D.T} {v0 r:V} (hz:∀q,z ≠ .own q) (h1:∀v,VR D ρ F.lv (match m with|true=>TV.map s|false=>TV.own s) v->v=v0) (hr:VR D ρ F.lv z r):∀n:Nat,∃os os':List (Nat×kz7),FOL v0 r os os'∧(os.map (·.1)).Nodup ∧
  (∀p∈os,σ.H.L[p.1]? = some (some p.2)∧∃s' o sl',s'<n∧s'≠s∧fnd ts.o s'=some o∧o.live∧ρ[s']? = some sl'∧sl'.k=some p.1) ∧
  ∀s' o sl' i,s'<n->s'≠s->fnd ts.o s'=some o->o.live->ρ[s']? = some sl'->sl'.k=some i->∃ao,(i,ao)∈os'∧∀L',L'[i]? = some (some ao)->OR D ρ F.lv L' sl' (TO.map D (TV.frz D s m z) o)
 |0=>⟨[],[],.refl _,by simp,by simp,λs' o sl' i h=>by omega⟩
 |n+1=>by
  obtain ⟨os,os',a1,a2,a3,a4⟩:=ycr hR hz h1 hr n
  have skip:(∀o sl' i,n≠s->fnd ts.o n=some o->o.live->ρ[n]? = some sl'->sl'.k=some i->False)->∃os os':List (Nat×kz7),FOL v0 r os os'∧(os.map (·.1)).Nodup ∧
    (∀p∈os,σ.H.L[p.1]? = some (some p.2)∧∃s' o sl',s'<n+1∧s'≠s∧fnd ts.o s'=some o∧o.live∧ρ[s']? = some sl'∧sl'.k=some p.1) ∧
    ∀s' o sl' i,s'<n+1->s'≠s->fnd ts.o s'=some o->o.live->ρ[s']? = some sl'->sl'.k=some i->∃ao,(i,ao)∈os'∧∀L',L'[i]? = some (some ao)->OR D ρ F.lv L' sl' (TO.map D (TV.frz D s m z) o):=λhno =>
   ⟨os,os',a1,a2,λp hp=>by obtain ⟨b1,s',o,sl',b2,b3⟩:=a3 p hp;exact ⟨b1,s',o,sl',by omega,b3⟩,λs' o sl' i c1 c2 c3 c4 c5 c6=>by
     by_cases e:s'=n
     · subst e;exact (hno o sl' i c2 c3 c4 c5 c6).elim
     · exact a4 s' o sl' i (by omega) c2 c3 c4 c5 c6⟩
  by_cases hns:n=s
  · exact skip λo sl' i hne=>(hne hns).elim
  · cases ho:fnd ts.o n with
    |none=>exact skip λo sl' i _ h=>by rw [ho] at h;cases h
    |some o =>
     obtain ⟨sl',k1,k2⟩:=hR.ob n o ho
     by_cases hl:o.live
     · cases hk:sl'.k with
       |none=>exact skip λo' sl2 i _ h hl' h2 h3=>by rw [k1] at h2;injection h2 with h2;subst h2;rw [hk] at h3;cases h3
       |some i =>
        obtain ⟨a,ha⟩:=k2.at hl hk
        have hfresh:i∉os.map (·.1):=λhm=>by
         obtain ⟨p,hp,hpi⟩:=List.mem_map.1 hm
         obtain ⟨b1,s',o',sl2,b2,b3,b4,b5,b6,b7⟩:=a3 p hp
         have:=hR.inj n s' o o' sl' sl2 i ho b4 hl b5 k1 b6 hk (by rw [b7,hpi])
         omega
        have step:∀a':kz7,FO v0 r a a'->(∀L':List (Option kz7),L'[i]? = some (some a')->OR D ρ F.lv L' sl' (TO.map D (TV.frz D s m z) o))->∃os os':List (Nat×kz7),FOL v0 r os os'∧(os.map (·.1)).Nodup ∧
          (∀p∈os,σ.H.L[p.1]? = some (some p.2)∧∃s' o sl',s'<n+1∧s'≠s∧fnd ts.o s'=some o∧o.live∧ρ[s']? = some sl'∧sl'.k=some p.1) ∧
          ∀s' o sl' i,s'<n+1->s'≠s->fnd ts.o s'=some o->o.live->ρ[s']? = some sl'->sl'.k=some i->∃ao,(i,ao)∈os'∧∀L',L'[i]? = some (some ao)->OR D ρ F.lv L' sl' (TO.map D (TV.frz D s m z) o):=λa' hfo hor =>
         ⟨(i,a)::os,(i,a')::os',.cons hfo a1,by simp only [List.map_cons,List.nodup_cons];exact ⟨hfresh,a2⟩,λp hp=>by
           rcases List.mem_cons.1 hp with rfl|hp
           · exact ⟨ha,n,o,sl',by omega,hns,ho,hl,k1,hk⟩
           · obtain ⟨b1,s',o,sl',b2,b3⟩:=a3 p hp;exact ⟨b1,s',o,sl',by omega,b3⟩,λs' o2 sl2 i2 c1 c2 c3 c4 c5 c6=>by
           by_cases e:s'=n
           · subst e
             rw [ho] at c3;injection c3 with c3;subst c3
             rw [k1] at c5;injection c5 with c5;subst c5
             rw [hk] at c6;injection c6 with c6;subst c6
             exact ⟨a',List.mem_cons_self,hor⟩
           · obtain ⟨ao,d1,d2⟩:=a4 s' o2 sl2 i2 (by omega) c2 c3 c4 c5 c6
             exact ⟨ao,List.mem_cons_of_mem _ d1,d2⟩⟩
        cases o with
        |cells cs =>
         simp only [OR] at k2
         obtain ⟨i',vs,e1,e2,e3⟩:=k2
         rw [hk] at e1;injection e1 with e1;subst e1
         rw [ha] at e2;injection e2 with e2;injection e2 with e2;subst e2
         obtain ⟨us,f1,f2⟩:=y59 h1 hr e3
         rw [yvf] at f2
         exact step (.cells us) (.inr ⟨vs,us,rfl,rfl,f1⟩) λL' hL'=>by simp only [TO.map,OR];exact ⟨i,us,hk,hL',f2⟩
        |acc ty' t' xs' w' =>
         have:=k2
         refine step a (.inl rfl) λL' hL' => ?_
         simp only [OR,hk] at k2
         simp only [TO.map,OR,hk]
         obtain ⟨e1,e2,ver,cp,e3,e4⟩:=k2
         rw [ha] at e4
         exact ⟨e1,e2,ver,cp,e3,hL'.trans e4⟩
        |siter l pos =>
         refine step a (.inl rfl) λL' hL' => ?_
         simp only [OR] at k2
         simp only [TO.map,OR]
         obtain ⟨i',e1,e2⟩:=k2
         rw [hk] at e1;injection e1 with e1;subst e1
         rw [ha] at e2
         exact ⟨i,hk,hL'.trans e2⟩
        |mp ty' t' es' =>
         refine step a (.inl rfl) λL' hL' => ?_
         simp only [OR] at k2
         simp only [TO.map,OR]
         obtain ⟨i',ms,e1,e0,e3,e2⟩:=k2
         rw [hk] at e1;injection e1 with e1;subst e1
         rw [ha] at e2
         exact ⟨i,ms,hk,e0,e3,hL'.trans e2⟩
        |mit t' last es' =>
         refine step a (.inl rfl) λL' hL' => ?_
         simp only [OR] at k2
         simp only [TO.map,OR]
         obtain ⟨i',fs,vis,e1,e0,e2,e3⟩:=k2
         rw [hk] at e1;injection e1 with e1;subst e1
         rw [ha] at e2
         exact ⟨i,fs,vis,hk,e0,hL'.trans e2,e3⟩
        |bld ty' b' =>
         refine step a (.inl rfl) λL' hL' => ?_
         simp only [OR] at k2
         obtain ⟨i',u,c,e1,e2,e3,e4⟩:=k2
         rw [hk] at e1;injection e1 with e1;subst e1
         rw [ha] at e2
         cases b' with
         |none=>simp only [TO.map,OR];exact ⟨i,u,c,hk,hL'.trans e2,e3,e4⟩
         |some q =>
          cases m with
          |true=>simp only [TO.map,TV.frz,OR];exact ⟨i,u,c,hk,hL'.trans e2,e3,e4⟩
          |false =>
           simp only [TO.map,TV.frz]
           by_cases hq:q=s
           · rw [if_pos hq]
             cases z <;> simp only [OR]
             case own q'=>exact (hz q' rfl).elim
           · rw [if_neg hq];simp only [OR];exact ⟨i,u,c,hk,hL'.trans e2,e3,e4⟩
        |gone=>exact hl.elim
     · exact skip λo' sl2 i _ h hl'=>by rw [ho] at h;injection h with h;subst h;exact (hl hl').elim
theorem ywo (hR:TRr D F ρ ts σ) {s:Nat} {m:Bool} {z:TV D.T} {v0 r:V} {sl:Slot} (k1:ρ[s]? = some sl) (hd0:ts.d=[]) {os':List (Nat×kz7)}
  (a4:∀s' o sl' i,s'<ts.nx->s'≠s->fnd ts.o s'=some o->o.live->ρ[s']? = some sl'->sl'.k=some i->∃ao,(i,ao)∈os'∧∀L',L'[i]? = some (some ao)->OR D ρ F.lv L' sl' (TO.map D (TV.frz D s m z) o))
  {t':List V} (c1:FVL v0 r σ.t t') (c2:∀j x v,fnd ts.t (0+j)=some x->t'[j]? = some v->VR D ρ F.lv (TV.frz D s m z x) v) {L':List (Option kz7)} (d1:∀p'∈os',L'[p'.1]? = some (some p'.2)) (d3:L'.length=σ.H.L.length) (d4:∀i,F.out i->L'[i]? = σ.H.L[i]?) :
  TRr D F ρ {ts.zrj D (TV.frz D s m z) with o:=(s,TO.gone)::(ts.zrj D (TV.frz D s m z)).o} ⟨t',⟨F.lv,L',σ.H.E⟩,[],σ.e0⟩:=by
 have hob:∀s' o,fnd ((s,TO.gone)::(ts.zrj D (TV.frz D s m z)).o) s'=some o->(s'=s∧o = .gone)∨(s'≠s∧∃o',fnd ts.o s'=some o'∧o=TO.map D (TV.frz D s m z) o'):=λs' o h=>by
  rw [kzl] at h
  split at h
  ·rename_i e;injection h with h;exact .inl ⟨e.symm,h.symm⟩
  ·rename_i e
   simp only [TS.zrj] at h
   rw [zwi (TO.map D (TV.frz D s m z)),Option.map_eq_some_iff] at h
   obtain ⟨o',h1,h2⟩:=h
   exact .inr ⟨λe'=>e e'.symm,o',h1,h2.symm⟩
 have hlive:∀o:TO D.T,(TO.map D (TV.frz D s m z) o).live->o.live:=λo h=>by cases o <;> first|exact h|trivial
 have old:∀s' o,fnd ((s,TO.gone)::(ts.zrj D (TV.frz D s m z)).o) s'=some o->o.live->s'≠s∧∃o',fnd ts.o s'=some o'∧o'.live∧o=TO.map D (TV.frz D s m z) o':=λs' o h hl=>by
  rcases hob s' o h with ⟨_,rfl⟩|⟨h1,o',h2,rfl⟩
  ·exact hl.elim
  ·exact ⟨h1,o',h2,hlive o' hl,rfl⟩
 refine ⟨hR.nx,c1.length.symm.trans hR.nt,λj x hj => ?_,λs' o h => ?_,λs1 s2 o1 o2 sl1 sl2 i h1 h2 l1 l2 r1 r2 => ?_,λs1 o1 sl1 i h1 l1 r1 => ?_,rfl,hR.E,hR.e0,(by simp only [TS.zrj,hd0,List.map_nil];rfl),λi hi => ?_,hR.pin⟩
 ·simp only [TS.zrj] at hj
  rw [zwi (TV.frz D s m z),Option.map_eq_some_iff] at hj
  obtain ⟨y,hy,rfl⟩:=hj
  obtain ⟨u,e1,e2⟩:=hR.tm j y hy
  have hlt:j<t'.length:=by rw [<-c1.length];exact (List.getElem?_eq_some_iff.1 e1).1
  exact ⟨t'[j],List.getElem?_eq_getElem hlt,c2 j y _ (by simpa using hy) (List.getElem?_eq_getElem hlt)⟩
 ·rcases hob s' o h with ⟨rfl,rfl⟩|⟨h1,o',h2,rfl⟩
  ·exact ⟨sl,k1,by simp only [OR]⟩
  ·obtain ⟨sl',m1,m2⟩:=hR.ob s' o' h2
   refine ⟨sl',m1,?_⟩
   by_cases hl:o'.live
   ·cases hk:sl'.k with
    |some i =>
     obtain ⟨ao,n1,n2⟩:=a4 s' o' sl' i (by rw [<-hR.nx];exact (List.getElem?_eq_some_iff.1 m1).1) h1 h2 hl m1 hk
     exact n2 L' (d1 _ n1)
    |none =>
     cases o' with
     |cells cs=>simp only [OR] at m2;obtain ⟨i,_,e,_⟩:=m2;rw [hk] at e;cases e
     |acc ty' t'' xs' w'=>simp only [OR,hk] at m2;simp only [TO.map,OR,hk];exact m2
     |siter l pos=>simp only [OR] at m2;obtain ⟨i,e,_⟩:=m2;rw [hk] at e;cases e
     |mp ty' t' es'=>simp only [OR] at m2;obtain ⟨i,_,e,_⟩:=m2;rw [hk] at e;cases e
     |mit t' last es'=>simp only [OR] at m2;obtain ⟨i,_,_,e,_⟩:=m2;rw [hk] at e;cases e
     |bld ty' b'=>simp only [OR] at m2;obtain ⟨i,_,_,e,_⟩:=m2;rw [hk] at e;cases e
     |gone=>simp only [TO.map,OR]
   ·cases o' with
    |gone=>simp only [TO.map,OR]
    |_=>exact (hl trivial).elim
 ·obtain ⟨_,o1',e1,f1,_⟩:=old s1 o1 h1 l1
  obtain ⟨_,o2',e2,f2,_⟩:=old s2 o2 h2 l2
  exact hR.inj s1 s2 o1' o2' sl1 sl2 i e1 e2 f1 f2 r1 r2
 ·obtain ⟨_,o1',e1,f1,_⟩:=old s1 o1 h1 l1
  exact hR.mine s1 o1' sl1 i e1 f1 r1
 ·obtain ⟨h1,h2⟩:=hR.out i hi
  exact ⟨by show i<L'.length;rw [d3];exact h1,(d4 i hi).trans h2⟩
theorem y3g {s:Nat} {ts':TS D.T} (hR:TRr D F ρ ts σ) (h:ts.freeze D s=some ts'):∃τ,zyo σ τ∧TRr D F ρ ts' τ:=by
 unfold TS.freeze at h
 split at h
 ·rename_i ty t xs w hd0 ho
  injection h with h;subst h
  have hd1:σ.d=[]:=by have:=hR.d;rw [hd0] at this;exact this
  obtain ⟨sl,k1,k2⟩:=hR.ob s _ ho
  have hor:=k2
  simp only [OR] at k2
  obtain ⟨q1,q2,q3⟩:=k2
  have hsn:s<ρ.length:=(List.getElem?_eq_some_iff.1 k1).1
  have hr:VR D ρ F.lv (.sl t xs 0) (.sl (D.len t) sl.ws false):=by
   simp only [VR]
   exact ⟨.sl t xs sl.ws false q1 q2,by omega,by omega⟩
  obtain ⟨os,os',a1,a2,a3,a4⟩:=ycr hR (s:=s) (m:=false) (z:=.sl t xs 0) (v0:=sl.v) (λq h=>by cases h) (λv h=>by
   simp only [VR] at h;obtain ⟨q,e1,e2,_⟩:=h;rw [k1] at e1;injection e1 with e1;subst e1;exact e2) hr ts.nx
  have hacc:zep F.lv σ.H.L [⟨ty,D.len t,sl.v,sl.ws,w⟩] os:=by
   refine ⟨⟨[sl.k],rfl,λj k a hj ha => ?_,λi j n hi hj => ?_,λp hp=>⟨(a3 p hp).1,λj hj => ?_⟩⟩,a2⟩
   ·cases j with
    |zero =>
     simp at hj ha;subst hj;subst ha
     cases hk:sl.k with
     |none=>rw [hk] at q3;exact q3.imp id λq=>⟨q.1.1,q.2⟩
     |some i=>rw [hk] at q3;obtain ⟨ver,cp,e1,e2⟩:=q3;exact ⟨ver,cp,e1,e2⟩
    |succ j=>simp at hj
   ·cases i <;> cases j <;> simp at hi hj <;> rfl
   ·obtain ⟨_,s',o,sl',b2,b3,b4,b5,b6,b7⟩:=a3 p hp
    cases j with
    |zero =>
     simp at hj
     exact b3 (hR.inj s' s o _ sl' sl p.1 b4 ho b5 trivial b6 k1 b7 hj)
    |succ j=>simp at hj
  obtain ⟨t',c1,c2⟩:=yfk (s:=s) (m:=false) (z:=.sl t xs 0) (v0:=sl.v) (λv h=>by
   simp only [VR] at h;obtain ⟨q,e1,e2,_⟩:=h;rw [k1] at e1;injection e1 with e1;subst e1;exact e2) hr (fnd ts.t) σ.t 0 λj x v hx hv=>by
   obtain ⟨u,e1,e2⟩:=hR.tm j x (by simpa using hx)
   rw [hv] at e1;injection e1 with e1;subst e1;exact e2
  obtain ⟨L',⟨d1,d2⟩,d3,d4⟩:=hacc.z00l (j:=0) rfl c1 a1 σ.H.E σ.e0
  have hσ:σ=⟨σ.t,⟨F.lv,σ.H.L,σ.H.E⟩,[],σ.e0⟩:=by
   have e1:=hR.lv;have e2:=hd1
   obtain ⟨t,⟨l,L,E⟩,d,e0⟩:=σ
   simp only at e1 e2;subst e1;subst e2;rfl
  rw [<-hσ] at d2
  refine ⟨_,d2,?_⟩
  refine ywo hR k1 hd0 a4 c1 c2 (λp' hp'=>d1.accs.get (by exact hp')) d3 λi hi => ?_
  refine d4 i (hR.out i hi).1 (λp hp e => ?_) λver n e => ?_
  ·obtain ⟨_,s',o,sl',b2,b3,b4,b5,b6,b7⟩:=a3 p hp
   exact hR.mine s' o sl' i b4 b5 b6 (by rw [b7,e]) hi
  ·cases hk:sl.k with
   |none=>rw [hk] at q3;rcases q3 with ⟨q,_⟩|⟨⟨q,_⟩,_⟩ <;> (rw [e] at q;cases q)
   |some j =>
    rw [hk] at q3
    obtain ⟨ver',cp,q,_⟩:=q3
    rw [e] at q;injection q with _ q;subst q
    exact hR.mine s _ sl i ho trivial k1 hk hi
 ·rename_i ty t es hd0 ho
  split at h
  case isFalse=>cases h
  rename_i hfl
  injection h with h;subst h
  have hd1:σ.d=[]:=by have:=hR.d;rw [hd0] at this;exact this
  obtain ⟨sl,k1,k2⟩:=hR.ob s _ ho
  simp only [OR] at k2
  obtain ⟨i,ms,q1,q2',q4,q3⟩:=k2
  have q2:=hfl
  have hr:VR D ρ F.lv (.mc t es) (.mapc (es.map λp=>(.str p.1,y94 t p.2))):=by unfold VR;exact ⟨q2,rfl⟩
  have hit:∀v,VR D ρ F.lv (match true with|true=>TV.map s|false=>TV.own s:TV D.T) v->v = .map F.lv i:=λv h=>by
   simp only [VR] at h;obtain ⟨q,i',e1,e2,e3⟩:=h;rw [k1] at e1;injection e1 with e1;subst e1;rw [q1] at e2;injection e2 with e2;subst e2;exact e3
  obtain ⟨os,os',a1,a2,a3,a4⟩:=ycr hR (s:=s) (m:=true) (z:=.mc t es) (λq h=>by cases h) hit hr ts.nx
  obtain ⟨t',c1,c2⟩:=yfk (s:=s) (m:=true) (z:=.mc t es) hit hr (fnd ts.t) σ.t 0 λj x v hx hv=>by
   obtain ⟨u,e1,e2⟩:=hR.tm j x (by simpa using hx)
   rw [hv] at e1;injection e1 with e1;subst e1;exact e2
  rw [<-hR.lv] at a1 c1
  have q3':σ.H.L[i]? = some (some (.map ((es.map λp=>((.str p.1:PV),y94 t p.2)).map λp=>(p.1.v,p.2.v)))):=by
   rw [q3,List.map_map,q2',List.map_map]
   congr 3
   exact List.map_congr_left λp hp=>by show _=(V.str p.1,(y94 t p.2.1).v);rw [z06g D q2,DR.flat q2 (q4 p hp)]
  obtain ⟨d1,d2,d3⟩:=z02p q3' hd1 a2 a1 (λp hp=>⟨(a3 p hp).1,λe=>by
   obtain ⟨_,s',o,sl',b2,b3,b4,b5,b6,b7⟩:=a3 p hp
   exact b3 (hR.inj s' s o _ sl' sl p.1 b4 ho b5 trivial b6 k1 b7 (by rw [e];exact q1))⟩) c1
  rw [hR.lv] at d1
  refine ⟨_,d1,?_⟩
  refine ywo hR k1 hd0 a4 c1 c2 d2 (zo4 _ _ _) λn hn => ?_
  refine d3 n (hR.out n hn).1 (λe => ?_) λp hp e => ?_
  ·subst e;exact hR.mine s _ sl n ho trivial k1 q1 hn
  ·obtain ⟨_,s',o,sl',b2,b3,b4,b5,b6,b7⟩:=a3 p hp
   exact hR.mine s' o sl' n b4 b5 b6 (by rw [b7,e]) hn
 ·cases h
end
end Go.Ab
namespace Go.Ab
open Go
set_option linter.unusedVariables false
set_option linter.unusedSimpArgs false
set_option linter.unusedSectionVars false
theorem HL.zsx {T:Nat->Type}:∀{a b:List DTy} (x:HL T a) (y:HL T b),HL.fst a (HL.app x y)=x
 |[],_,_,_=>rfl
 |_::_,_,x,y=>by simp only [HL.app,HL.fst];rw [HL.zsx];rfl
theorem HL.zsw {T:Nat->Type}:∀{a b:List DTy} (x:HL T a) (y:HL T b),HL.snd a (HL.app x y)=y
 |[],_,_,_=>rfl
 |_::_,_,x,y=>by simp only [HL.app,HL.snd];rw [HL.zsw]
section
variable (D : Dat) (n : Nat) (M : z9d D.T) (c : TV D.T)
theorem z053:y9l D n .any c M = .ok (M,()):=rfl
theorem z07y (t:DTy):y9l D n (.d t) c M=(match asD D t c with
 | .ok x=>.ok (M,(x,()))
 | .frz s=>.frz s
 | .bad=>.bad):=rfl
theorem z06o (f:Nat) (a b:List Sh) (f':Nat) (a' b':List (TV D.T)):y9l D n (.fn f a b) (.fn f' a' b') M=if f=f' then (match y0f D n a a' M with
 | .ok (M,x)=>match y0f D n b b' M with
   | .ok (M,y)=>.ok (M,HL.app x y)
   | .frz s=>.frz s
   | .bad=>.bad
 | .frz s=>.frz s
 | .bad=>.bad) else .bad:=rfl
theorem z01r (cs:List (TV D.T)) (sh:Sh) (l:List Sh):y0f D n (sh::l) (c::cs) M=(match y9l D n sh c M with
 | .ok (M,x)=>match y0f D n l cs M with
   | .ok (M,y)=>.ok (M,HL.app x y)
   | .frz s=>.frz s
   | .bad=>.bad
 | .frz s=>.frz s
 | .bad=>.bad):=rfl
variable (m : Nat → Nat)
theorem z06h (f:Nat) (a b:List Sh) (x:HL D.T (Sh.z7d a)) (y:HL D.T (Sh.z7d b)):zpj D m (.fn f a b) (HL.app x y) = .fn f (z7e D m a x) (z7e D m b y):=by
 show TV.fn f (z7e D m a (HL.fst _ (HL.app x y))) (z7e D m b (HL.snd _ (HL.app x y)))=_
 rw [HL.zsx,HL.zsw]
theorem z035 (sh:Sh) (l:List Sh) (x:HL D.T sh.tys) (y:HL D.T (Sh.z7d l)):z7e D m (sh::l) (HL.app x y)=zpj D m sh x::z7e D m l y:=by
 show zpj D m sh (HL.fst _ (HL.app x y))::z7e D m l (HL.snd _ (HL.app x y))=_
 rw [HL.zsx,HL.zsw]
end
theorem zc6 {α:Type}:∀{l:List (Nat×α)} {j:Nat} {a:α},fnd l j=some a->(j,a)∈l
 |[],j,a,h=>by simp [fnd] at h
 |(i,b)::r,j,a,h=>by
  rw [kzl] at h
  split at h
  · rename_i e;injection h with h;subst h;subst e;exact List.mem_cons_self
  · exact List.mem_cons_of_mem _ (zc6 h)
section
variable {P : Program} {D : Dat} {F : Fr} {ρ : List Slot} {ts : TS D.T} {σ : St} {lv : Nat} {T : Nat → Type}
def y0c:Slot:=⟨.nils,none,[]⟩
def Src.is (ρ:List Slot) (sl:Slot):Src T->Prop
 | .slot s=>ρ[s]? = some sl
 | .nil=>sl=y0c
def Agr (ρ:List Slot) (M:z9d T) (ρ':List Slot):Prop:=∀(k:Nat) (src:Src T),fnd M k=some src->∃sl,ρ'[k]? = some sl∧src.is ρ sl
structure MOk (n:Nat) (M:z9d T):Prop where
 lt:∀k src,fnd M k=some src->k<n
 inj:∀k k' s,fnd M k=some (.slot s)->fnd M k'=some (.slot s)->k=k'
 one:∀k src,(k,src)∈M->fnd M k=some src
def ypi (M M':z9d T):Prop:=∀k src,fnd M k=some src->fnd M' k=some src
theorem ypi.agr {M M':z9d T} (h:ypi M M') {ρ':List Slot} (k:Agr ρ M' ρ'):Agr ρ M ρ':=λj src hj=>k j src (h j src hj)
theorem zok {n k s:Nat} {M M':z9d T} (h:y54 n k s M=some M'):ypi M M'∧fnd M' k=some (.slot s)∧(MOk n M->MOk n M'):=by
 unfold y54 at h
 split at h
 ·rename_i s' hk
  split at h
  ·rename_i e;injection h with h;subst h;subst e;exact ⟨λ_ _ h=>h,hk,λh=>h⟩
  ·cases h
 ·cases h
 ·rename_i hk
  split at h
  ·rename_i hc
   injection h with h;subst h
   refine ⟨λj src hj => ?_,by rw [kzl,if_pos rfl],λhM=>⟨λj src hj => ?_,λj j' q hj hj' => ?_,λj src hm=>by
    rw [kzl]
    rcases List.mem_cons.1 hm with hm|hm
    ·injection hm with h1 h2;subst h1;subst h2;rw [if_pos rfl]
    ·have:=hM.one j src hm
     split
     ·rename_i e;subst e;rw [hk] at this;cases this
     ·exact this⟩⟩
   ·rw [kzl];split
    ·rename_i e;subst e;rw [hk] at hj;cases hj
    ·exact hj
   ·rw [kzl] at hj
    split at hj
    ·rename_i e;subst e;exact hc.1
    ·exact hM.lt j src hj
   ·have hno:∀j',fnd M j'≠some (.slot s):=λj' hj'=>by
     have:=List.all_eq_true.1 hc.2 _ (zc6 hj')
     simp [Src.z04y] at this
    rw [kzl] at hj hj'
    split at hj <;> split at hj'
    ·rename_i e1 e2;rw [<-e1,<-e2]
    ·injection hj with hj;injection hj with hj;subst hj;exact (hno _ hj').elim
    ·injection hj' with hj';injection hj' with hj';subst hj';exact (hno _ hj).elim
    ·exact hM.inj j j' q hj hj'
  ·cases h
theorem y83 {n k:Nat} {M M':z9d T} (h:ytz n k M=some M'):ypi M M'∧fnd M' k=some .nil∧(MOk n M->MOk n M'):=by
 unfold ytz at h
 split at h
 ·rename_i hk;injection h with h;subst h;exact ⟨λ_ _ h=>h,hk,λh=>h⟩
 ·cases h
 ·rename_i hk
  split at h
  ·rename_i hc
   injection h with h;subst h
   refine ⟨λj src hj => ?_,by rw [kzl,if_pos rfl],λhM=>⟨λj src hj => ?_,λj j' q hj hj' => ?_,λj src hm=>by
    rw [kzl]
    rcases List.mem_cons.1 hm with hm|hm
    ·injection hm with h1 h2;subst h1;subst h2;rw [if_pos rfl]
    ·have:=hM.one j src hm
     split
     ·rename_i e;subst e;rw [hk] at this;cases this
     ·exact this⟩⟩
   ·rw [kzl];split
    ·rename_i e;subst e;rw [hk] at hj;cases hj
    ·exact hj
   ·rw [kzl] at hj
    split at hj
    ·rename_i e;subst e;exact hc
    ·exact hM.lt j src hj
   ·rw [kzl] at hj hj'
    split at hj
    ·injection hj with hj;cases hj
    ·split at hj'
     ·injection hj' with hj';cases hj'
     ·exact hM.inj j j' q hj hj'
  ·cases h
theorem FR.inj {α:Type} {a b:α} (h:FR.ok a=FR.ok b):a=b:=by cases h;rfl
theorem FR.pair {α β:Type} {a c:α} {b d:β} (h:FR.ok (a,b)=FR.ok (c,d)):a=c∧b=d:=⟨congrArg Prod.fst (FR.inj h),congrArg Prod.snd (FR.inj h)⟩
theorem y2a {o:Option (z9d T)} {M:z9d T} {u:Unit} (h:frU o = .ok (M,u)):o=some M:=by
 unfold frU at h
 split at h
 ·injection h with h;injection h with h;rw [h]
 ·cases h
def y7g (D:Dat) (ρ:List Slot) (lv n:Nat) (M M':z9d D.T) (x:TV D.T) (v:V):Prop:=ypi M M'∧(MOk n M->MOk n M')∧∀ρ',Agr ρ M' ρ'->VR D ρ' lv x v
def FitL (D:Dat) (ρ:List Slot) (lv n:Nat) (M M':z9d D.T) (xs:List (TV D.T)) (vs:List V):Prop:=ypi M M'∧(MOk n M->MOk n M')∧∀ρ',Agr ρ M' ρ'->VRL D ρ' lv xs vs
variable (hD : D.Ok P)
include hD
mutual
theorem zqc {n:Nat}:∀(sh:Sh) {c:TV D.T} {v:V} {M M':z9d D.T} {x:HL D.T sh.tys},y9l D n sh c M = .ok (M',x)->VR D ρ lv c v->y7g D ρ lv n M M' (zpj D (λk=>k) sh x) v
 | .any,c,v,M,M',x,h,hv=>by
   rw [z053] at h
   cases h
   exact ⟨λ_ _ h=>h,λh=>h,λρ' _=>(by simp only [VR]:VR D ρ' lv .any v)⟩
 | .d t,c,v,M,M',x,h,hv=>by
   rw [z07y] at h
   split at h
   · rename_i y hy
     cases h
     exact ⟨λ_ _ h=>h,λh=>h,λρ' _=>(VR.tv hD (zpu hD hy hv):VR D ρ' lv (D.tv t y) v)⟩
   · cases h
   · cases h
 | .own k,c,v,M,M',x,h,hv=>by
   show y7g D ρ lv n M M' (.own k) v
   cases c <;> first|(cases h;done)|skip
   case own s =>
    obtain ⟨h1,h2,h3⟩:=zok (y2a h)
    refine ⟨h1,h3,λρ' ha => ?_⟩
    obtain ⟨sl,e1,e2⟩:=ha k _ h2
    simp only [Src.is] at e2
    simp only [VR] at hv
    obtain ⟨sl',e3,e4,e5⟩:=hv
    rw [e2] at e3;injection e3 with e3;subst e3
    simp only [VR]
    exact ⟨sl,e1,e4,e5⟩
   case nils =>
    obtain ⟨h1,h2,h3⟩:=y83 (y2a h)
    refine ⟨h1,h3,λρ' ha => ?_⟩
    obtain ⟨sl,e1,e2⟩:=ha k _ h2
    simp only [Src.is] at e2
    subst e2
    simp only [VR] at hv;subst hv
    simp only [VR]
    exact ⟨y0c,e1,rfl,rfl⟩
 | .ptr k off,c,v,M,M',x,h,hv=>by
   show y7g D ρ lv n M M' (.ptr k off) v
   cases c <;> first|(cases h;done)|skip
   case ptr s off' =>
    replace h:(if off=off' then frU (y54 n k s M) else .bad) = .ok (M',()):=h
    by_cases e:off=off'
    · rw [if_pos e] at h
      subst e
      obtain ⟨h1,h2,h3⟩:=zok (y2a h)
      refine ⟨h1,h3,λρ' ha => ?_⟩
      obtain ⟨sl,e1,e2⟩:=ha k _ h2
      simp only [Src.is] at e2
      simp only [VR] at hv
      obtain ⟨sl',i,e3,e4,e5⟩:=hv
      rw [e2] at e3;injection e3 with e3;subst e3
      simp only [VR]
      exact ⟨sl,i,e1,e4,e5⟩
    · rw [if_neg e] at h;cases h
 | .map k,c,v,M,M',x,h,hv=>by
   show y7g D ρ lv n M M' (.map k) v
   cases c <;> first|(cases h;done)|skip
   case map s =>
    obtain ⟨h1,h2,h3⟩:=zok (y2a h)
    refine ⟨h1,h3,λρ' ha => ?_⟩
    obtain ⟨sl,e1,e2⟩:=ha k _ h2
    simp only [Src.is] at e2
    simp only [VR] at hv
    obtain ⟨sl',i,e3,e4,e5⟩:=hv
    rw [e2] at e3;injection e3 with e3;subst e3
    simp only [VR]
    exact ⟨sl,i,e1,e4,e5⟩
 | .mc t,c,v,M,M',x,h,hv=>by
   cases c <;> first|(cases h;done)|skip
   case mc t' es =>
    replace h:(match zyr t' t es with|some es=>FR.ok (M,(List.map Prod.fst es,(List.map Prod.snd es,())))|none=>.bad) = .ok (M',x):=h
    cases hys:zyr t' t es with
    |none=>rw [hys] at h;cases h
    |some ys =>
     rw [hys] at h
     obtain ⟨e1,e2⟩:=y1o hys
     subst e1
     replace e2:ys=es:=e2
     subst e2
     cases h
     refine ⟨λ_ _ h=>h,λh=>h,λρ' ha => ?_⟩
     show VR D ρ' lv (.mc t' (List.zip (List.map Prod.fst ys) (List.map Prod.snd ys))) v
     rw [show List.zip (List.map Prod.fst ys) (List.map Prod.snd ys)=ys from y45 ys]
     unfold VR at hv ⊢
     exact hv
 | .bp k,c,v,M,M',x,h,hv=>by
   show y7g D ρ lv n M M' (.bp k 0) v
   cases c <;> first|(cases h;done)|skip
   case bp s off =>
    cases off with
    |succ off=>cases h
    |zero =>
    obtain ⟨h1,h2,h3⟩:=zok (y2a h)
    refine ⟨h1,h3,λρ' ha => ?_⟩
    obtain ⟨sl,e1,e2⟩:=ha k _ h2
    simp only [Src.is] at e2
    simp only [VR] at hv
    obtain ⟨sl',i,e3,e4,e5⟩:=hv
    rw [e2] at e3;injection e3 with e3;subst e3
    simp only [VR]
    exact ⟨sl,i,e1,e4,e5⟩
 | .nilp,c,v,M,M',x,h,hv=>by
   show y7g D ρ lv n M M' .nilp v
   cases c <;> first|(cases h;done)|skip
   cases h;exact ⟨λ_ _ h=>h,λh=>h,λρ' _=>by simpa only [VR] using hv⟩
 | .nilf,c,v,M,M',x,h,hv=>by
   show y7g D ρ lv n M M' .nilf v
   cases c <;> first|(cases h;done)|skip
   cases h;exact ⟨λ_ _ h=>h,λh=>h,λρ' _=>by simpa only [VR] using hv⟩
 | .nili,c,v,M,M',x,h,hv=>by
   show y7g D ρ lv n M M' .nili v
   cases c <;> first|(cases h;done)|skip
   cases h;exact ⟨λ_ _ h=>h,λh=>h,λρ' _=>by simpa only [VR] using hv⟩
 | .nils,c,v,M,M',x,h,hv=>by
   show y7g D ρ lv n M M' .nils v
   cases c <;> first|(cases h;done)|skip
   cases h;exact ⟨λ_ _ h=>h,λh=>h,λρ' _=>by simpa only [VR] using hv⟩
 | .fn f a b,c,v,M,M',x,h,hv=>by
   cases c <;> first|(cases h;done)|skip
   case fn f' a' b' =>
    rw [z06o] at h
    by_cases e:f=f'
    · rw [if_pos e] at h
      subst e
      split at h
      · rename_i M1 y hy
        split at h
        · rename_i M2 z hz
          cases h
          simp only [VR] at hv
          obtain ⟨as,bs,rfl,k1,k2⟩:=hv
          obtain ⟨a1,a2,a3⟩:=zi4 a hy k1
          obtain ⟨b1,b2,b3⟩:=zi4 b hz k2
          refine ⟨λj src hj=>b1 j src (a1 j src hj),λh=>b2 (a2 h),λρ' ha => ?_⟩
          rw [z06h]
          simp only [VR]
          exact ⟨as,bs,rfl,a3 ρ' (b1.agr ha),b3 ρ' ha⟩
        · cases h
        · cases h
      · cases h
      · cases h
    · rw [if_neg e] at h;cases h
 | .iface t s,c,v,M,M',x,h,hv=>by
   show y7g D ρ lv n M M' (.iface t (zpj D (λk=>k) s x)) v
   cases c <;> first|(cases h;done)|skip
   case iface t' y' =>
    replace h:(if t=t' then y9l D n s y' M else .bad) = .ok (M',x):=h
    by_cases e:t=t'
    · rw [if_pos e] at h
      subst e
      simp only [VR] at hv
      obtain ⟨y,rfl,k1⟩:=hv
      obtain ⟨a1,a2,a3⟩:=zqc s h k1
      exact ⟨a1,a2,λρ' ha=>by simp only [VR];exact ⟨y,rfl,a3 ρ' ha⟩⟩
    · rw [if_neg e] at h;cases h
 | .agg cs,c,v,M,M',x,h,hv=>by
   show y7g D ρ lv n M M' (.agg (z7e D (λk=>k) cs x)) v
   cases c <;> first|(cases h;done)|skip
   case agg vs =>
    replace h:y0f D n cs vs M = .ok (M',x):=h
    simp only [VR] at hv
    obtain ⟨y,rfl,k1⟩:=hv
    obtain ⟨a1,a2,a3⟩:=zi4 cs h k1
    exact ⟨a1,a2,λρ' ha=>by simp only [VR];exact ⟨y,rfl,a3 ρ' ha⟩⟩
 | .tup cs,c,v,M,M',x,h,hv=>by
   show y7g D ρ lv n M M' (.tup (z7e D (λk=>k) cs x)) v
   cases c <;> first|(cases h;done)|skip
   case tup vs =>
    replace h:y0f D n cs vs M = .ok (M',x):=h
    simp only [VR] at hv
    obtain ⟨y,rfl,k1⟩:=hv
    obtain ⟨a1,a2,a3⟩:=zi4 cs h k1
    exact ⟨a1,a2,λρ' ha=>by simp only [VR];exact ⟨y,rfl,a3 ρ' ha⟩⟩
 | .ref cs off,c,v,M,M',x,h,hv=>by
   show y7g D ρ lv n M M' (.ref (z7e D (λk=>k) cs x) off) v
   cases c <;> first|(cases h;done)|skip
   case ref vs off' =>
    replace h:(if off=off' then y0f D n cs vs M else .bad) = .ok (M',x):=h
    by_cases e:off=off'
    · rw [if_pos e] at h
      subst e
      simp only [VR] at hv
      obtain ⟨y,rfl,k1⟩:=hv
      obtain ⟨a1,a2,a3⟩:=zi4 cs h k1
      exact ⟨a1,a2,λρ' ha=>by simp only [VR];exact ⟨y,rfl,a3 ρ' ha⟩⟩
    · rw [if_neg e] at h;cases h
theorem zi4 {n:Nat}:∀(l:List Sh) {cs:List (TV D.T)} {vs:List V} {M M':z9d D.T} {x:HL D.T (Sh.z7d l)},y0f D n l cs M = .ok (M',x)->VRL D ρ lv cs vs->FitL D ρ lv n M M' (z7e D (λk=>k) l x) vs
 |[],cs,vs,M,M',x,h,hv=>by
  cases cs with
  |nil=>cases h;exact ⟨λ_ _ h=>h,λh=>h,λρ' _=>(by simpa only [VRL] using hv:VRL D ρ' lv [] vs)⟩
  |cons c cs=>cases h
 |sh::l,cs,vs,M,M',x,h,hv=>by
  cases cs with
  |nil=>cases h
  |cons c cs =>
   simp only [VRL] at hv
   obtain ⟨v,r,rfl,k1,k2⟩:=hv
   rw [z01r] at h
   split at h
   · rename_i M1 y hy
     split at h
     · rename_i M2 z hz
       cases h
       obtain ⟨a1,a2,a3⟩:=zqc sh hy k1
       obtain ⟨b1,b2,b3⟩:=zi4 l hz k2
       refine ⟨λj src hj=>b1 j src (a1 j src hj),λh=>b2 (a2 h),λρ' ha => ?_⟩
       rw [z035]
       simp only [VRL]
       exact ⟨v,r,rfl,a3 ρ' (b1.agr ha),b3 ρ' ha⟩
     · cases h
     · cases h
   · cases h
   · cases h
end
theorem yye {n:Nat} (hR:TRr D F ρ ts σ) {o:OSh} {src:Src D.T} {M M':z9d D.T} {x:HL D.T o.tys} (h:yiq D n ts o src M = .ok (M',x)) :
  ypi M M'∧(MOk n M->MOk n M')∧(∀s,src = .slot s->∃o',fnd ts.o s=some o'∧o'.live)∧∀ρ' sl,Agr ρ M' ρ'->src.is ρ sl->OR D ρ' F.lv σ.H.L sl (ztp D (λk=>k) o x):=by
 cases o with
 |cells cs =>
  cases src with
  |nil=>cases h
  |slot s =>
   simp only [yiq] at h
   cases ho:fnd ts.o s with
   |none=>rw [ho] at h;cases h
   |some o' =>
    rw [ho] at h
    cases o' <;> first|(cases h;done)|skip
    rename_i vs
    obtain ⟨sl',k1,k2⟩:=hR.ob s _ ho
    simp only [OR] at k2
    obtain ⟨i,us,q1,q2,q3⟩:=k2
    obtain ⟨a1,a2,a3⟩:=zi4 hD cs h q3
    refine ⟨a1,a2,λs' e=>by injection e with e;subst e;exact ⟨_,ho,trivial⟩,λρ' sl ha hs => ?_⟩
    simp only [Src.is] at hs
    rw [k1] at hs;injection hs with hs;subst hs
    simp only [ztp,OR]
    exact ⟨i,us,q1,q2,a3 ρ' ha⟩
 |st i =>
  cases src with
  |nil=>cases h
  |slot s =>
   simp only [yiq] at h
   cases ho:fnd ts.o s with
   |none=>rw [ho] at h;cases h
   |some o' =>
    rw [ho] at h
    cases o' <;> first|(cases h;done)|skip
    rename_i vs
    replace h:(match zkc D (D.fl i) vs with| .ok x=>FR.ok (M,(D.make i x,()))| .frz s=>.frz s| .bad=>.bad) = .ok (M',x):=h
    obtain ⟨sl',k1,k2⟩:=hR.ob s _ ho
    simp only [OR] at k2
    obtain ⟨i',us,q1,q2,q3⟩:=k2
    cases hl:zkc D (D.fl i) vs with
    |frz s=>rw [hl] at h;cases h
    |bad=>rw [hl] at h;cases h
    |ok y =>
     rw [hl] at h
     cases h
     refine ⟨λ_ _ h=>h,λh=>h,λs' e=>by injection e with e;subst e;exact ⟨_,ho,trivial⟩,λρ' sl ha hs => ?_⟩
     simp only [Src.is] at hs
     rw [k1] at hs;injection hs with hs;subst hs
     obtain ⟨m1,m2⟩:=zqd hl q3
     show OR D ρ' F.lv σ.H.L sl' (.cells (D.leaves (D.fl i) (D.get i (D.make i y))))
     rw [hD.getMake]
     simp only [OR]
     refine ⟨i',us,q1,q2,.of (by rw [zwg,m1]) λj c v hc hv => ?_⟩
     rw [zno,Option.map_eq_some_iff] at hc
     obtain ⟨p,hp,rfl⟩:=hc
     exact VR.leaf (m2 j p v hp hv)
 |acc ty t w =>
  cases src with
  |nil =>
   cases h
   refine ⟨λ_ _ h=>h,λh=>h,λs e=>(by cases e),λρ' sl ha hs => ?_⟩
   simp only [Src.is] at hs
   subst hs
   show OR D ρ' F.lv σ.H.L y0c (.acc ty t [] w)
   simp only [OR,y0c]
   exact ⟨rfl,λj x v hx=>by simp at hx,.inl ⟨trivial,trivial⟩⟩
  |slot s =>
   simp only [yiq] at h
   cases ho:fnd ts.o s with
   |none=>rw [ho] at h;cases h
   |some o' =>
    rw [ho] at h
    cases o' <;> first|(cases h;done)|skip
    rename_i ty' t' xs w'
    replace h:(if ty=ty'∧(w=true->w'=true) then (match zs9 t' t xs with|some xs=>FR.ok (M,(xs,()))|none=>.bad) else .bad) = .ok (M',x):=h
    by_cases hc:ty=ty'∧(w=true->w'=true)
    · rw [if_pos hc] at h
      cases hys:zs9 t' t xs with
      |none=>rw [hys] at h;cases h
      |some ys =>
       rw [hys] at h
       obtain ⟨e1,e2⟩:=zf5 hys
       subst e1
       replace e2:ys=xs:=e2
       subst e2
       cases h
       obtain ⟨sl',k1,k2⟩:=hR.ob s _ ho
       refine ⟨λ_ _ h=>h,λh=>h,λs' e=>by injection e with e;subst e;exact ⟨_,ho,trivial⟩,λρ' sl ha hs => ?_⟩
       simp only [Src.is] at hs
       rw [k1] at hs;injection hs with hs;subst hs
       obtain ⟨hty,hw⟩:=hc
       subst hty
       simp only [OR] at k2
       obtain ⟨q1,q2,q3⟩:=k2
       show OR D ρ' F.lv σ.H.L sl' (.acc ty t' ys w)
       simp only [OR]
       refine ⟨q1,q2,?_⟩
       cases hk:sl'.k with
       |none =>
        rw [hk] at q3
        rcases q3 with q|⟨q,q'⟩
        · exact .inl q
        · exact .inr ⟨q,λe=>q' (hw e)⟩
       |some i=>rw [hk] at q3;exact q3
    · rw [if_neg hc] at h;cases h
 |siter =>
  cases src with
  |nil=>cases h
  |slot s =>
   simp only [yiq] at h
   cases ho:fnd ts.o s with
   |none=>rw [ho] at h;cases h
   |some o' =>
    rw [ho] at h
    cases o' <;> first|(cases h;done)|skip
    rename_i l pos
    cases h
    obtain ⟨sl',k1,k2⟩:=hR.ob s _ ho
    refine ⟨λ_ _ h=>h,λh=>h,λs' e=>by injection e with e;subst e;exact ⟨_,ho,trivial⟩,λρ' sl ha hs => ?_⟩
    simp only [Src.is] at hs
    rw [k1] at hs;injection hs with hs;subst hs
    exact k2
 |mp ty t =>
  cases src with
  |nil=>cases h
  |slot s =>
   simp only [yiq] at h
   cases ho:fnd ts.o s with
   |none=>rw [ho] at h;cases h
   |some o' =>
    rw [ho] at h
    cases o' <;> first|(cases h;done)|skip
    rename_i ty' t' es
    replace h:(if ty=ty' then (match zyr t' t es with|some es=>FR.ok (M,(List.map Prod.fst es,(List.map Prod.snd es,())))|none=>.bad) else .bad) = .ok (M',x):=h
    by_cases hc:ty=ty'
    · rw [if_pos hc] at h
      cases hys:zyr t' t es with
      |none=>rw [hys] at h;cases h
      |some ys =>
       rw [hys] at h
       obtain ⟨e1,e2⟩:=y1o hys
       subst e1
       replace e2:ys=es:=e2
       subst e2
       cases h
       obtain ⟨sl',k1,k2⟩:=hR.ob s _ ho
       refine ⟨λ_ _ h=>h,λh=>h,λs' e=>by injection e with e;subst e;exact ⟨_,ho,trivial⟩,λρ' sl ha hs => ?_⟩
       simp only [Src.is] at hs
       rw [k1] at hs;injection hs with hs;subst hs
       subst hc
       show OR D ρ' F.lv σ.H.L sl' (.mp ty t' (List.zip (List.map Prod.fst ys) (List.map Prod.snd ys)))
       rw [show List.zip (List.map Prod.fst ys) (List.map Prod.snd ys)=ys from y45 ys]
       exact k2
    · rw [if_neg hc] at h;cases h
 |mit t =>
  cases src with
  |nil=>cases h
  |slot s =>
   simp only [yiq] at h
   cases ho:fnd ts.o s with
   |none=>rw [ho] at h;cases h
   |some o' =>
    rw [ho] at h
    cases o' <;> first|(cases h;done)|skip
    rename_i t' last es
    replace h:(match zyr t' t es with|some es=>FR.ok (M,(List.map Prod.fst es,(List.map Prod.snd es,())))|none=>.bad) = .ok (M',x):=h
    cases hys:zyr t' t es with
    |none=>rw [hys] at h;cases h
    |some ys =>
     rw [hys] at h
     obtain ⟨e1,e2⟩:=y1o hys
     subst e1
     replace e2:ys=es:=e2
     subst e2
     cases h
     obtain ⟨sl',k1,k2⟩:=hR.ob s _ ho
     refine ⟨λ_ _ h=>h,λh=>h,λs' e=>by injection e with e;subst e;exact ⟨_,ho,trivial⟩,λρ' sl ha hs => ?_⟩
     simp only [Src.is] at hs
     rw [k1] at hs;injection hs with hs;subst hs
     show OR D ρ' F.lv σ.H.L sl' (.mit t' none (List.zip (List.map Prod.fst ys) (List.map Prod.snd ys)))
     rw [show List.zip (List.map Prod.fst ys) (List.map Prod.snd ys)=ys from y45 ys]
     simp only [OR] at k2 ⊢
     obtain ⟨i,fs,vis,q1,q2,q3,q4,q5,_⟩:=k2
     exact ⟨i,fs,vis,q1,q2,q3,q4,q5,λp hp=>by cases hp⟩
 |bld ty k =>
  cases src with
  |nil=>cases h
  |slot s =>
   simp only [yiq] at h
   cases ho:fnd ts.o s with
   |none=>rw [ho] at h;cases h
   |some o' =>
    rw [ho] at h
    cases o' <;> first|(cases h;done)|skip
    rename_i ty' b
    replace h:(if ty=ty' then (match b with|some q=>frU (y54 n k q M)|none=>frU (ytz n k M)) else .bad) = .ok (M',x):=h
    by_cases hty:ty=ty'
    · rw [if_pos hty] at h
      subst hty
      obtain ⟨sl',k1,k2⟩:=hR.ob s _ ho
      simp only [OR] at k2
      obtain ⟨i,u,c,q1,q2,q3,q4⟩:=k2
      cases b with
      |some q =>
       obtain ⟨h1,h2,h3⟩:=zok (y2a h)
       refine ⟨h1,h3,λs' e=>by injection e with e;subst e;exact ⟨_,ho,trivial⟩,λρ' sl ha hs => ?_⟩
       simp only [Src.is] at hs
       rw [k1] at hs;injection hs with hs;subst hs
       obtain ⟨sq,e1,e2⟩:=ha k _ h2
       simp only [Src.is] at e2
       simp only [ypu,VR] at q4
       obtain ⟨sq',e3,e4,e5⟩:=q4
       rw [e2] at e3;injection e3 with e3;subst e3
       simp only [ztp,OR]
       exact ⟨i,u,c,q1,q2,q3,by simp only [ypu,VR];exact ⟨sq,e1,e4,e5⟩⟩
      |none =>
       obtain ⟨h1,h2,h3⟩:=y83 (y2a h)
       refine ⟨h1,h3,λs' e=>by injection e with e;subst e;exact ⟨_,ho,trivial⟩,λρ' sl ha hs => ?_⟩
       simp only [Src.is] at hs
       rw [k1] at hs;injection hs with hs;subst hs
       obtain ⟨sq,e1,e2⟩:=ha k _ h2
       simp only [Src.is] at e2
       subst e2
       simp only [ypu,VR] at q4
       subst q4
       simp only [ztp,OR]
       exact ⟨i,u,_,q1,q2,q3,by simp only [ypu,VR];exact ⟨y0c,e1,rfl,rfl⟩⟩
    · rw [if_neg hty] at h;cases h
omit hD in
theorem ynm {m:Nat->Nat} {o:OSh} {x:HL D.T o.tys}:(ztp D m o x).live:=by cases o <;> trivial
omit hD in
theorem z00c (n:Nat) (o:OSh) (os:List OSh) (k:Nat) (M:z9d D.T):yg8 D n ts (o::os) k M=(match fnd M k with
 |some src=>match yiq D n ts o src M with
  | .ok (M,x)=>match yg8 D n ts os (k+1) M with
    | .ok (M,y)=>.ok (M,HL.app x y)
    | .frz s=>.frz s
    | .bad=>.bad
  | .frz s=>.frz s
  | .bad=>.bad
 |none=>.bad):=rfl
omit hD in
theorem yxc (m:Nat->Nat) (o:OSh) (os:List OSh) (k:Nat) (x:HL D.T o.tys) (y:HL D.T (z3d os)):zbb D m (o::os) k (HL.app x y)=(m k,ztp D m o x)::zbb D m os (k+1) y:=by
 show (m k,ztp D m o (HL.fst _ (HL.app x y)))::zbb D m os (k+1) (HL.snd _ (HL.app x y))=_
 rw [HL.zsx,HL.zsw]
theorem zsj {n:Nat} (hR:TRr D F ρ ts σ):∀(os:List OSh) {k:Nat} {M M':z9d D.T} {x:HL D.T (z3d os)},yg8 D n ts os k M = .ok (M',x) ->
  ypi M M'∧(MOk n M->MOk n M')∧(∀j,j<os.length->∃src,fnd M' (k+j)=some src∧∀s,src = .slot s->∃o',fnd ts.o s=some o'∧o'.live) ∧
  (∀ρ',Agr ρ M' ρ'->∀j o,(j,o)∈zbb D (λk=>k) os k x->k<=j∧j<k+os.length∧o.live∧∃sl,ρ'[j]? = some sl∧OR D ρ' F.lv σ.H.L sl o)
 |[],k,M,M',x,h=>by
  cases h
  exact ⟨λ_ _ h=>h,λh=>h,λj hj=>by simp at hj,λρ' _ j o hm=>by cases hm⟩
 |o::os,k,M,M',x,h=>by
  rw [z00c] at h
  split at h
  · rename_i src hsrc
    split at h
    · rename_i M1 y hy
      split at h
      · rename_i M2 z hz
        cases h
        obtain ⟨a1,a2,a3,a4⟩:=yye hD hR hy
        obtain ⟨b1,b2,b3,b4⟩:=zsj hR os hz
        refine ⟨λj s hj=>b1 j s (a1 j s hj),λh=>b2 (a2 h),λj hj => ?_,λρ' ha j o' hm => ?_⟩
        · cases j with
          |zero=>exact ⟨src,b1 _ _ (a1 _ _ hsrc),a3⟩
          |succ j =>
           obtain ⟨src',e1,e2⟩:=b3 j (by simpa using hj)
           exact ⟨src',by rw [<-e1];congr 1;omega,e2⟩
        · rw [yxc] at hm
          rcases List.mem_cons.1 hm with hm|hm
          · injection hm with h1 h2
            subst h1;subst h2
            obtain ⟨sl,e1,e2⟩:=ha j src (b1 _ _ (a1 _ _ hsrc))
            exact ⟨Nat.le_refl _,by simp,ynm,sl,e1,a4 ρ' sl (b1.agr ha) e2⟩
          · obtain ⟨e1,e2,e3⟩:=b4 ρ' ha j o' hm
            exact ⟨by omega,by simp only [List.length_cons];omega,e3⟩
      · cases h
      · cases h
    · cases h
    · cases h
  · cases h
omit hD in
theorem yyq (n:Nat) (p:Nat×Sh) (l:List (Nat×Sh)) (M:z9d D.T):yuc D n ts (p::l) M=(match fnd ts.t p.1 with
 |some v=>match y9l D n p.2 v M with
  | .ok (M,x)=>match yuc D n ts l M with
    | .ok (M,y)=>.ok (M,HL.app x y)
    | .frz s=>.frz s
    | .bad=>.bad
  | .frz s=>.frz s
  | .bad=>.bad
 |none=>.bad):=rfl
omit hD in
theorem z02k (m:Nat->Nat) (p:Nat×Sh) (l:List (Nat×Sh)) (x:HL D.T p.2.tys) (y:HL D.T (tysT l)):yu0 D m (p::l) (HL.app x y)=(p.1,zpj D m p.2 x)::yu0 D m l y:=by
 show (p.1,zpj D m p.2 (HL.fst _ (HL.app x y)))::yu0 D m l (HL.snd _ (HL.app x y))=_
 rw [HL.zsx,HL.zsw]
theorem y8i {n:Nat} (hR:TRr D F ρ ts σ):∀(l:List (Nat×Sh)) {M M':z9d D.T} {x:HL D.T (tysT l)},yuc D n ts l M = .ok (M',x) ->
  ypi M M'∧(MOk n M->MOk n M')∧∀ρ',Agr ρ M' ρ'->∀j c,(j,c)∈yu0 D (λk=>k) l x->∃v,σ.t[j]? = some v∧VR D ρ' F.lv c v
 |[],M,M',x,h=>by
  cases h
  exact ⟨λ_ _ h=>h,λh=>h,λρ' _ j o hm=>by cases hm⟩
 |p::l,M,M',x,h=>by
  rw [yyq] at h
  split at h
  · rename_i c hc
    split at h
    · rename_i M1 y hy
      split at h
      · rename_i M2 z hz
        cases h
        obtain ⟨v,k1,k2⟩:=hR.tm _ _ hc
        obtain ⟨a1,a2,a3⟩:=zqc hD p.2 hy k2
        obtain ⟨b1,b2,b3⟩:=y8i hR l hz
        refine ⟨λj s hj=>b1 j s (a1 j s hj),λh=>b2 (a2 h),λρ' ha j c' hm => ?_⟩
        rw [z02k] at hm
        rcases List.mem_cons.1 hm with hm|hm
        · injection hm with h1 h2
          subst h1;subst h2
          exact ⟨v,k1,a3 ρ' (b1.agr ha)⟩
        · exact b3 ρ' ha j c' hm
      · cases h
      · cases h
    · cases h
    · cases h
  · cases h
omit hD in
theorem yxi (hR:TRr D F ρ ts σ) {M:z9d D.T} {n:Nat} (hM:MOk n M) (hall:∀j,j<n->∃src,fnd M j=some src∧∀s,src = .slot s->∃o',fnd ts.o s=some o'∧o'.live) :
  ∃ρ':List Slot,ρ'.length=n∧Agr ρ M ρ'∧∀j sl,ρ'[j]? = some sl->∃src,fnd M j=some src∧src.is ρ sl:=by
 have step:∀m,m<=n->∃ρ':List Slot,ρ'.length=m∧∀j,j<m->∃sl src,ρ'[j]? = some sl∧fnd M j=some src∧src.is ρ sl:=λm=>by
  induction m with
  |zero=>exact λ_=>⟨[],rfl,λj hj=>by omega⟩
  |succ m ih =>
   intro hm
   obtain ⟨ρ',h1,h2⟩:=ih (by omega)
   obtain ⟨src,k1,k2⟩:=hall m (by omega)
   have hsl:∃sl,src.is ρ sl:=by
    cases src with
    |nil=>exact ⟨y0c,rfl⟩
    |slot s =>
     obtain ⟨o',e1,_⟩:=k2 s rfl
     obtain ⟨sl,e2,_⟩:=hR.ob s o' e1
     exact ⟨sl,e2⟩
   obtain ⟨sl,hsl⟩:=hsl
   refine ⟨ρ'++[sl],by simp [h1],λj hj => ?_⟩
   by_cases e:j=m
   · subst e;exact ⟨sl,src,by rw [<-h1];simp,k1,hsl⟩
   · obtain ⟨sl',src',e1,e2,e3⟩:=h2 j (by omega)
     exact ⟨sl',src',lookup_append e1,e2,e3⟩
 obtain ⟨ρ',h1,h2⟩:=step n (Nat.le_refl _)
 refine ⟨ρ',h1,λk src hk => ?_,λj sl hj => ?_⟩
 ·obtain ⟨sl,src',e1,e2,e3⟩:=h2 k (hM.lt k src hk)
  rw [hk] at e2;injection e2 with e2;subst e2
  exact ⟨sl,e1,e3⟩
 ·obtain ⟨sl',src',e1,e2,e3⟩:=h2 j (by rw [<-h1];exact (List.getElem?_eq_some_iff.1 hj).1)
  rw [hj] at e1;injection e1 with e1;subst e1
  exact ⟨src',e2,e3⟩
omit hD in
theorem zo7:∀{n k:Nat} {src:Src T},fnd (pins n) k=some src->k<n∧src = .slot k
 |0,k,src,h=>by simp [pins,fnd] at h
 |n+1,k,src,h=>by
  simp only [pins,kzl] at h
  split at h
  · rename_i e;injection h with h;subst e;exact ⟨by omega,h.symm⟩
  · obtain ⟨h1,h2⟩:=zo7 h;exact ⟨by omega,h2⟩
omit hD in
theorem y6n:∀{n k:Nat},k<n->fnd (pins (T:=T) n) k=some (.slot k)
 |0,k,h=>by omega
 |n+1,k,h=>by
  simp only [pins,kzl]
  split
  · rename_i e;rw [e]
  · exact y6n (by omega)
omit hD in
theorem yc7:∀{n k:Nat} {src:Src T},(k,src)∈pins (T:=T) n->fnd (pins n) k=some src
 |0,k,src,h=>by cases h
 |n+1,k,src,h=>by
  simp only [pins,kzl]
  rcases List.mem_cons.1 h with h|h
  · injection h with h1 h2;subst h1;subst h2;rw [if_pos rfl]
  · have:=yc7 h
    split
    · rename_i e;subst e;have:=(zo7 this).1;omega
    · exact this
theorem LSh.zvz (hR:TRr D F ρ ts σ) {l:LSh} {x:HL D.T l.tys} (hp:F.pin.length<=l.pin) (hp2:l.pin<=l.os.length) (h:l.fit D ts = .ok x):∃ρ',TRr D F ρ' (l.bld D x) σ:=by
 unfold LSh.fit at h
 by_cases hnt0:ts.nt=l.nt∧ts.d.isEmpty=true
 rotate_left
 ·rw [if_neg hnt0] at h;cases h
 rw [if_pos hnt0] at h
 obtain ⟨hnt,hde⟩:=hnt0
 have hde:ts.d=[]:=by simpa using hde
 split at h
 ·rename_i M y hy
  split at h
  ·rename_i M' z hz
   cases h
   obtain ⟨a1,a2,a3⟩:=y8i hD hR l.ts hy
   obtain ⟨b1,b2,b3,b4⟩:=zsj hD hR l.os hz
   have hM:MOk l.os.length M':=b2 (a2 ⟨λk src h=>by have:=(zo7 h).1;omega,λk k' s h h'=>by have e:=(zo7 h).2;have e':=(zo7 h').2;injection e with e;injection e' with e';omega,λk src hm=>yc7 hm⟩)
   obtain ⟨ρ',c1,c2,c3⟩:=yxi hR hM λj hj=>by simpa using b3 j hj
   have hb:l.bld D (HL.app y z)=⟨yu0 D (λk=>k) l.ts y,zbb D (λk=>k) l.os 0 z,l.os.length,l.nt,[]⟩:=by
    show (⟨yu0 D (λk=>k) l.ts (HL.fst _ (HL.app y z)),zbb D (λk=>k) l.os 0 (HL.snd _ (HL.app y z)),l.os.length,l.nt,[]⟩:TS D.T)=_
    rw [HL.zsx,HL.zsw]
   rw [hb]
   have place:∀s sl i,ρ'[s]? = some sl->sl.k=some i->∃s0 o0,fnd M' s=some (.slot s0)∧fnd ts.o s0=some o0∧o0.live∧ρ[s0]? = some sl:=λs sl i hs hk=>by
    obtain ⟨src,e1,e2⟩:=c3 s sl hs
    cases src with
    |nil=>simp only [Src.is] at e2;subst e2;cases hk
    |slot s0 =>
     obtain ⟨src',e3,e4⟩:=b3 s (by rw [<-c1];exact (List.getElem?_eq_some_iff.1 hs).1)
     rw [Nat.zero_add,e1] at e3;injection e3 with e3;subst e3
     obtain ⟨o0,f1,f2⟩:=e4 s0 rfl
     exact ⟨s0,o0,e1,f1,f2,e2⟩
   refine ⟨ρ',c1,hR.nt.trans hnt,λj c hj=>a3 ρ' (b1.agr c2) j c (zc6 hj),λs o ho => ?_,λs s' o o' sl sl' i h1 h2 l1 l2 r1 r2 k1 k2 => ?_,λs o sl i h1 l1 r1 k1 => ?_,hR.lv,hR.E,hR.e0,(by have:=hR.d;rw [hde] at this;exact this),hR.out,λj sl hj => ?_⟩
   rotate_right
   ·have hlt:=(List.getElem?_eq_some_iff.1 hj).1
    obtain ⟨sl',e1,e2⟩:=c2 j _ (b1 _ _ (a1 _ _ (y6n (n:=l.pin) (k:=j) (by omega))))
    simp only [Src.is] at e2
    rw [hR.pin j sl hj] at e2;injection e2 with e2;subst e2;exact e1
   ·obtain ⟨_,_,_,sl,e1,e2⟩:=b4 ρ' c2 s o (zc6 ho)
    exact ⟨sl,e1,e2⟩
   ·obtain ⟨s0,o0,d1,d2,d3,d4⟩:=place s sl i r1 k1
    obtain ⟨s1,o1,e1,e2,e3,e4⟩:=place s' sl' i r2 k2
    have:=hR.inj s0 s1 o0 o1 sl sl' i d2 e2 d3 e3 d4 e4 k1 k2
    subst this
    exact hM.inj s s' s0 d1 e1
   ·obtain ⟨s0,o0,d1,d2,d3,d4⟩:=place s sl i r1 k1
    exact hR.mine s0 o0 sl i d2 d3 d4 k1
  ·cases h
  ·cases h
 ·cases h
 ·cases h
omit hD in
def TR (D:Dat) (F:Fr) (ts:TS D.T) (σ:St):Prop:=∃τ ρ,zyo σ τ∧TRr D F ρ ts τ
omit hD in
theorem TRr.tr (hR:TRr D F ρ ts σ):TR D F ts σ:=⟨σ,ρ,.refl σ,hR⟩
omit hD in
theorem TR.freeze (h:TR D F ts σ) {s:Nat} {ts':TS D.T} (hf:ts.freeze D s=some ts'):TR D F ts' σ:=by
 obtain ⟨τ,ρ,h1,h2⟩:=h
 obtain ⟨υ,h3,h4⟩:=y3g h2 hf
 exact ⟨υ,ρ,h1.trans h3,h4⟩
theorem LSh.zlb {R:Type} {l:LSh} (hp:F.pin.length<=l.pin) (hp2:l.pin<=l.os.length) {k:HL D.T l.tys->Option R} {r:R}:∀{f:Nat} {ts:TS D.T},TR D F ts σ->LSh.enter D l k f ts=some r->∃x,k x=some r∧TR D F (l.bld D x) σ
 |0,ts,hT,h=>by simp [LSh.enter] at h
 |f+1,ts,hT,h=>by
  simp only [LSh.enter] at h
  split at h
  · rename_i x hx
    obtain ⟨τ,ρ,h1,h2⟩:=hT
    obtain ⟨ρ',h3⟩:=LSh.zvz hD h2 hp hp2 hx
    exact ⟨x,h,τ,ρ',h1,h3⟩
  · split at h
    · rename_i s _ ts' hf
      obtain ⟨x,h1,h2⟩:=LSh.zlb hp hp2 (hT.freeze hf) h
      exact ⟨x,h1,h2⟩
    · cases h
  · cases h
end
end Go.Ab
namespace Go.Ab
open Go
set_option linter.unusedVariables false
set_option linter.unusedSimpArgs false
set_option linter.unusedSectionVars false
section
variable {P : Program} {D : Dat} {F : Fr} {ρ : List Slot} {ts : TS D.T} {σ : St} {lv : Nat} {T : Nat → Type}
theorem y2k {α:Type}:∀(a b:List (Nat×α)) (j:Nat),fnd (a++b) j=match fnd a j with|some x=>some x|none=>fnd b j
 |[],b,j=>rfl
 |(i,x)::a,b,j=>by
  rw [List.cons_append,kzl,kzl]
  split
  · rfl
  · exact y2k a b j
theorem VR.zq0 {ρ':List Slot} {lv':Nat} {t:DTy} {x:t.S D.T} {v:V} (h:VR D ρ lv (D.leaf t x) v):VR D ρ' lv' (D.leaf t x) v:=by
 cases t <;> first|(simp only [Dat.leaf,VR];done)|simpa only [Dat.leaf,VR] using h
theorem VR.data {ρ':List Slot} {lv':Nat} {t:DTy} {x:t.S D.T} {v:V} (hD:D.Ok P) (h:VR D ρ lv (D.tv t x) v):VR D ρ' lv' (D.tv t x) v:=by
 cases t with
 |st i =>
  simp only [Dat.tv,VR] at h ⊢
  obtain ⟨vs,rfl,h⟩:=h
  refine ⟨vs,rfl,.of h.length λj c v hc hv => ?_⟩
  have:=h.ylf hc hv
  rw [zno,Option.map_eq_some_iff] at hc
  obtain ⟨p,hp,rfl⟩:=hc
  exact VR.zq0 this
 |bool=>exact VR.zq0 (t:=.bool) h
 |int k=>exact VR.zq0 (t:=.int k) h
 |str=>exact VR.zq0 (t:=.str) h
 |nat=>exact VR.zq0 (t:=.nat) (x:=x) h
 |sl t=>exact VR.zq0 (t:=.sl t) h
def Maps (m:Nat->Nat) (ρ ρ':List Slot):Prop:=∀(j:Nat) (sl:Slot),ρ[j]? = some sl->ρ'[m j]? = some sl
variable {m : Nat → Nat} {ρ' : List Slot}
mutual
theorem VR.maps (hm:Maps m ρ ρ') (hD:D.Ok P):∀(sh:Sh) {x:HL D.T sh.tys} {v:V},VR D ρ lv (zpj D (λk=>k) sh x) v->VR D ρ' lv (zpj D m sh x) v
 | .any,x,v,h=>(by simp only [VR]:VR D ρ' lv .any v)
 | .d t,x,v,h=>by
   replace h:VR D ρ lv (D.tv t x.1) v:=h
   show VR D ρ' lv (D.tv t x.1) v
   exact VR.data hD h
 | .own k,x,v,h=>by
   replace h:VR D ρ lv (.own k) v:=h
   show VR D ρ' lv (.own (m k)) v
   simp only [VR] at h ⊢
   obtain ⟨sl,h1,h2⟩:=h
   exact ⟨sl,hm k sl h1,h2⟩
 | .ptr k off,x,v,h=>by
   replace h:VR D ρ lv (.ptr k off) v:=h
   show VR D ρ' lv (.ptr (m k) off) v
   simp only [VR] at h ⊢
   obtain ⟨sl,i,h1,h2⟩:=h
   exact ⟨sl,i,hm k sl h1,h2⟩
 | .map k,x,v,h=>by
   replace h:VR D ρ lv (.map k) v:=h
   show VR D ρ' lv (.map (m k)) v
   simp only [VR] at h ⊢
   obtain ⟨sl,i,h1,h2⟩:=h
   exact ⟨sl,i,hm k sl h1,h2⟩
 | .mc t,x,v,h=>by
   replace h:VR D ρ lv (.mc t (List.zip x.1 x.2.1)) v:=h
   show VR D ρ' lv (.mc t (List.zip x.1 x.2.1)) v
   unfold VR at h ⊢
   exact h
 | .bp k,x,v,h=>by
   replace h:VR D ρ lv (.bp k 0) v:=h
   show VR D ρ' lv (.bp (m k) 0) v
   simp only [VR] at h ⊢
   obtain ⟨sl,i,h1,h2⟩:=h
   exact ⟨sl,i,hm k sl h1,h2⟩
 | .nilp,x,v,h=>by
   replace h:VR D ρ lv .nilp v:=h
   show VR D ρ' lv .nilp v
   simpa only [VR] using h
 | .nilf,x,v,h=>by
   replace h:VR D ρ lv .nilf v:=h
   show VR D ρ' lv .nilf v
   simpa only [VR] using h
 | .nili,x,v,h=>by
   replace h:VR D ρ lv .nili v:=h
   show VR D ρ' lv .nili v
   simpa only [VR] using h
 | .nils,x,v,h=>by
   replace h:VR D ρ lv .nils v:=h
   show VR D ρ' lv .nils v
   simpa only [VR] using h
 | .fn f a b,x,v,h=>by
   replace h:VR D ρ lv (.fn f (z7e D (λk=>k) a (HL.fst _ x)) (z7e D (λk=>k) b (HL.snd _ x))) v:=h
   show VR D ρ' lv (.fn f (z7e D m a (HL.fst _ x)) (z7e D m b (HL.snd _ x))) v
   simp only [VR] at h ⊢
   obtain ⟨as,bs,h1,h2,h3⟩:=h
   exact ⟨as,bs,h1,VRL.maps hm hD a h2,VRL.maps hm hD b h3⟩
 | .iface t s,x,v,h=>by
   replace h:VR D ρ lv (.iface t (zpj D (λk=>k) s x)) v:=h
   show VR D ρ' lv (.iface t (zpj D m s x)) v
   simp only [VR] at h ⊢
   obtain ⟨y,h1,h2⟩:=h
   exact ⟨y,h1,VR.maps hm hD s h2⟩
 | .agg cs,x,v,h=>by
   replace h:VR D ρ lv (.agg (z7e D (λk=>k) cs x)) v:=h
   show VR D ρ' lv (.agg (z7e D m cs x)) v
   simp only [VR] at h ⊢
   obtain ⟨y,h1,h2⟩:=h
   exact ⟨y,h1,VRL.maps hm hD cs h2⟩
 | .tup cs,x,v,h=>by
   replace h:VR D ρ lv (.tup (z7e D (λk=>k) cs x)) v:=h
   show VR D ρ' lv (.tup (z7e D m cs x)) v
   simp only [VR] at h ⊢
   obtain ⟨y,h1,h2⟩:=h
   exact ⟨y,h1,VRL.maps hm hD cs h2⟩
 | .ref cs off,x,v,h=>by
   replace h:VR D ρ lv (.ref (z7e D (λk=>k) cs x) off) v:=h
   show VR D ρ' lv (.ref (z7e D m cs x) off) v
   simp only [VR] at h ⊢
   obtain ⟨y,h1,h2⟩:=h
   exact ⟨y,h1,VRL.maps hm hD cs h2⟩
theorem VRL.maps (hm:Maps m ρ ρ') (hD:D.Ok P):∀(l:List Sh) {x:HL D.T (Sh.z7d l)} {vs:List V},VRL D ρ lv (z7e D (λk=>k) l x) vs->VRL D ρ' lv (z7e D m l x) vs
 |[],x,vs,h=>by
  replace h:VRL D ρ lv [] vs:=h
  show VRL D ρ' lv [] vs
  simpa only [VRL] using h
 |sh::l,x,vs,h=>by
  replace h:VRL D ρ lv (zpj D (λk=>k) sh (HL.fst _ x)::z7e D (λk=>k) l (HL.snd _ x)) vs:=h
  show VRL D ρ' lv (zpj D m sh (HL.fst _ x)::z7e D m l (HL.snd _ x)) vs
  simp only [VRL] at h ⊢
  obtain ⟨v,r,h1,h2,h3⟩:=h
  exact ⟨v,r,h1,VR.maps hm hD sh h2,VRL.maps hm hD l h3⟩
end
theorem OR.maps (hm:Maps m ρ ρ') (hD:D.Ok P) {L:List (Option kz7)} {sl:Slot} {o:OSh} {x:HL D.T o.tys} (h:OR D ρ lv L sl (ztp D (λk=>k) o x)):OR D ρ' lv L sl (ztp D m o x):=by
 cases o with
 |cells cs =>
  simp only [ztp,OR] at h ⊢
  obtain ⟨i,vs,h1,h2,h3⟩:=h
  exact ⟨i,vs,h1,h2,VRL.maps hm hD cs h3⟩
 |st i =>
  simp only [ztp,OR] at h ⊢
  obtain ⟨j,vs,h1,h2,h3⟩:=h
  refine ⟨j,vs,h1,h2,.of h3.length λk c v hc hv => ?_⟩
  have:=h3.ylf hc hv
  rw [zno,Option.map_eq_some_iff] at hc
  obtain ⟨p,hp,rfl⟩:=hc
  exact VR.zq0 this
 |acc ty t w=>exact h
 |siter=>exact h
 |mp ty t=>exact h
 |mit t=>exact h
 |bld ty k =>
  simp only [ztp,OR] at h ⊢
  obtain ⟨i,u,c,h1,h2,h3,h4⟩:=h
  refine ⟨i,u,c,h1,h2,h3,?_⟩
  simp only [ypu,VR] at h4 ⊢
  obtain ⟨sl,k1,k2⟩:=h4
  exact ⟨sl,hm k sl k1,k2⟩
theorem zy5:∀(os:List OSh) {k:Nat} {x:HL D.T (z3d os)} {s:Nat} {o:TO D.T},(s,o)∈zbb D m os k x->∃j,k<=j∧j<k+os.length∧s=m j∧∃(osh:OSh) (y:HL D.T osh.tys),o=ztp D m osh y∧(j,ztp D (λk=>k) osh y)∈zbb D (λk=>k) os k x
 |[],k,x,s,o,h=>by cases h
 |osh::os,k,x,s,o,h=>by
  replace h:(s,o)∈(m k,ztp D m osh (HL.fst _ x))::zbb D m os (k+1) (HL.snd _ x):=h
  rcases List.mem_cons.1 h with h|h
  · injection h with h1 h2
    exact ⟨k,Nat.le_refl _,by simp,h1,osh,HL.fst _ x,h2,List.mem_cons_self⟩
  · obtain ⟨j,h1,h2,h3,osh',y,h4,h5⟩:=zy5 os h
    exact ⟨j,by omega,by simp only [List.length_cons];omega,h3,osh',y,h4,List.mem_cons_of_mem _ h5⟩
theorem zys:∀{M:z9d D.T} {s:Nat} {o:TO D.T},fnd (zny D M) s=some o->o = .gone∧∃k,(k,Src.slot s)∈M
 |[],s,o,h=>by simp [zny,fnd] at h
 |(k,.slot s')::M,s,o,h=>by
  simp only [zny,kzl] at h
  split at h
  · rename_i e;injection h with h;subst e;exact ⟨h.symm,k,List.mem_cons_self⟩
  · obtain ⟨h1,k',h2⟩:=zys h;exact ⟨h1,k',List.mem_cons_of_mem _ h2⟩
 |(k,.nil)::M,s,o,h=>by
  simp only [zny] at h
  obtain ⟨h1,k',h2⟩:=zys h
  exact ⟨h1,k',List.mem_cons_of_mem _ h2⟩
theorem zw2:∀{M:z9d D.T} {s:Nat},fnd (zny D M) s=none->∀k,(k,Src.slot s)∉M
 |[],s,h,k,hm=>by cases hm
 |(k',.slot s')::M,s,h,k,hm=>by
  simp only [zny,kzl] at h
  split at h
  · cases h
  · rename_i e
    rcases List.mem_cons.1 hm with hm|hm
    · injection hm with _ hm;injection hm with hm;exact e hm.symm
    · exact zw2 h k hm
 |(k',.nil)::M,s,h,k,hm=>by
  simp only [zny] at h
  rcases List.mem_cons.1 hm with hm|hm
  · injection hm with _ hm;cases hm
  · exact zw2 h k hm
structure Left (D:Dat) (lv:Nat) (L:List (Option kz7)) (ρ:List Slot) (p:Nat) (L':List (Option kz7)) (ρ':List Slot) (os:List OSh) (y:HL D.T (z3d os)):Prop where
 len:ρ'.length=os.length
 ob:∀j o,(j,o)∈zbb D (λk=>k) os 0 y->∃sl,ρ'[j]? = some sl∧OR D ρ' lv L' sl o
 inj:∀(s s':Nat) (sl sl':Slot) (i:Nat),ρ'[s]? = some sl->ρ'[s']? = some sl'->sl.k=some i->sl'.k=some i->s=s'
 mine:∀(s:Nat) (sl:Slot) (i:Nat),ρ'[s]? = some sl->sl.k=some i->L.length<=i∨∃(k:Nat) (sl0:Slot),ρ[k]? = some sl0∧sl0.k=some i
 out:∀i,i<L.length->(∀(k:Nat) (sl0:Slot),ρ[k]? = some sl0->sl0.k≠some i)->i<L'.length∧L'[i]? = L[i]?
 pin:∀(j:Nat) (sl:Slot),j<p->ρ[j]? = some sl->ρ'[j]? = some sl
theorem TRr.after (hR:TRr D F ρ ts σ) (hD:D.Ok P) {M:z9d D.T} {n p:Nat} (hM:MOk n M) {ρ0:List Slot} (hA:Agr ρ M ρ0) (h0:∀j sl,ρ0[j]? = some sl->∃src,fnd M j=some src∧src.is ρ sl∧∀s,src = .slot s->∃o',fnd ts.o s=some o'∧o'.live)
  (hMk:∀k s,(k,Src.slot s)∈M->fnd M k=some (.slot s)) (hp:∀k,k<p->∃s,fnd M k=some (.slot s)) {L':List (Option kz7)} {ρ':List Slot} {os:List OSh} {y:HL D.T (z3d os)} (hpo:p<=os.length) (hL:Left D F.lv σ.H.L ρ0 p L' ρ' os y) :
  TRr D F (ρ++ρ'.drop p) (zg8 D M p ts os y) {σ with H:=⟨F.lv,L',F.E⟩}∧Maps (zdw D M p ts.nx) ρ' (ρ++ρ'.drop p):=by
 have hmaps:Maps (zdw D M p ts.nx) ρ' (ρ++ρ'.drop p):=λj sl hj=>by
  unfold zdw
  by_cases hjp:j<p
  ·rw [if_pos hjp]
   obtain ⟨s,hs⟩:=hp j hjp
   obtain ⟨sl0,e1,e2⟩:=hA j _ hs
   have:=hL.pin j sl0 hjp e1
   rw [hj] at this;injection this with this;subst this
   rw [hs]
   exact lookup_append e2
  ·rw [if_neg hjp,<-hR.nx,List.getElem?_append_right (by omega),List.getElem?_drop]
   rw [<-hj];congr 1;omega
 have minj:∀j j',j<os.length->j'<os.length->zdw D M p ts.nx j=zdw D M p ts.nx j'->j=j':=λj j' hj hj' h=>by
  unfold zdw at h
  have low:∀j s,fnd M j=some (.slot s)->s<ts.nx:=λj s hs=>by
   obtain ⟨sl0,e1,e2⟩:=hA j _ hs
   rw [<-hR.nx]
   exact (List.getElem?_eq_some_iff.1 e2).1
  by_cases h1:j<p <;> by_cases h2:j'<p
  ·rw [if_pos h1,if_pos h2] at h
   obtain ⟨s,hs⟩:=hp j h1
   obtain ⟨s',hs'⟩:=hp j' h2
   rw [hs,hs'] at h
   simp only at h
   subst h
   exact hM.inj j j' s hs hs'
  ·obtain ⟨s,hs⟩:=hp j h1;rw [if_pos h1,if_neg h2,hs] at h;simp only at h;have:=low j s hs;omega
  ·obtain ⟨s,hs⟩:=hp j' h2;rw [if_neg h1,if_pos h2,hs] at h;simp only at h;have:=low j' s hs;omega
  ·rw [if_neg h1,if_neg h2] at h;omega
 have kinds:∀s o,fnd (zg8 D M p ts os y).o s=some o->(∃j,j<os.length∧s=zdw D M p ts.nx j∧∃(osh:OSh) (z:HL D.T osh.tys),o=ztp D (zdw D M p ts.nx) osh z∧(j,ztp D (λk=>k) osh z)∈zbb D (λk=>k) os 0 y)∨(o = .gone∧∃k,(k,Src.slot s)∈M)∨(fnd ts.o s=some o∧∀k,(k,Src.slot s)∉M):=λs o h=>by
  simp only [zg8] at h
  rw [y2k] at h
  split at h
  ·rename_i o' ho'
   injection h with h;subst h
   obtain ⟨j,h1,h2,h3,h4⟩:=zy5 os (zc6 ho')
   exact .inl ⟨j,by omega,h3,h4⟩
  ·rw [y2k] at h
   split at h
   ·rename_i o' ho'
    injection h with h;subst h
    obtain ⟨h1,h2⟩:=zys ho'
    exact .inr (.inl ⟨h1,h2⟩)
   ·rename_i hn
    exact .inr (.inr ⟨h,zw2 hn⟩)
 have apart:∀s o sl i,fnd ts.o s=some o->o.live->(∀k,(k,Src.slot s)∉M)->ρ[s]? = some sl->sl.k=some i->∀(k:Nat) (sl0:Slot),ρ0[k]? = some sl0->sl0.k≠some i:=λs o sl i ho hl hno hs hk k sl0 h1 h2=>by
  obtain ⟨src,e1,e2,e3⟩:=h0 k sl0 h1
  cases src with
  |nil=>simp only [Src.is] at e2;subst e2;cases h2
  |slot s0 =>
   obtain ⟨o',f1,f2⟩:=e3 s0 rfl
   have:=hR.inj s s0 o o' sl sl0 i ho f1 hl f2 hs e2 hk h2
   subst this
   exact hno k (zc6 e1)
 have passed:∀(k:Nat) (sl0:Slot) (i:Nat),ρ0[k]? = some sl0->sl0.k=some i->¬F.out i:=λk sl0 i h1 h2=>by
  obtain ⟨src,e1,e2,e3⟩:=h0 k sl0 h1
  cases src with
  |nil=>simp only [Src.is] at e2;subst e2;cases h2
  |slot s0 =>
   obtain ⟨o',f1,f2⟩:=e3 s0 rfl
   exact hR.mine s0 o' sl0 i f1 f2 e2 h2
 have oldlt:∀s o sl i,fnd ts.o s=some o->o.live->ρ[s]? = some sl->sl.k=some i->i<σ.H.L.length:=λs o sl i ho hl hs hk=>by
  obtain ⟨q,h1,h2⟩:=hR.ob s o ho
  rw [hs] at h1;injection h1 with h1;subst h1
  exact h2.lt hl hk
 have slotOld:∀s o sl,fnd ts.o s=some o->(ρ++ρ'.drop p)[s]? = some sl->ρ[s]? = some sl:=λs o sl ho h=>by
  obtain ⟨q,h1,h2⟩:=hR.ob s o ho
  rw [lookup_append h1] at h;rw [h1,h]
 have slotNew:∀j sl,j<os.length->(ρ++ρ'.drop p)[zdw D M p ts.nx j]? = some sl->ρ'[j]? = some sl:=λj sl hj h=>by
  have hlt:j<ρ'.length:=by rw [hL.len];exact hj
  have:=hmaps j ρ'[j] (List.getElem?_eq_getElem hlt)
  rw [this] at h;injection h with h;rw [<-h];exact List.getElem?_eq_getElem hlt
 refine ⟨⟨?_,hR.nt,λj x hj => ?_,λs o ho => ?_,λs s' o o' sl sl' i h1 h2 l1 l2 r1 r2 k1 k2 => ?_,λs o sl i h1 l1 r1 k1 => ?_,rfl,rfl,hR.e0,hR.d.more _,λi hi => ?_,λj sl hj=>lookup_append (hR.pin j sl hj)⟩,hmaps⟩
 ·simp only [zg8,List.length_append,List.length_drop,hL.len,hR.nx]
 ·obtain ⟨v,h1,h2⟩:=hR.tm j x hj
  exact ⟨v,h1,h2.more _⟩
 ·rcases kinds s o ho with ⟨j,h1,h2,osh,z,h3,h4⟩|⟨rfl,k,h1⟩|⟨h1,h2⟩
  ·obtain ⟨sl,e1,e2⟩:=hL.ob j _ h4
   refine ⟨sl,by rw [h2];exact hmaps j sl e1,?_⟩
   rw [h3];exact OR.maps hmaps hD e2
  ·obtain ⟨sl0,e1,e2⟩:=hA k _ (hMk k s h1)
   exact ⟨sl0,lookup_append e2,by simp only [OR]⟩
  ·obtain ⟨q,e1,e2⟩:=hR.ob s o h1
   exact ⟨q,lookup_append e1,e2.mono _ λi hi hl=>(hL.out i (e2.lt hl hi) (apart s o q i h1 hl h2 e1 hi)).2⟩
 ·rcases kinds s o h1 with ⟨j,a1,a2,osh,z,a3,a4⟩|⟨rfl,k,a1⟩|⟨a1,a2⟩
  ·rcases kinds s' o' h2 with ⟨j',b1,b2,osh',z',b3,b4⟩|⟨rfl,k',b1⟩|⟨b1,b2⟩
   ·rw [a2,b2]
    congr 1
    rw [a2] at r1;rw [b2] at r2
    exact hL.inj j j' sl sl' i (slotNew j sl a1 r1) (slotNew j' sl' b1 r2) k1 k2
   ·exact l2.elim
   ·exfalso
    rw [a2] at r1
    have q2:=slotOld s' o' sl' b1 r2
    rcases hL.mine j sl i (slotNew j sl a1 r1) k1 with h|⟨k,sl0,e1,e2⟩
    ·have:=oldlt s' o' sl' i b1 l2 q2 k2;omega
    ·exact apart s' o' sl' i b1 l2 b2 q2 k2 k sl0 e1 e2
  ·exact l1.elim
  ·rcases kinds s' o' h2 with ⟨j',b1,b2,osh',z',b3,b4⟩|⟨rfl,k',b1⟩|⟨b1,b2⟩
   ·exfalso
    rw [b2] at r2
    have q1:=slotOld s o sl a1 r1
    rcases hL.mine j' sl' i (slotNew j' sl' b1 r2) k2 with h|⟨k,sl0,e1,e2⟩
    ·have:=oldlt s o sl i a1 l1 q1 k1;omega
    ·exact apart s o sl i a1 l1 a2 q1 k1 k sl0 e1 e2
   ·exact l2.elim
   ·exact hR.inj s s' o o' sl sl' i a1 b1 l1 l2 (slotOld _ _ _ a1 r1) (slotOld _ _ _ b1 r2) k1 k2
 ·rcases kinds s o h1 with ⟨j,a1,a2,osh,z,a3,a4⟩|⟨rfl,k,a1⟩|⟨a1,a2⟩
  ·rw [a2] at r1
   rcases hL.mine j sl i (slotNew j sl a1 r1) k1 with h|⟨k,sl0,e1,e2⟩
   ·intro ho;have:=(hR.out i ho).1;omega
   ·exact passed k sl0 i e1 e2
  ·exact l1.elim
  ·exact hR.mine s o sl i a1 l1 (slotOld _ _ _ a1 r1) k1
 ·obtain ⟨h1,h2⟩:=hR.out i hi
  obtain ⟨h3,h4⟩:=hL.out i h1 λk sl0 e1 e2=>passed k sl0 i e1 e2 hi
  exact ⟨h3,h4.trans h2⟩
end
end Go.Ab
