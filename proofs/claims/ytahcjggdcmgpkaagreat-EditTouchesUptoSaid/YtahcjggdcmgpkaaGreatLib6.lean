/-
  THE TYPED MACHINE: regions.
-/
import Derived.Test.YtahcjggdcmgpkaaGreatLib5
namespace Go.Ab
open Go
set_option linter.unusedVariables false
set_option linter.unusedSimpArgs false
set_option linter.unusedSectionVars false
section
variable {P : Program} {D : Dat} {F : Fr} {ρ : List Slot} {ts : TS D.T} {σ : St} {lv : Nat}
def Ent.Flat (P:Program) (e:Ent D) (x:HL D.T (Sh.z7d e.args++z3d e.aos)) (o:HL D.T (Sh.z7d e.outs++z3d e.ros) ⊕ HL D.T (e.pan.tys++z3d e.pos)):Prop :=
 ∀(lv:Nat) (L:List (Option kz7)) (E:Nat->Nat->Option kz7) (ρ0:List Slot) (vargs:List V),ρ0.length=e.aos.length->VRL D ρ0 lv (z7e D (λk=>k) e.args (HL.fst _ x)) vargs ->
  (∀j o,(j,o)∈zbb D (λk=>k) e.aos 0 (HL.snd _ x)->∃sl,ρ0[j]? = some sl∧OR D ρ0 lv L sl o) ->
  (∀(s s':Nat) (sl sl':Slot) (i:Nat),ρ0[s]? = some sl->ρ0[s']? = some sl'->sl.k=some i->sl'.k=some i->s=s') ->
  y2x P e.f vargs ⟨lv,L,E⟩ λout H'=>∃L' ρ',H'=⟨lv,L',E⟩ ∧
   match o with
   | .inl y=>Left D lv L ρ0 e.p L' ρ' e.ros (HL.snd _ y)∧(∀q∈e.ren,∀sl,ρ0[q.1]? = some sl->∃sl',ρ'[q.2]? = some sl'∧sl'.v=sl.v)∧∃vs,out = .ret (ziw vs)∧VRL D ρ' lv (z7e D (λk=>k) e.outs (HL.fst _ y)) vs
   | .inr y=>Left D lv L ρ0 e.p L' ρ' e.pos (HL.snd _ y)∧∃v,out = .pan v∧VR D ρ' lv (zpj D (λk=>k) e.pan (HL.fst _ y)) v
def Ent.Pure (P:Program) (e:Ent D) (x:HL D.T (Sh.z7d e.args++z3d e.aos)) (y:HL D.T (Sh.z7d e.outs++z3d e.ros)):Prop :=
 e.aos=[]∧e.ros=[]∧e.ren=[]∧∀(lv:Nat) (vargs:List V),VRL D [] lv (z7e D (λk=>k) e.args (HL.fst _ x)) vargs->∃vs,(∀ρ lv',VRL D ρ lv' (z7e D (λk=>k) e.outs (HL.fst _ y)) vs)∧z011 P e.f vargs (ziw vs)
def Ent.Ok (P:Program) (e:Ent D):Prop:=∀(R:Type) (x:HL D.T (Sh.z7d e.args++z3d e.aos)) (k:HL D.T (Sh.z7d e.outs++z3d e.ros)->Option R) (kp:HL D.T (e.pan.tys++z3d e.pos)->Option R) (r:R),e.go x k kp=some r ->
 match e.pure with
 |true=>∃y,k y=some r∧e.Pure P x y
 |false=>(∃y,k y=some r∧e.Flat P x (.inl y))∨∃y,kp y=some r∧e.Flat P x (.inr y)
theorem TRr.zhy {M:z9d D.T} {p nx:Nat} {ρ0 ρ':List Slot} (hA:∀k s,fnd M k=some (.slot s)->∃sl,ρ0[k]? = some sl∧ρ[s]? = some sl) (hm:Maps (zdw D M p nx) ρ' ρ):∀(l:List (Nat×Nat)) {ts:TS D.T},(∀q∈l,∀sl,ρ0[q.1]? = some sl->∃sl',ρ'[q.2]? = some sl'∧sl'.v=sl.v)->TRr D F ρ ts σ->TRr D F ρ (Go.Ab.zhy D M p nx l ts) σ
 |[],ts,_,hR=>hR
 |q::l,ts,h,hR=>by
  simp only [Go.Ab.zhy]
  split
  · rename_i s hs
    obtain ⟨sl,h1,h2⟩:=hA _ _ hs
    obtain ⟨sl',h3,h4⟩:=h q List.mem_cons_self sl h1
    exact TRr.zhy hA hm l (λq hq=>h q (List.mem_cons_of_mem _ hq)) (hR.zrj _ λx v hx=>VR.ren h2 (hm _ _ h3) h4 hx)
  · exact TRr.zhy hA hm l (λq hq=>h q (List.mem_cons_of_mem _ hq)) hR
variable (hD : D.Ok P)
include hD
theorem VR.ypx {cs:List (TV D.T)} {vs:List V} (h:VRL D ρ lv cs vs):VR D ρ lv (Go.Ab.ypx D cs) (ziw vs):=by
 cases cs with
 |nil=>simp only [VRL] at h;subst h;simp only [Go.Ab.ypx,ziw,VR];exact ⟨[],rfl,by simp only [VRL]⟩
 |cons c cs =>
  have h0:=h
  simp only [VRL] at h
  obtain ⟨v,r,rfl,h1,h2⟩:=h
  cases cs with
  |nil=>simp only [VRL] at h2;subst h2;exact h1
  |cons d ds =>
   have h20:=h2
   simp only [VRL] at h2
   obtain ⟨v',r',rfl,_,_⟩:=h2
   simp only [Go.Ab.ypx,ziw,VR]
   exact ⟨_,rfl,h0⟩
theorem Ent.zvz (hR:TRr D F ρ ts σ) {e:Ent D} {vs:List (TV D.T)} {vargs:List V} {M:z9d D.T} {x:HL D.T (Sh.z7d e.args++z3d e.aos)} (hv:VRL D ρ F.lv vs vargs) (h:e.fit D vs ts = .ok (M,x)) :
  MOk e.aos.length M∧∃ρ0:List Slot,ρ0.length=e.aos.length∧Agr ρ M ρ0∧(∀j sl,ρ0[j]? = some sl->∃src,fnd M j=some src∧src.is ρ sl∧∀s,src = .slot s->∃o',fnd ts.o s=some o'∧o'.live) ∧
   VRL D ρ0 F.lv (z7e D (λk=>k) e.args (HL.fst _ x)) vargs∧∀j o,(j,o)∈zbb D (λk=>k) e.aos 0 (HL.snd _ x)->∃sl,ρ0[j]? = some sl∧OR D ρ0 F.lv σ.H.L sl o:=by
 unfold Ent.fit at h
 split at h
 ·rename_i M1 y hy
  split at h
  ·rename_i M2 z hz
   cases h
   obtain ⟨a1,a2,a3⟩:=zi4 hD e.args hy hv
   obtain ⟨b1,b2,b3,b4⟩:=zsj hD hR e.aos hz
   have hM:MOk e.aos.length M:=b2 (a2 ⟨λk src h=>by simp [fnd] at h,λk k' s h=>by simp [fnd] at h,λk src h=>by cases h⟩)
   obtain ⟨ρ0,c1,c2,c3⟩:=yxi hR hM λj hj=>by simpa using b3 j hj
   refine ⟨hM,ρ0,c1,c2,λj sl hj => ?_,by rw [HL.zsx];exact a3 ρ0 (b1.agr c2),λj o hm => ?_⟩
   ·obtain ⟨src,e1,e2⟩:=c3 j sl hj
    obtain ⟨src',e3,e4⟩:=b3 j (by rw [<-c1];exact (List.getElem?_eq_some_iff.1 hj).1)
    rw [Nat.zero_add,e1] at e3;injection e3 with e3;subst e3
    exact ⟨src,e1,e2,e4⟩
   ·rw [HL.zsw] at hm
    obtain ⟨_,_,_,e5⟩:=b4 ρ0 c2 j o hm
    exact e5
  ·cases h
  ·cases h
 ·cases h
 ·cases h
omit hD in
theorem z01m (hR:TRr D F ρ ts σ):{σ with H:=⟨F.lv,σ.H.L,F.E⟩}=σ:=by
 have e1:=hR.lv;have e2:=hR.E
 obtain ⟨t,⟨l,L,E⟩,d,e0⟩:=σ
 simp only at e1 e2;subst e1;subst e2;rfl
omit hD in
theorem y7i (hR:TRr D F ρ ts σ) {M:z9d D.T} {n:Nat} (hM:MOk n M) {ρ0:List Slot} (h0:∀j sl,ρ0[j]? = some sl->∃src,fnd M j=some src∧src.is ρ sl∧∀s,src = .slot s->∃o',fnd ts.o s=some o'∧o'.live) :
  ∀(s s':Nat) (sl sl':Slot) (i:Nat),ρ0[s]? = some sl->ρ0[s']? = some sl'->sl.k=some i->sl'.k=some i->s=s':=λs s' sl sl' i h1 h2 k1 k2=>by
 obtain ⟨src,e1,e2,e3⟩:=h0 s sl h1
 obtain ⟨src',f1,f2,f3⟩:=h0 s' sl' h2
 cases src with
 |nil=>simp only [Src.is] at e2;subst e2;cases k1
 |slot q =>
  cases src' with
  |nil=>simp only [Src.is] at f2;subst f2;cases k2
  |slot q' =>
   obtain ⟨o,g1,g2⟩:=e3 q rfl
   obtain ⟨o',g3,g4⟩:=f3 q' rfl
   have:=hR.inj q q' o o' sl sl' i g1 g3 g2 g4 e2 f2 k1 k2
   subst this
   exact hM.inj s s' q e1 f1
theorem zoc {R:Type} (hR:TRr D F ρ ts σ) {f:Nat} {vs:List (TV D.T)} {vargs:List V} {k kp:TV D.T->TS D.T->Option R} {kf:Nat->Option R} {r:R} (hv:VRL D ρ F.lv vs vargs):∀{tbl:List (Ent D)},(∀e∈tbl,e.Ok P)->y8l D f vs ts k kp kf tbl=some r ->
  ((∃e∈tbl,e.pure=false)∧∃(Post:Out->yz3->Prop),y2x P f vargs σ.H Post∧(∀rv H',Post (.ret rv) H'->∃z ts' ρ',VR D ρ' F.lv z rv∧TRr D F ρ' ts' {σ with H:=H'}∧k z ts'=some r) ∧
    (∀v H',Post (.pan v) H'->∃z ts' ρ',VR D ρ' F.lv z v∧TRr D F ρ' ts' {σ with H:=H'}∧kp z ts'=some r)) ∨
  (∃rv,z011 P f vargs rv∧∃z ρ' ts',(∀ρ',VR D ρ' F.lv z rv)∧TRr D F ρ' ts' σ∧k z ts'=some r∧ts'.t=ts.t∧ts'.nt=ts.nt)∨∃s,kf s=some r
 |[],_,h=>by simp [y8l,z074] at h
 |e::tbl,htbl,h=>by
  have up:∀{A B:Prop},(((∃e∈tbl,e.pure=false)∧A)∨B)->((∃e'∈e::tbl,e'.pure=false)∧A)∨B:=λ{A B} h=>h.imp (λ⟨⟨e',h1,h2⟩,h3⟩=>⟨⟨e',List.mem_cons_of_mem _ h1,h2⟩,h3⟩) λh=>h
  simp only [y8l] at h
  split at h
  · exact up (zoc hR hv (λe he=>htbl e (List.mem_cons_of_mem _ he)) h)
  · rename_i hf
    have hf:=Nat.eq_of_beq_eq_true hf
    subst hf
    split at h
    · exact up (zoc hR hv (λe he=>htbl e (List.mem_cons_of_mem _ he)) h)
    · exact .inr (.inr ⟨_,h⟩)
    · rename_i M x hfit
      split at h
      · rename_i hc
        obtain ⟨c1,c2,c3,c4⟩:=hc
        obtain ⟨hM,ρ0,d1,d2,d3,d4,d5⟩:=Ent.zvz hD hR hv hfit
        have hp:∀k,k<e.p->∃s,fnd M k=some (.slot s):=λk hk=>by
         have:=List.all_eq_true.1 c4 k (List.mem_range.2 hk)
         split at this
         · rename_i s hs;exact ⟨s,hs⟩
         · cases this
        have hmk:∀k s,(k,Src.slot s)∈M->fnd M k=some (.slot s):=λk s hm=>hM.one k _ hm
        have hinj:=y7i hR hM d3
        have hok:=htbl e List.mem_cons_self _ _ _ _ _ h
        cases hpure:e.pure with
        |true =>
         rw [hpure] at hok
         obtain ⟨y,hy,e1,e2,en,e3⟩:=hok
         have hr0:ρ0=[]:=List.eq_nil_of_length_eq_zero (by rw [d1,e1];rfl)
         rw [hr0] at d4
         obtain ⟨us,f1,f2⟩:=e3 F.lv vargs d4
         have hleft:Left D F.lv σ.H.L ρ0 e.p σ.H.L [] e.ros (HL.snd _ y):=by
          refine ⟨by rw [e2];rfl,λj o hm => ?_,λs s' sl sl' i h1=>by simp at h1,λs sl i h1=>by simp at h1,λi hi _=>⟨hi,rfl⟩,λj sl hj hs => ?_⟩
          · obtain ⟨j',_,hlt,_⟩:=zy5 e.ros hm
            rw [e2] at hlt;simp at hlt
          · rw [hr0] at hs;simp at hs
         obtain ⟨g1,g2⟩:=TRr.after hR hD hM d2 d3 hmk hp c2 hleft
         rw [z01m hR] at g1
         rw [en] at hy
         exact .inr (.inl ⟨_,f2,_,_,_,λρ'=>VR.ypx hD (VRL.maps (ρ:=[]) (λj sl hj=>by simp at hj) hD e.outs (f1 _ _)),g1,hy,rfl,rfl⟩)
        |false =>
         rw [hpure] at hok
         have hHeap:σ.H=⟨F.lv,σ.H.L,F.E⟩:=zy7 σ.H hR.lv hR.E
         refine .inl ⟨⟨e,List.mem_cons_self,hpure⟩,?_⟩
         rcases hok with ⟨y,hy,hflat⟩|⟨y,hy,hflat⟩
         · have hh:=hflat F.lv σ.H.L F.E ρ0 vargs d1 d4 d5 hinj
           rw [<-hHeap] at hh
           refine ⟨_,hh,λrv H' ⟨L',ρ',e1,e2,en,vs',e3,e4⟩ => ?_,λv H' ⟨L',ρ',e1,e2,en,vs',e3,e4⟩=>(by cases e3)⟩
           injection e3 with e3
           subst e1;subst e3
           obtain ⟨g1,g2⟩:=TRr.after hR hD hM d2 d3 hmk hp c2 e2
           exact ⟨_,_,_,VR.ypx hD (VRL.maps g2 hD e.outs e4),g1.zhy (λk s hk=>(d2 k _ hk).imp λsl h=>⟨h.1,lookup_append h.2⟩) g2 _ en,hy⟩
         · have hh:=hflat F.lv σ.H.L F.E ρ0 vargs d1 d4 d5 hinj
           rw [<-hHeap] at hh
           refine ⟨_,hh,λv H' ⟨L',ρ',e1,e2,vs',e3,e4⟩=>(by cases e3),λrv H' ⟨L',ρ',e1,e2,vs',e3,e4⟩ => ?_⟩
           injection e3 with e3
           subst e1;subst e3
           obtain ⟨g1,g2⟩:=TRr.after hR hD hM d2 d3 hmk hp c3 e2
           exact ⟨_,_,_,VR.maps g2 hD e.pan e4,g1,hy⟩
      · cases h
theorem zwf {R:Type} (hR:TRr D F ρ ts σ) {f:Nat} {vs:List (TV D.T)} {vargs:List V} {chk:z9d D.T->Bool} {k kp:TV D.T->TS D.T->Option R} {r:R} (hv:VRL D ρ F.lv vs vargs):∀{tbl:List (Ent D)},(∀e∈tbl,e.Ok P∧e.pure=false)->y7d D f vs ts chk k kp tbl=some r ->
  ∃(M:z9d D.T) (Post:Out->yz3->Prop),chk M=true∧(∀k s,(k,Src.slot s)∈M->∃o',fnd ts.o s=some o'∧o'.live)∧y2x P f vargs σ.H Post ∧
   (∀out H',Post out H'->H'.lv=F.lv∧∀i,i<σ.H.L.length->(∀k s sl,(k,Src.slot s)∈M->ρ[s]? = some sl->sl.k≠some i)->H'.L[i]? = σ.H.L[i]?) ∧
   (∀rv H',Post (.ret rv) H'->∃z ts' ρ',VR D ρ' F.lv z rv∧TRr D F ρ' ts' {σ with H:=H'}∧k z ts'=some r) ∧
   (∀v H',Post (.pan v) H'->∃z ts' ρ',VR D ρ' F.lv z v∧TRr D F ρ' ts' {σ with H:=H'}∧kp z ts'=some r)
 |[],_,h=>by simp [y7d,z05l] at h
 |e::tbl,htbl,h=>by
  simp only [y7d] at h
  split at h
  · exact zwf hR hv (λe he=>htbl e (List.mem_cons_of_mem _ he)) h
  · rename_i hf
    have hf:=Nat.eq_of_beq_eq_true hf
    subst hf
    split at h
    · rename_i M x hfit
      split at h
      · rename_i hc
        obtain ⟨c0,c1,c2,c3,c4⟩:=hc
        obtain ⟨hM,ρ0,d1,d2,d3,d4,d5⟩:=Ent.zvz hD hR hv hfit
        have hp:∀k,k<e.p->∃s,fnd M k=some (.slot s):=λk hk=>by
         have:=List.all_eq_true.1 c4 k (List.mem_range.2 hk)
         split at this
         · rename_i s hs;exact ⟨s,hs⟩
         · cases this
        have hmk:∀k s,(k,Src.slot s)∈M->fnd M k=some (.slot s):=λk s hm=>hM.one k _ hm
        have hinj:=y7i hR hM d3
        obtain ⟨hok,hpure⟩:=htbl e List.mem_cons_self
        have hok:=hok _ _ _ _ _ h
        rw [hpure] at hok
        have hHeap:σ.H=⟨F.lv,σ.H.L,F.E⟩:=zy7 σ.H hR.lv hR.E
        have hlive:∀k s,(k,Src.slot s)∈M->∃o',fnd ts.o s=some o'∧o'.live:=λk s hm=>by
         obtain ⟨sl,e1,e2⟩:=d2 k _ (hmk k s hm)
         obtain ⟨src,f1,_,f3⟩:=d3 k sl e1
         rw [hmk k s hm] at f1;injection f1 with f1
         exact f3 s f1.symm
        have frame:∀{p:Nat} {L':List (Option kz7)} {ρ':List Slot} {os:List OSh} {y:HL D.T (z3d os)},Left D F.lv σ.H.L ρ0 p L' ρ' os y->∀i,i<σ.H.L.length->(∀k s sl,(k,Src.slot s)∈M->ρ[s]? = some sl->sl.k≠some i)->L'[i]? = σ.H.L[i]? := λ{p L' ρ' os y} hl i hi hno=>by
         refine (hl.out i hi λk sl0 e1 e2 => ?_).2
         obtain ⟨src,f1,f2,f3⟩:=d3 k sl0 e1
         cases src with
         |nil=>simp only [Src.is] at f2;subst f2;cases e2
         |slot s=>exact hno k s sl0 (zc6 f1) f2 e2
        rcases hok with ⟨y,hy,hflat⟩|⟨y,hy,hflat⟩
        · have hh:=hflat F.lv σ.H.L F.E ρ0 vargs d1 d4 d5 hinj
          rw [<-hHeap] at hh
          refine ⟨M,_,c0,hlive,hh,λout H' ⟨L',ρ',e1,e2,_⟩=>⟨by rw [e1],λi hi hno=>by rw [e1];exact frame e2 i hi hno⟩,λrv H' ⟨L',ρ',e1,e2,en,vs',e3,e4⟩ => ?_,λv H' ⟨L',ρ',e1,e2,en,vs',e3,e4⟩=>(by cases e3)⟩
          injection e3 with e3
          subst e1;subst e3
          obtain ⟨g1,g2⟩:=TRr.after hR hD hM d2 d3 hmk hp c2 e2
          exact ⟨_,_,_,VR.ypx hD (VRL.maps g2 hD e.outs e4),g1.zhy (λk s hk=>(d2 k _ hk).imp λsl h=>⟨h.1,lookup_append h.2⟩) g2 _ en,hy⟩
        · have hh:=hflat F.lv σ.H.L F.E ρ0 vargs d1 d4 d5 hinj
          rw [<-hHeap] at hh
          refine ⟨M,_,c0,hlive,hh,λout H' ⟨L',ρ',e1,e2,_⟩=>⟨by rw [e1],λi hi hno=>by rw [e1];exact frame e2 i hi hno⟩,λv H' ⟨L',ρ',e1,e2,vs',e3,e4⟩=>(by cases e3),λrv H' ⟨L',ρ',e1,e2,vs',e3,e4⟩ => ?_⟩
          injection e3 with e3
          subst e1;subst e3
          obtain ⟨g1,g2⟩:=TRr.after hR hD hM d2 d3 hmk hp c3 e2
          exact ⟨_,_,_,VR.maps g2 hD e.pan e4,g1,hy⟩
      · cases h
    · exact zwf hR hv (λe he=>htbl e (List.mem_cons_of_mem _ he)) h
omit hD in
theorem z01x {ops:Array Oper} {k:Nat} {σ τ:St} {Q:yzl->St->Prop} (hw:zyo σ τ) (h:zje P ops k τ Q):zje P ops k σ Q:=λW0 g0 H0 W a g hB hS hG=>by
 obtain ⟨g',h1,h2⟩:=hw W0 g0 H0 W a g hB hS hG
 exact h W0 g0 H0 W a g' hB h1 h2
omit hD in
theorem ztm {ops:Array Oper} {k:Nat} {o:Oper} (ho:ops[k]? = some o):(ops.toList.drop k).take 1=[o]:=by
 have hk:k<ops.size:=by
  rcases Nat.lt_or_ge k ops.size with q|q
  ·exact q
  ·rw [Array.getElem?_eq_none q] at ho;cases ho
 have hk':k<ops.toList.length:=by simpa using hk
 rw [<-List.getElem_cons_drop (h:=hk')]
 have:ops.toList[k]=o:=by
  have h2:ops.toList[k]? = some o:=by simpa using ho
  rw [List.getElem?_eq_getElem hk'] at h2;injection h2
 simp [this]
omit hD in
theorem z01g {ops:Array Oper} {k:Nat} {σ:St} {Q:yzl->St->Prop} {o:Oper} {v:V} {H':yz3} (ho:ops[k]? = some o) (hw:z18 ops σ o=some true) (hox:ox P σ.H σ.ev o.op=some (v,H')) (h:zje P ops (k+1) ({σ with H:=H'}.put o.dst v) Q):zje P ops k σ Q :=
 y5w 1 [] ({σ with H:=H'}.put o.dst v) [] (by rw [ztm ho];simp [y5d,hw,hox]) y2l h
omit hD in
theorem z01k {ops:Array Oper} {k:Nat} {σ:St} {Q:yzl->St->Prop} {o:Oper} (ho:ops[k]? = some o) (hw:z18 ops σ o=some false) (h:zje P ops (k+1) (σ.put o.dst (.tup [])) Q):zje P ops k σ Q :=
 y5w 1 [] (σ.put o.dst (.tup [])) [] (by rw [ztm ho];simp [y5d,hw]) y2l h
omit hD in
theorem yxy {ops:Array Oper} {k:Nat} {σ:St} {Q:yzl->St->Prop} {o:Oper} {c:Call} {f:Nat} {args:List V} {v:V} (ho:ops[k]? = some o) (hw:z18 ops σ o=some true) (hop:o.op = .call c) (hcal:∃x,c.callee = .value x) (ht:target σ.ev c=some (f,args)) (hc:z011 P f args v)
  (h:zje P ops (k+1) (σ.put o.dst v) Q):zje P ops k σ Q:=by
 refine y5w 1 [(v,none)] (σ.put o.dst v) [⟨f,args,σ.H,v,σ.H⟩] ?_ (y7r (hc σ.H) y2l) h
 obtain ⟨x,hx⟩:=hcal
 have hox:ox P σ.H σ.ev o.op=none:=by rw [hop];simp only [ox,hx,zhj,Option.map_none]
 rw [ztm ho]
 rw [hop] at hox
 simp only [y5d,hw,if_true,hop,hox,ht,Option.getD_none]
omit hD in
def y8h (ops:Array Oper) (ts:TS D.T) (o:Oper):Prop:=o.guard=none∨∃j want d,o.guard=some (j,want)∧(ops[j]?).bind (·.dst)=some d∧fnd ts.t d=some (.bool want)
omit hD in
theorem TRr.tmp (hR:TRr D F ρ ts σ) {d:Nat} {x:TV D.T} (h:fnd ts.t d=some x):VR D ρ F.lv x (σ.t.getD d .any):=hR.ev (o:=.tmp d) h
omit hD in
theorem y8h.wanted (hR:TRr D F ρ ts σ) {ops:Array Oper} {o:Oper} (h:y8h ops ts o):z18 ops σ o=some true:=by
 unfold z18
 rcases h with h|⟨j,want,d,h1,h2,h3⟩
 ·rw [h]
 ·have:=hR.tmp h3
  simp only [VR] at this
  rw [h1]
  simp only [h2,this,beq_self_eq_true]
omit hD in
theorem y8h.freeze {ops:Array Oper} {o:Oper} (h:y8h ops ts o) {s:Nat} {ts':TS D.T} (hf:ts.freeze D s=some ts'):y8h ops ts' o:=by
 rcases h with h|⟨j,want,d,h1,h2,h3⟩
 ·exact .inl h
 ·refine .inr ⟨j,want,d,h1,h2,?_⟩
  unfold TS.freeze at hf
  split at hf
  ·rename_i ty t xs w _ ho
   injection hf with hf;subst hf
   simp only [TS.zrj]
   rw [zwi (TV.frz D s false (.sl t xs 0)),h3]
   rfl
  ·rename_i ty t es _ ho
   split at hf
   case isFalse=>cases hf
   injection hf with hf;subst hf
   simp only [TS.zrj]
   rw [zwi (TV.frz D s true (.mc t es)),h3]
   rfl
  ·cases hf
omit hD in
theorem zyy (hR:TRr D F ρ ts σ) {c:Call} {x:Operand} {f:Nat} {a b vs:List (TV D.T)} (hc:c.callee = .value x) (h1:ts.ev x=some (.fn f a b)) (h2:ts.evs c.args.toList=some vs):∃args,target σ.ev c=some (f,args)∧VRL D ρ F.lv (a++vs++b) args:=by
 have hx:=hR.ev h1
 simp only [VR] at hx
 obtain ⟨as,bs,e1,e2,e3⟩:=hx
 exact ⟨as++c.args.toList.map σ.ev++bs,by simp only [target,hc,e1],(e2.append (hR.evs h2)).append e3⟩
variable {tbl : List (Ent D)}
omit hD in
theorem yd1 {W:World} {a:Act} {g:Gh} {c:Call} {f:Nat} {args:List V} {ty:TypeId} (hρ:∀x,Rel W g σ.H (σ.ev x) (a.eval x)) (h:target σ.ev c=some (f,args)) :
  ∃caps as,zus W g σ.H args (as++caps)∧∀w:World,(resolve a.eval c ty).run P w = .ok ⟨.fn (.func f) caps,as⟩ w:=by
 unfold target at h
 split at h
 ·rename_i fo hc
  split at h
  ·rename_i f' first caps hf
   injection h with h;injection h with h1 h2;subst h1;subst h2
   have hr:=hρ fo
   rw [hf] at hr
   generalize hrc:a.eval fo=rc at hr
   cases hr with
   |fn _ _ _ fs cs n1 n2 r1 r2 =>
    refine ⟨cs,fs++c.args.map a.eval,zt6 (zt6 ⟨n1,r1⟩ (zyu hρ c.args)) ⟨n2,r2⟩,λw => ?_⟩
    simp [resolve,hc,hrc,Deferred.ofValue]
  ·cases h
 ·cases h
omit hD in
theorem ywf {ops:Array Oper} {k:Nat} {σ:St} {Q:yzl->St->Prop} {o:Oper} {c:Call} {f:Nat} {args:List V} (ho:ops[k]? = some o) (hw:z18 ops σ o=some true) (hop:o.op = .defer c) (ht:target σ.ev c=some (f,args))
  (h:zje P ops (k+1) ({σ with d:=(f,args)::σ.d}.put o.dst .any) Q):zje P ops k σ Q:=λW0 g0 H0 W a g hB hS hG=>by
 have hk:k<ops.size:=by
  rcases Nat.lt_or_ge k ops.size with q|q
  ·exact q
  ·rw [Array.getElem?_eq_none q] at ho;cases ho
 rw [show ops.size-k=(ops.size-(k+1))+1 by omega,List.range'_succ]
 simp only [wpOps,ho]
 rw [z1v hG hw,if_pos rfl]
 left
 unfold Oper.wp
 obtain ⟨caps,as,k1,k2⟩:=yd1 (P:=P) (ty:=o.type) hG.ev ht
 have hex:(execOp a.eval o).run P W = .ok (.defer ⟨.fn (.func f) caps,as⟩) W:=by
  unfold execOp;rw [hop];simp [k2 W]
 rw [hex]
 have hG2:z0c W {a with defers:=⟨.fn (.func f) caps,as⟩::a.defers} g {σ with d:=(f,args)::σ.d}:=by
  refine ⟨hG.good,hG.size,hG.tmps,by simp [hG.dlen],λj f' vs hj => ?_⟩
  cases j with
  |zero=>simp at hj;obtain ⟨rfl,rfl⟩:=hj;exact ⟨caps,as,rfl,k1⟩
  |succ j=>exact hG.defs j f' vs (by simpa using hj)
 have hG3:=hG2.next (.refl _ _ _) hG.good (.any undef) o.dst
 have hH:({σ with d:=(f,args)::σ.d}.put o.dst .any).H=σ.H:=by cases o.dst <;> rfl
 have he:({σ with d:=(f,args)::σ.d}.put o.dst .any).e0=σ.e0:=by cases o.dst <;> rfl
 exact h W0 g0 H0 W _ g hB (by rw [hH,he];exact hS) hG3
omit hD in
theorem znq {ops:Array Oper} {k:Nat} {σ:St} {Q:yzl->St->Prop} {o:Oper} {v:V} {H':yz3} (ho:ops[k]? = some o) (hw:z18 ops σ o=some true)
  (ht:∀W a g,z0c W a g σ->zav P W g σ.H (execOp a.eval o) v H') (h:zje P ops (k+1) ({σ with H:=H'}.put o.dst v) Q):zje P ops k σ Q:=λW0 g0 H0 W a g hB hS hG=>by
 have hk:k<ops.size:=by
  rcases Nat.lt_or_ge k ops.size with q|q
  ·exact q
  ·rw [Array.getElem?_eq_none q] at ho;cases ho
 rw [show ops.size-k=(ops.size-(k+1))+1 by omega,List.range'_succ]
 simp only [wpOps,ho]
 rw [z1v hG hw,if_pos rfl]
 left
 unfold Oper.wp
 obtain ⟨c,W',g',h1,h2,h3,h4⟩:=ht W a g hG
 have hn:=hG.next h2 h3 h4 o.dst
 have hH:({σ with H:=H'}.put o.dst v).H=H':=by cases o.dst <;> rfl
 have he:({σ with H:=H'}.put o.dst v).e0=σ.e0:=by cases o.dst <;> rfl
 have fin:=h W0 g0 H0 W' (a.put o.dst c) g' hB (by rw [hH,he];exact ⟨hS.1,hS.2.trans h2⟩) hn
 rcases h1 with h1|⟨h1,rfl⟩
 ·rw [h1];exact fin
 ·rw [h1];exact fin
omit hD in
theorem TRr.defer (hR:TRr D F ρ ts σ) {f:Nat} {xs:List (TV D.T)} {args:List V} (h:VRL D ρ F.lv xs args):TRr D F ρ {ts with d:=(f,xs)::ts.d} {σ with d:=(f,args)::σ.d} :=
 ⟨hR.nx,hR.nt,hR.tm,hR.ob,hR.inj,hR.mine,hR.lv,hR.E,hR.e0,⟨args,σ.d,rfl,h,hR.d⟩,hR.out,hR.pin⟩
omit hD in
theorem yn4:∀(xs:List Int) (ws:List V),ws.length=xs.length->(∀(j:Nat) (x:Int) (w:V),xs[j]? = some x->ws[j]? = some w->DR D (.int .u8) x w)->zy9 ws=yyg xs
 |[],ws,hl,h=>by obtain rfl:ws=[]:=List.eq_nil_of_length_eq_zero hl;rfl
 |x::xs,[],hl,h=>by simp at hl
 |x::xs,w::ws,hl,h=>by
  have h0:=h 0 x w rfl rfl
  have ih:=yn4 xs ws (by simpa using hl) λj y u hy hu=>h (j+1) y u (by simpa using hy) (by simpa using hu)
  cases h0
  simp only [zy9,yyg,ih]
  cases x with
  |ofNat m=>cases yyg xs <;> rfl
  |negSucc m=>cases yyg xs <;> rfl
omit hD in
theorem z02z {α:Type} (es:List α):es.Perm (((List.range es.length).filter λq => !([]:List Nat).contains q).filterMap λq=>es[q]?):=by
 have h1:((List.range es.length).filter λq => !([]:List Nat).contains q)=List.range es.length:=by simp
 rw [h1]
 have h2:(List.range es.length).filterMap (λq=>es[q]?)=es:=by
  apply List.ext_getElem?
  intro n
  have:∀(l:List Nat),(∀q∈l,q<es.length)->(l.filterMap λq=>es[q]?)[n]? = (l[n]?).bind λq=>es[q]? := by
   intro l
   induction l generalizing n with
   |nil=>simp
   |cons a l ih =>
    intro hl
    have ha:=hl a (by simp)
    rw [List.filterMap_cons,List.getElem?_eq_getElem ha]
    cases n with
    |zero=>simp [ha]
    |succ n=>simpa using ih n λq hq=>hl q (by simp [hq])
  rw [this _ (by simp)]
  by_cases hn:n<es.length
  ·simp [hn]
  ·simp [hn]
 rw [h2]
omit hD in
theorem z02a {α:Type} {es fs:List α} {vis:List Nat} {j:Nat} {p:α} (h:es.Perm (((List.range fs.length).filter λq => !vis.contains q).filterMap λq=>fs[q]?)) (hj:fs[j]? = some p) (hn:j∉vis) :
  ∃m:Nat,es[m]? = some p∧(es.eraseIdx m).Perm (((List.range fs.length).filter λq => !(vis++[j]).contains q).filterMap λq=>fs[q]?):=by
 have hlt:=(List.getElem?_eq_some_iff.1 hj).1
 have hmem:j∈(List.range fs.length).filter λq => !vis.contains q:=by simp [hlt,hn]
 have hnd:((List.range fs.length).filter λq => !vis.contains q).Nodup:=List.nodup_range.filter _
 have he:((List.range fs.length).filter λq => !(vis++[j]).contains q)=((List.range fs.length).filter λq => !vis.contains q).erase j:=by
  rw [hnd.erase_eq_filter,List.filter_filter]
  refine List.filter_congr λq _ => ?_
  by_cases e:q=j
  ·subst e;simp
  ·simp [e,bne]
 have hp:=(List.perm_cons_erase hmem).filterMap λq=>fs[q]?
 rw [List.filterMap_cons,hj] at hp
 have hp2:=h.trans hp
 have hm:p∈es:=hp2.mem_iff.2 (by simp)
 obtain ⟨m,hm⟩:=List.mem_iff_getElem?.1 hm
 refine ⟨m,hm,?_⟩
 rw [he]
 have hml:=(List.getElem?_eq_some_iff.1 hm).1
 have h1:es.Perm (p::es.eraseIdx m):=by
  have hpm:es[m]=p:=by have:=hm;rw [List.getElem?_eq_getElem hml] at this;injection this
  have h2:es=es.take m++p::es.drop (m+1):=by
   conv=>lhs;rw [<-List.take_append_drop m es]
   rw [List.drop_eq_getElem_cons hml,hpm]
  rw [List.eraseIdx_eq_take_drop_succ]
  conv=>lhs;rw [h2]
  exact List.perm_middle
 exact (List.perm_cons p).1 (h1.symm.trans hp2)
omit hD in
theorem z02u {α R:Type} {es:List (List UInt8×α)} {f:List UInt8->α->List (List UInt8×α)->Option R} {g:Option R} {r:R} (h:y82 es f g=some r) (he:es=[]):g=some r:=by
 subst he;exact h
omit hD in
theorem z01p {α R:Type} {es:List (List UInt8×α)} {f:List UInt8->α->List (List UInt8×α)->Option R} {g:Option R} {r:R} (h:y82 es f g=some r) (m:Nat) (p:List UInt8×α) (hm:es[m]? = some p):f p.1 p.2 (es.eraseIdx m)=some r:=by
 cases es with
 |nil=>simp at hm
 |cons e l =>
  simp only [y82] at h
  split at h
  · rename_i hz
    injection h with h
    rw [<-h]
    exact hz.choose_spec m p hm
  · cases h
omit hD in
theorem z04f {α R:Type} {es:List (List UInt8×α)} {f:List UInt8->α->List (List UInt8×α)->Option R} {g:Option R} {r:R} (h0:es=[]->g=some r) (h1:∀(m:Nat) (p:List UInt8×α),es[m]? = some p->f p.1 p.2 (es.eraseIdx m)=some r):y82 es f g=some r:=by
 cases es with
 |nil=>exact h0 rfl
 |cons e l =>
  have hz:∃z,∀i p,(e::l)[i]? = some p->f p.1 p.2 ((e::l).eraseIdx i)=some z:=⟨r,h1⟩
  simp only [y82]
  rw [dif_pos hz]
  have a:=hz.choose_spec 0 e rfl
  rw [h1 0 e rfl] at a
  exact a.symm
omit hD in
theorem VR.z058 {t:DTy} (hf:t.flat=true) (x:t.S D.T):VR D ρ lv (D.leaf t x) (y94 t x).v:=by
 cases t <;> first|(cases hf;done)|(simp only [Dat.leaf,VR];rfl)
theorem y1q {R:Type} {ops:Array Oper} {n:Nat} {o:Oper} {Q:yzl->St->Prop} {k kp:TV D.T->TS D.T->Option R} {r:R} (ho:ops[n]? = some o) (htbl:∀e∈tbl,e.Ok P)
  (hk:∀z ts' σ' ρ' v,TRr D F ρ' ts' σ'->VR D ρ' F.lv z v->k z ts'=some r->zje P ops (n+1) (σ'.put o.dst v) Q)
  (hkp:∀z ts' σ' ρ' v,TRr D F ρ' ts' σ'->VR D ρ' F.lv z v->kp z ts'=some r->Q (.panic v) σ'):∀(fuel:Nat) {ts:TS D.T} {σ:St} {ρ:List Slot},TRr D F ρ ts σ->y8h ops ts o->yod P D tbl o.op k kp fuel ts=some r->zje P ops n σ Q
 |0,ts,σ,ρ,hR,hw,h=>by simp [yod] at h
 |fuel+1,ts,σ,ρ,hR,hw,h=>by
  have hkf:∀s,(match ts.freeze D s with|some ts'=>yod P D tbl o.op k kp fuel ts'|none=>none)=some r->zje P ops n σ Q:=λs hs=>by
   cases hf:ts.freeze D s with
   |none=>rw [hf] at hs;cases hs
   |some ts' =>
    rw [hf] at hs
    obtain ⟨τ,h1,h2⟩:=y3g hR hf
    exact z01x h1 (y1q ho htbl hk hkp fuel h2 (hw.freeze hf) hs)
  have hop:∀{kf:Nat->Option R},(∀s,kf s=some r->zje P ops n σ Q)->tOp P D ts o.op k kf=some r->zje P ops n σ Q:=λ{kf} hkf h=>by
   rcases ymr hD hR h with ⟨z,ts',v,H',ρ',h1,h2,h3,h4⟩|⟨s,hs⟩
   · exact z01g ho (hw.wanted hR) h1 (hk z ts' _ ρ' v h3 h2 h4)
   · exact hkf s hs
  unfold yod at h
  simp only at h
  split at h
  · rename_i c hc
    split at h
    · rename_i x hcal
      split at h
      · rename_i f a b vs hx hvs
        obtain ⟨args,t1,t2⟩:=zyy hR hcal hx hvs
        rcases zoc hD hR t2 htbl h with ⟨_,Post,h1,h2,h3⟩|⟨rv,h1,z,ρ',ts',h2,h3,h4,_⟩|⟨s,hs⟩
        · refine z020 ho (hw.wanted hR) hc t1 h1 (λrv H' hp => ?_) λv H' hp => ?_
          · obtain ⟨z,ts',ρ',k1,k2,k3⟩:=h2 rv H' hp
            exact hk z ts' _ ρ' rv k2 k1 k3
          · obtain ⟨z,ts',ρ',k1,k2,k3⟩:=h3 v H' hp
            exact hkp z ts' _ ρ' v k2 k1 k3
        · exact yxy ho (hw.wanted hR) hc ⟨x,hcal⟩ t1 h1 (hk z ts' σ ρ' rv h3 (h2 _) h4)
        · exact hkf s hs
      · cases h
    · exact hop hkf h
  · rename_i x hc
    split at h
    · rename_i t v hx
      have hv:=hR.ev hx
      simp only [VR] at hv
      obtain ⟨u,e1,e2⟩:=hv
      exact z00h ho (hw.wanted hR) hc e1 (hkp _ ts σ ρ _ hR (by simp only [VR];exact ⟨u,rfl,e2⟩) h)
    · cases h
  · rename_i c hc
    split at h
    · rename_i x hcal
      split at h
      · rename_i f a b vs hx hvs
        obtain ⟨args,t1,t2⟩:=zyy hR hcal hx hvs
        exact ywf ho (hw.wanted hR) hc t1 (hk .any _ _ ρ .any (hR.defer t2) (by simp only [VR]) h)
      · cases h
    · cases h
  · rename_i bo t x y ty hc
    split at h
    · rename_i hx hy
      split at h
      · rename_i hi hu
        have h1:=hR.ev hx
        have h2:=hR.ev hy
        simp only [VR] at h1 h2
        have turn:∀{b:Bool},y7c P bo t x y .nili .nili=some (.bool b)->k (.bool b) ts=some r->zje P ops n σ Q:=λ{b} hb hkk=>by
         refine znq ho (hw.wanted hR) (λW a g hG=>zww hG.good hG.ev (v:=.bool b) (H':=σ.H) ?_) (hk (.bool b) ts _ ρ (.bool b) hR (by simp only [VR]) hkk)
         rw [hc]
         simp only [zv9,hEq2,h1,h2,hb,Option.map_some]
        split at h
        · exact turn (by simp only [y7c,hi,hu]) h
        · exact turn (by simp only [y7c,hi,hu]) h
        · cases h
      · cases h
    · exact hop hkf h
  · rename_i t hc
    split at h
    · rename_i i hz hi
      split at h
      · rename_i hb
        simp only [Bool.and_eq_true] at hb
        have hsz:i.size=2:=Nat.eq_of_beq_eq_true hb.2
        have hm:zv9 P σ.H σ.ev o.op=some (.ap σ.H.lv σ.H.L.length 0 0 0,σ.H.push (.arr 0 t 2 [.agg [.nilp,.nils]] (some 1))):=by
         rw [hc]
         simp only [zv9,hb.1,ybc,hz,hi,hsz]
         rfl
        refine znq ho (hw.wanted hR) (λW a g hG=>zww hG.good hG.ev hm) (hk (.bp ts.nx 0) _ _ (ρ++[⟨.any,some σ.H.L.length,[]⟩]) _ ?_ ?_ h)
        · refine hR.new _ _ _ hR.lv hR.E (by simp [yz3.push]) (λi hi=>by simp only [yz3.push];rw [List.getElem?_append_left hi]) (λi hi=>by injection hi with hi;omega) ?_
          simp only [OR]
          exact ⟨σ.H.L.length,.nilp,.nils,rfl,by simp [yz3.push],.inl rfl,by simp only [ypu,VR]⟩
        · simp only [VR]
          exact ⟨⟨.any,some σ.H.L.length,[]⟩,σ.H.L.length,by rw [<-hR.nx];simp,rfl,by rw [hR.lv]⟩
      · exact hop hkf h
    · exact hop hkf h
  · rename_i s d x hc
    split at h
    · rename_i xs fl hx
      split at h
      · rename_i e hus hud
        split at h
        · rename_i hue
          obtain ⟨y,hy,h⟩:=zgf h
          have hv:=hR.ev hx
          simp only [VR] at hv
          have hs:hStr P s d (σ.ev x)=some (.str y):=by
           unfold hStr
           rw [hus,hud]
           simp only [hue]
           obtain ⟨hv,_⟩:=hv
           generalize σ.ev x=u at hv
           cases hv with
           |nil=>simp only [yyg,Option.some.injEq] at hy;subst hy;rfl
           |sl _ _ ws full hl hh =>
            simp only [Dat.len]
            rw [yn4 xs ws hl hh,hy]
            rfl
          refine znq ho (hw.wanted hR) (λW a g hG => ?_) (hk (.str y) ts _ ρ (.str y) hR (by simp only [VR]) h)
          have hx':=hG.ev x
          unfold execOp
          rw [hc]
          exact yem hG.good hs hx'
        · cases h
      · cases h
    · exact hop hkf h
  · rename_i t x hc
    split at h
    · exact hkf _ h
    · rename_i τ es hx
      split at h
      · rename_i kt vt ht
        have hv:=hR.ev hx
        unfold VR at hv
        obtain ⟨hfl,hv⟩:=hv
        refine znq (v:=.ptr σ.H.lv σ.H.L.length 0) (H':=σ.H.push (.mit (es.map λp=>(.str p.1,y94 τ p.2)) [])) ho (hw.wanted hR) (λW a g hG => ?_) (hk (.ptr ts.nx 0) _ _ (ρ++[⟨.any,some σ.H.L.length,[]⟩]) _ ?_ ?_ h)
        rotate_left
        · refine hR.new _ _ _ hR.lv hR.E (by simp [yz3.push]) (λi hi=>by simp only [yz3.push];rw [List.getElem?_append_left hi]) (λi hi=>by injection hi with hi;omega) ?_
          simp only [OR]
          refine ⟨σ.H.L.length,es,[],rfl,hfl,by simp [yz3.push],by simp,?_,λp hp=>by cases hp⟩
          exact z02z es
        · simp only [VR]
          exact ⟨⟨.any,some σ.H.L.length,[]⟩,σ.H.L.length,by rw [<-hR.nx];simp,rfl,by rw [hR.lv]⟩
        · have hx':=hG.ev x
          rw [hv] at hx'
          unfold execOp
          rw [hc]
          exact yvj hG.good ht hx'
      · cases h
    · exact hop hkf h
  · rename_i x hc
    split at h
    · rename_i s hx
      split at h
      · rename_i τ last es hs
        have hv:=hR.ev hx
        simp only [VR] at hv
        obtain ⟨sl,i,e1,e2,e3⟩:=hv
        obtain ⟨sl',k1,k2⟩:=hR.ob s _ hs
        rw [e1] at k1;injection k1 with k1;subst k1
        have k2':=k2
        simp only [OR] at k2
        obtain ⟨i',fs,vis,q1,q2,q3,q4,q5,_⟩:=k2
        rw [e2] at q1;injection q1 with q1;subst q1
        have hlt:=(List.getElem?_eq_some_iff.1 q3).1
        refine z02y ho (hw.wanted hR) hc e3 (hR.get q3) (λq hq=>by simpa using q4 q hq) (λhall => ?_) λj p hj hnj => ?_
        · have hnil:es=[]:=by
           have:(List.filter (λq => !vis.contains q) (List.range fs.length))=[]:=List.filter_eq_nil_iff.2 λq hq=>by
            have:=hall q (by simpa using hq)
            simpa using this
           rw [this] at q5
           simpa using q5
          exact hk (.tup [.bool false]) ts σ ρ _ hR (by simp [VR,VRL]) (z02u h hnil)
        · rw [List.getElem?_map,Option.map_eq_some_iff] at hj
          obtain ⟨p',hp',rfl⟩:=hj
          obtain ⟨m,hm,hperm⟩:=z02a q5 hp' hnj
          have h':=z01p h m p' hm
          refine hk _ _ _ ρ _ ?_ ?_ h'
          · have hmm:σ.H.set F.lv i (kz7.mit (fs.map λp=>(.str p.1,y94 τ p.2)) (vis++[j]))={σ.H with L:=σ.H.L.set i (some (.mit (fs.map λp=>(.str p.1,y94 τ p.2)) (vis++[j])))}:=by
             unfold yz3.set;rw [if_pos hR.lv.symm]
            rw [hmm]
            exact hR.upd hs trivial e1 e2 (.mit τ (some (p'.1,p'.2)) (es.eraseIdx m)) (.mit (fs.map λp=>(.str p.1,y94 τ p.2)) (vis++[j])) (by
             simp only [OR]
             refine ⟨i,fs,vis++[j],e2,q2,by simp [hlt],λq hq => ?_,hperm,λp hp=>⟨vis,j,rfl,by injection hp with hp;rw [hp',<-hp]⟩⟩
             rcases List.mem_append.1 hq with hq|hq
             · exact q4 q hq
             · simp at hq;subst hq;exact (List.getElem?_eq_some_iff.1 hp').1)
          · simp only [VR,VRL]
            exact ⟨_,rfl,_,_,rfl,rfl,_,_,rfl,rfl,_,_,rfl,VR.z058 q2 _,rfl⟩
      · cases h
    · cases h
  · rename_i x hc
    split at h
    · rename_i s hx
      split at h
      · rename_i τ p es hs
        have hv:=hR.ev hx
        simp only [VR] at hv
        obtain ⟨sl,i,e1,e2,e3⟩:=hv
        obtain ⟨sl',k1,k2⟩:=hR.ob s _ hs
        rw [e1] at k1;injection k1 with k1;subst k1
        simp only [OR] at k2
        obtain ⟨i',fs,vis,q1,q2,q3,q4,q5,q6⟩:=k2
        rw [e2] at q1;injection q1 with q1;subst q1
        obtain ⟨vis',j,rfl,hj⟩:=q6 p rfl
        refine znq (v:=.tup [.str p.1,(y94 τ p.2).v]) (H':=σ.H) ho (hw.wanted hR) (λW a g hG => ?_) (hk _ ts _ ρ _ hR ?_ h)
        rotate_left
        · simp only [VR,VRL]
          exact ⟨_,rfl,_,_,rfl,rfl,_,_,rfl,VR.z058 q2 _,rfl⟩
        · have hx':=hG.ev x
          rw [e3] at hx'
          unfold execOp
          rw [hc]
          exact ytk hG.good (hR.get q3) (by rw [List.getElem?_map,hj];rfl) hx'
      · cases h
    · cases h
  · exact hop hkf h
omit hD in
theorem zye {R:Type} {ops:Array Oper} {n:Nat} {o:Oper} {go skip:TS D.T->Option R} {r:R} {G:Prop} (hR:TRr D F ρ ts σ) (h:ycl D ops.toList o ts go skip=some r)
  (h1:∀ts',ts'.o=ts.o->TRr D F ρ ts' σ->y8h ops ts' o->go ts'=some r->G) (h2:∀ts',ts'.o=ts.o->TRr D F ρ ts' σ->z18 ops σ o=some false->skip ts'=some r->G):G:=by
 unfold ycl at h
 split at h
 ·rename_i hg;exact h1 ts rfl hR (.inl hg) h
 ·rename_i j want hg
  have hj:ops.toList[j]? = ops[j]? := by simp
  rw [hj] at h
  split at h
  ·cases h
  ·rename_i d hd
   have tell:∀b:Bool,fnd ts.t d=some (.bool b)->TRr D F ρ {ts with t:=(d,.bool b)::ts.t} σ∧fnd ({ts with t:=(d,.bool b)::ts.t}:TS D.T).t d=some (.bool b)∧σ.t.getD d .any = .bool b:=λb hb=>by
    obtain ⟨v,e1,e2⟩:=hR.tm d _ hb
    refine ⟨hR.tell e1 e2,by simp only [kzl,if_true],?_⟩
    simp only [VR] at e2
    rw [List.getD_eq_getElem?_getD,e1,e2];rfl
   simp only [yb7] at h
   split at h
   ·rename_i b hb
    have wf:∀b':Bool,b'=b->(b'==want)=false->z18 ops σ o=some false:=λb' e hne=>by
     unfold z18
     rw [hg];simp only [hd,(tell b hb).2.2];rw [<-e,hne]
    split at h
    ·rename_i hbt
     subst hbt
     obtain ⟨t1,t2,t3⟩:=tell true hb
     split at h
     ·rename_i hwt;subst hwt;exact h1 _ (by rfl) t1 (.inr ⟨j,true,d,hg,hd,t2⟩) h
     ·rename_i hwt;exact h2 _ (by rfl) t1 (wf true rfl (by simpa using hwt)) h
    ·rename_i hbf
     have hbf:b=false:=by simpa using hbf
     subst hbf
     obtain ⟨t1,t2,t3⟩:=tell false hb
     split at h
     ·rename_i hwt;subst hwt;exact h2 _ (by rfl) t1 (wf false rfl rfl) h
     ·rename_i hwt;have hwt:want=false:=by simpa using hwt
      subst hwt;exact h1 _ (by rfl) t1 (.inr ⟨j,false,d,hg,hd,t2⟩) h
   ·rename_i vs hv
    have:=hR.tmp hv
    simp only [VR] at this
    obtain ⟨us,e1,e2⟩:=this
    exact h2 ts rfl hR (by unfold z18;rw [hg];simp only [hd,e1]) h
   ·cases h
theorem ytl {R:Type} {ops:Array Oper} {n:Nat} {o:Oper} {Q:yzl->St->Prop} {k kp:TV D.T->TS D.T->Option R} {r:R} (ho:ops[n]? = some o) (htbl:∀e∈tbl,e.Ok P)
  (hk:∀z ts' σ' ρ' v,TRr D F ρ' ts' σ'->VR D ρ' F.lv z v->k z ts'=some r->zje P ops (n+1) (σ'.put o.dst v) Q) (hkp:∀z ts' σ' ρ' v,TRr D F ρ' ts' σ'->VR D ρ' F.lv z v->kp z ts'=some r->Q (.panic v) σ') {ts:TS D.T} {σ:St} {ρ:List Slot}
  (hR:TRr D F ρ ts σ) (hw:y8h ops ts o) (h:z04z P D tbl ops.toList o k kp ts=some r):zje P ops n σ Q:=by
 unfold z04z at h
 split at h
 ·rename_i t x lo hcp
  split at h
  ·rename_i cx clo hx hlo
   rcases yfj hR h (hR.ev hx) (hR.ev hlo) with ⟨z,v,h1,h2,h3⟩|h
   ·refine z01g (H':=σ.H) ho (hw.wanted hR) ?_ (hk z ts _ ρ v hR h2 h3)
    unfold cpB at hcp
    split at hcp
    ·rename_i t' x' lo' d hop hdst
     split at hcp
     ·injection hcp with hcp
      injection hcp with e1 hcp
      injection hcp with e2 e3
      subst e1;subst e2;subst e3
      rw [hop]
      simp only [ox,pv,Option.map_some,Option.map_none,h1]
     ·cases hcp
    ·cases hcp
   ·exact y1q hD ho htbl hk hkp 9 hR hw h
  ·cases h
 ·have fall:yod P D tbl o.op k kp 9 ts=some r->zje P ops n σ Q:=y1q hD ho htbl hk hkp 9 hR hw
  split at h
  ·unfold tLit at h
   split at h
   ·rename_i t len ps hop
    split at h
    ·rename_i e qs hu hqs
     split at h
     ·rename_i τ xs hb
      obtain ⟨p1,p2⟩:=hR.parts hqs
      obtain ⟨v,b1,b2⟩:=zrk hD p1 p2 hb
      simp only [VR] at b2
      obtain ⟨b2,b3,_⟩:=b2
      obtain ⟨ws,rfl⟩:=b3 (Nat.le_refl _)
      cases b2 with
      |sl _ _ _ _ hl hh =>
       have hlen:len≠0:=λe0=>by
        subst e0
        unfold zoe at hb
        repeat (split at hb <;> try (first|(cases hb;done)|(injection hb with hb;injection hb with _ _ hb;cases hb;done)))
       refine znq (v:=.hs σ.H.lv σ.H.L.length 0 0 ws.length false) (H':=σ.H.push (.arr 0 e (D.len τ) ws (some ws.length))) ho (hw.wanted hR) (λW a g hG => ?_) (hk (.own ts.nx) _ _ (ρ++[⟨.hs σ.H.lv σ.H.L.length 0 0 ws.length false,some σ.H.L.length,ws⟩]) _ ?_ ?_ h)
       · unfold execOp
         rw [hop]
         obtain ⟨r1,r2⟩:=zuh hG.ev ps
         exact ycq hG.good b1 hlen hu r1 r2
       · refine hR.new _ _ _ hR.lv hR.E (by simp [yz3.push]) (λi hi=>by simp only [yz3.push];rw [List.getElem?_append_left hi]) (λi hi=>by injection hi with hi;omega) ?_
         simp only [OR]
         exact ⟨hl,hh,0,some ws.length,by rw [hR.lv],by simp [yz3.push]⟩
       · simp only [VR]
         exact ⟨⟨.hs σ.H.lv σ.H.L.length 0 0 ws.length false,some σ.H.L.length,ws⟩,by rw [<-hR.nx];simp,rfl,rfl⟩
     ·exact fall h
    ·exact fall h
   ·exact fall h
  ·exact fall h
theorem zpe {R:Type} {ops:Array Oper} {Q:yzl->St->Prop} {kn:TS D.T->Option R} {kp:TV D.T->TS D.T->Option R} {r:R} (htbl:∀e∈tbl,e.Ok P)
  (hkn:∀ts' σ' ρ',TRr D F ρ' ts' σ'->kn ts'=some r->Q .normal σ') (hkp:∀z ts' σ' ρ' v,TRr D F ρ' ts' σ'->VR D ρ' F.lv z v->kp z ts'=some r->Q (.panic v) σ') :
  ∀(l:List Oper) (n:Nat) {ts:TS D.T} {σ:St} {ρ:List Slot},(∀j,l[j]? = ops[n+j]?)->TRr D F ρ ts σ->y2p P D tbl ops.toList kn kp l ts=some r->zje P ops n σ Q
 |[],n,ts,σ,ρ,hl,hR,h=>by
  simp only [y2p] at h
  exact z05j (by have:=hl 0;simp at this;exact this) (hkn ts σ ρ hR h)
 |o::l,n,ts,σ,ρ,hl,hR,h=>by
  have ho:ops[n]? = some o:=by simpa using (hl 0).symm
  have hl':∀j,l[j]? = ops[n+1+j]? := λj=>by have:=hl (j+1);simpa [Nat.add_assoc,Nat.add_comm 1 j] using this
  simp only [y2p,pOp] at h
  refine zye (n:=n) hR h (λts1 _ hR1 hw h1 => ?_) λts1 _ hR1 hw h1 => ?_
  · refine ytl hD ho htbl (λz ts' σ' ρ' v a1 a2 a3 => ?_) hkp hR1 hw h1
    split at a3
    · rename_i ts2 hp
      exact zpe htbl hkn hkp l (n+1) hl' (a1.put hp a2) a3
    · cases a3
  · split at h1
    · rename_i ts2 hp
      exact z01k ho hw (zpe htbl hkn hkp l (n+1) hl' (hR1.put hp (by simp only [VR];exact ⟨[],rfl,by simp only [VRL]⟩)) h1)
    · cases h1
theorem zg2 {R:Type} {ops:Array Oper} {kn:TS D.T->Option R} {r:R} (htbl:∀e∈tbl,e.Ok P) :
  ∀(l:List Oper) {ts:TS D.T} {σ:St},TRr D F ρ ts σ->zpq P D tbl ops.toList kn l ts=some r->∃ans σ' cl ts',zri P ops l ans σ=some (σ',[],cl)∧(∀c∈cl,c.ok P)∧TRr D F ρ ts' σ'∧kn ts'=some r
 |[],ts,σ,hR,h=>⟨[],σ,[],ts,rfl,by simp,hR,h⟩
 |o::l,ts,σ,hR,h=>by
  simp only [zpq,pOp] at h
  refine zye (ops:=ops) (n:=0) hR h (λts1 _ hR1 hw h1 => ?_) λts1 _ hR1 hw h1 => ?_
  · have hwt:=hw.wanted hR1
    have hpv:∀{op:Op},op=o.op->tP P D ts1 op (λv=>match ts1.put D o.dst v with|some ts=>zpq P D tbl ops.toList kn l ts|none=>none) (λ_=>none)=some r->∃ans σ' cl ts',zri P ops (o::l) ans σ=some (σ',[],cl)∧(∀c∈cl,c.ok P)∧TRr D F ρ ts' σ'∧kn ts'=some r:=λ{op} he hh=>by
     subst he
     rcases yd0 hD hR1 hh with ⟨x,v,a1,a2,a3⟩|⟨s,hs⟩
     · cases hp:ts1.put D o.dst x with
       |none=>rw [hp] at a3;cases a3
       |some ts2 =>
        rw [hp] at a3
        obtain ⟨ans,σ',cl,ts',b1,b2,b3,b4⟩:=zg2 htbl l (hR1.put hp a2) a3
        exact ⟨ans,σ',cl,ts',by simp only [zri,hwt,if_true,a1];exact b1,b2,b3,b4⟩
     · cases hs
    split at h1
    · rename_i c hc
      split at h1
      · rename_i x hcal
        split at h1
        · rename_i f a b vs hx hvs
          obtain ⟨args,t1,t2⟩:=zyy hR1 hcal hx hvs
          rcases zoc hD hR1 t2 (λe he=>htbl e (List.mem_filter.1 he).1) h1 with ⟨⟨e,he,hne⟩,_⟩|⟨rv,e1,z,ρ',ts',e2,e3,e4,_⟩|⟨s,hs⟩
          · have:=(List.mem_filter.1 he).2
            rw [hne] at this;cases this
          · split at e4
            · rename_i ts2 hp
              obtain ⟨ans,σ',cl,ts',b1,b2,b3,b4⟩:=zg2 htbl l (hR1.put hp (e2 ρ)) e4
              refine ⟨rv::ans,σ',⟨f,args,σ.H,rv,σ.H⟩::cl,ts',?_,y7r (e1 σ.H) b2,b3,b4⟩
              have hpn:pv P σ.H σ.ev (.call c)=none:=by simp [pv,zhj,hcal]
              simp only [zri,hwt,if_true,hc,hpn,t1,b1]
            · cases e4
          · cases hs
        · cases h1
      · exact hpv rfl h1
    · unfold tPC at h1
      split at h1
      · rename_i t x lo hcp
        split at h1
        · rename_i cx clo hx hlo
          rcases yfj hR1 h1 (hR1.ev hx) (hR1.ev hlo) with ⟨z,v,a1,a2,a3⟩|h1
          · cases hp:ts1.put D o.dst z with
            |none=>rw [hp] at a3;cases a3
            |some ts2 =>
             rw [hp] at a3
             obtain ⟨ans,σ',cl,ts',b1,b2,b3,b4⟩:=zg2 htbl l (hR1.put hp a2) a3
             refine ⟨ans,σ',cl,ts',?_,b2,b3,b4⟩
             have hpv':pv P σ.H σ.ev o.op=some v:=by
              unfold cpB at hcp
              split at hcp
              · rename_i t' x' lo' d hop hdst
                split at hcp
                · injection hcp with hcp
                  injection hcp with e1 hcp
                  injection hcp with e2 e3
                  subst e1;subst e2;subst e3
                  rw [hop]
                  simp only [pv,Option.map_some,Option.map_none,a1]
                · cases hcp
              · cases hcp
             simp only [zri,hwt,if_true,hpv'];exact b1
          · exact hpv rfl h1
        · cases h1
      · exact hpv rfl h1
  · split at h1
    · rename_i ts2 hp
      obtain ⟨ans,σ',cl,ts',b1,b2,b3,b4⟩:=zg2 htbl l (hR1.put hp (v:=.tup []) (by simp only [VR];exact ⟨[],rfl,by simp only [VRL]⟩)) h1
      exact ⟨ans,σ',cl,ts',by simp only [zri,hw];simpa using b1,b2,b3,b4⟩
    · cases h1
def Keyed (ρ:List Slot) (s i:Nat):Prop:=∃sl,ρ[s]? = some sl∧sl.k=some i
omit hD in
theorem zuv {ts:TS D.T} {s:Nat} (h:z7l ts s=true):∃o,fnd ts.o s=some o∧o.live:=by
 unfold z7l at h
 split at h
 ·cases h
 ·rename_i o hne ho;exact ⟨o,ho,by cases o <;> first|trivial|exact (hne ho).elim⟩
 ·cases h
omit hD in
theorem znu {ts:TS D.T} {s:Nat} {o:TO D.T} (h:fnd ts.o s=some o) (hl:o.live):z7l ts s=true:=by
 unfold z7l;rw [h];cases o <;> first|rfl|exact hl.elim
omit hD in
theorem yce (hR:TRr D F ρ ts σ) {s i:Nat} (hl:z7l ts s=true) (hk:Keyed ρ s i):i<σ.H.L.length:=by
 obtain ⟨o,h1,h2⟩:=zuv hl
 obtain ⟨sl,h3,h4⟩:=hk
 obtain ⟨sl',h5,h6⟩:=hR.ob s o h1
 rw [h3] at h5;injection h5 with h5;subst h5
 exact h6.lt h2 h4
omit hD in
theorem y6h (hR:TRr D F ρ ts σ) {s s' i:Nat} (hl:z7l ts s=true) (hl':z7l ts s'=true) (hk:Keyed ρ s i) (hk':Keyed ρ s' i):s=s':=by
 obtain ⟨o,h1,h2⟩:=zuv hl
 obtain ⟨sl,h3,h4⟩:=hk
 obtain ⟨o',h1',h2'⟩:=zuv hl'
 obtain ⟨sl',h3',h4'⟩:=hk'
 exact hR.inj s s' o o' sl sl' i h1 h1' h2 h2' h3 h3' h4 h4'
structure y5n (ρ:List Slot) (ts:TS D.T) (rds:Rds) (wrs:Wrs) (prev:List (Nat×Info)):Prop where
 q:∀p∈prev,p.2.eff=false->(∀x,¬p.2.K x)∨∃R,(p.1,R)∈rds∧∀l,R=some l->∀x,p.2.K x->∃s∈l,z7l ts s=true∧Keyed ρ s x
 e:∀p∈prev,p.2.eff=true->∃w,(p.1,w)∈wrs∧∀s,w=some s->∀x,p.2.W x->z7l ts s=true∧Keyed ρ s x
def y0v (ρ:List Slot) (R:List Nat):Info:=⟨false,λi=>∃s∈R,Keyed ρ s i,λ_=>False,false⟩
def z075 (W:Nat->Prop):Info:=⟨true,λ_=>False,W,false⟩
def z07b (W:Nat->Prop):Info:=⟨true,λ_=>False,W,true⟩
omit hD in
theorem yxa {q s:Nat} (h:(!Nat.beq q s)=true):q≠s:=λe=>by subst e;rw [Nat.beq_refl] at h;cases h
omit hD in
theorem yvp (hR:TRr D F ρ ts σ) {ops:Array Oper} {k:Nat} {rds:Rds} {wrs:Wrs} {prev:List (Nat×Info)} (hp:y5n (D:=D) ρ ts rds wrs prev) {R:List Nat} (hok:rdOk ops.toList k R wrs=true) (hlive:R.all (z7l ts)=true):GP .any ops prev k (y0v ρ R):=λp hj hf=>by
 refine ⟨λh=>(by cases h.2),λ_ h=>(by cases h),λ_ he x ⟨s,hs,hk⟩ hw => ?_⟩
 obtain ⟨w,hm,hw'⟩:=hp.e p hj he
 have h1:=List.all_eq_true.1 hok (p.1,w) hm
 rw [Bool.or_eq_true] at h1
 rcases h1 with h1|h1
 ·exact zpw h1 hf
 ·cases w with
  |none=>cases R with
   |nil=>cases hs
   |cons a r=>cases h1
  |some s' =>
   cases R with
   |nil=>cases hs
   |cons a r =>
    have h2:=yxa (List.all_eq_true.1 h1 s hs)
    obtain ⟨k1,k2⟩:=hw' s' rfl x hw
    exact h2 (y6h hR (List.all_eq_true.1 hlive s hs) k1 hk k2)
omit hD in
theorem z01j {ops:Array Oper} {k:Nat} {rds:Rds} {wrs:Wrs} {prev:List (Nat×Info)} (hp:y5n (D:=D) ρ ts rds wrs prev) {w:Option Nat} {W:Nat->Prop} (hok:z078 ops.toList k w rds=true) (hes:yrz ops.toList k wrs=true)
  (hW:∀s,w=some s->∀q x,z7l ts q=true->Keyed ρ q x->q≠s->¬W x):GP .any ops prev k (z075 W):=λp hj hf=>by
 refine ⟨λ⟨h,_⟩ => ?_,λhq _ x hx hw => ?_,λh=>(by cases h)⟩
 ·obtain ⟨w',hm,_⟩:=hp.e p hj h
  exact zpw (List.all_eq_true.1 hes (p.1,w') hm) hf
 ·rcases hp.q p hj hq with h|⟨R,hm,hR⟩
  ·exact h x hx
  ·have h1:=List.all_eq_true.1 hok (p.1,R) hm
   rw [Bool.or_eq_true] at h1
   rcases h1 with h1|h1
   ·exact zpw h1 hf
   ·cases R with
    |none=>cases w <;> cases h1
    |some l =>
     obtain ⟨s,hs,k1,k2⟩:=hR l rfl x hx
     cases l with
     |nil=>cases hs
     |cons a r =>
      cases w with
      |none=>cases h1
      |some s'=>exact hW s' rfl s x k1 k2 (yxa (List.all_eq_true.1 h1 s hs)) hw
omit hD in
theorem y5n.quiet {ρ:List Slot} {ts ts':TS D.T} {k:Nat} {rds:Rds} {wrs:Wrs} {prev:List (Nat×Info)} (hp:y5n (D:=D) ρ ts rds wrs prev) {R:List Nat} (hlive:R.all (z7l ts)=true) (ho:ts'.o=ts.o) :
  y5n (D:=D) ρ ts' ((k,some R)::rds) wrs ((k,y0v ρ R)::prev):=by
 have hl:∀s,z7l ts' s=z7l ts s:=λs=>by unfold z7l;rw [ho]
 refine ⟨λp hj hq => ?_,λp hj he => ?_⟩
 ·rcases List.mem_cons.1 hj with rfl|hj
  ·exact .inr ⟨some R,List.mem_cons_self,λl hl' x ⟨s,hs,hk⟩=>by injection hl' with hl';subst hl';exact ⟨s,hs,by rw [hl];exact List.all_eq_true.1 hlive s hs,hk⟩⟩
  ·rcases hp.q p hj hq with h|⟨R,hm,hR⟩
   ·exact .inl h
   ·exact .inr ⟨R,List.mem_cons_of_mem _ hm,λl hl' x hx=>by obtain ⟨s,a,b,c⟩:=hR l hl' x hx;exact ⟨s,a,by rw [hl];exact b,c⟩⟩
 ·rcases List.mem_cons.1 hj with rfl|hj
  ·cases he
  ·obtain ⟨w,hm,hw⟩:=hp.e p hj he
   exact ⟨w,hm,λs hs x hx=>by rw [hl];exact hw s hs x hx⟩
omit hD in
theorem y5n.eff {ρ ρ':List Slot} {ts ts':TS D.T} {k:Nat} {rds:Rds} {wrs:Wrs} {prev:List (Nat×Info)} (hp:y5n (D:=D) ρ ts rds wrs prev) {w:Option Nat} {W:Nat->Prop} {c:Info} (hc:c.eff=true∧c.W=W)
  (hold:∀s0,w=some s0->∀s x,z7l ts s=true->Keyed ρ s x->z7l ts' s=true∧Keyed ρ' s x) (hnew:∀s,w=some s->∀x,W x->z7l ts' s=true∧Keyed ρ' s x) :
  y5n (D:=D) ρ' ts' (ymp w rds) ((k,w)::ymu w wrs) ((k,c)::prev):=by
 obtain ⟨hce,hcW⟩:=hc
 refine ⟨λp hj hq => ?_,λp hj he => ?_⟩
 ·rcases List.mem_cons.1 hj with rfl|hj
  ·rw [hce] at hq;cases hq
  ·rcases hp.q p hj hq with h|⟨R,hm,hR⟩
   ·exact .inl h
   ·cases w with
    |some s0=>exact .inr ⟨R,hm,λl hl x hx=>by obtain ⟨s,a,b,c⟩:=hR l hl x hx;exact ⟨s,a,hold s0 rfl s x b c⟩⟩
    |none =>
     by_cases hemp:R=some []
     · subst hemp
       exact .inl λx hx=>by obtain ⟨s,a,_⟩:=hR [] rfl x hx;cases a
     · refine .inr ⟨none,List.mem_map.2 ⟨(p.1,R),hm,?_⟩,λl hl=>by cases hl⟩
       cases R with
       |none=>rfl
       |some l=>cases l with
        |nil=>exact (hemp rfl).elim
        |cons a r=>rfl
 ·rcases List.mem_cons.1 hj with rfl|hj
  ·rw [hcW]
   exact ⟨w,List.mem_cons_self,hnew⟩
  ·obtain ⟨w',hm,hw⟩:=hp.e p hj he
   cases w with
   |some s0=>exact ⟨w',List.mem_cons_of_mem _ hm,λs hs x hx=>by obtain ⟨a,b⟩:=hw s hs x hx;exact hold s0 rfl s x a b⟩
   |none=>exact ⟨none,List.mem_cons_of_mem _ (List.mem_map.2 ⟨(p.1,w'),hm,rfl⟩),λs hs=>by cases hs⟩
def Lvl (F:Fr) (H:yz3):Prop:=H.lv=F.lv
omit hD in
theorem z05o {ρ:List Slot} {lv:Nat} {x:TV D.T} {v:V} (h:VR D ρ lv x v) (hp:x.z004=true):v.plain=true:=by
 cases x <;> simp only [TV.z004,Bool.false_eq_true] at hp
 case sl t xs fl=>simp only [VR] at h;obtain ⟨h,_⟩:=h;cases h <;> rfl
 case ap s t i x off =>
  simp only [VR] at h
  obtain ⟨sl,w,h1,h2,h3,h4,h5⟩:=h
  split at h5
  ·subst h5;rfl
  ·obtain ⟨ver,n,_,h5⟩:=h5;subst h5;rfl
 case fn f a b=>simp only [VR] at h;obtain ⟨as,bs,rfl,_⟩:=h;rfl
 case iface t x=>simp only [VR] at h;obtain ⟨y,rfl,_⟩:=h;rfl
 case ref cs off=>simp only [VR] at h;obtain ⟨y,rfl,_⟩:=h;rfl
 case ptr s off=>simp only [VR] at h;obtain ⟨y,i,_,_,rfl⟩:=h;rfl
 case agg cs=>simp only [VR] at h;obtain ⟨y,rfl,_⟩:=h;rfl
 case tup cs=>simp only [VR] at h;obtain ⟨y,rfl,_⟩:=h;rfl
 case mc t es=>simp only [VR] at h;obtain ⟨_,rfl⟩:=h;rfl
 all_goals (simp only [VR] at h;subst h;rfl)
omit hD in
theorem yup (hR:TRr D F ρ ts σ) {x:Operand} {R:List Nat} (h:yrx ts x=some R):(σ.ev x).plain=true∧R=[]:=by
 unfold yrx at h
 split at h
 ·rename_i v hv
  split at h
  ·rename_i hp;injection h with h;exact ⟨z05o (hR.ev hv) hp,h.symm⟩
  ·cases h
 ·cases h
omit hD in
theorem yn6 (hR:TRr D F ρ ts σ) {s i:Nat} {R:List Nat} (hk:Keyed ρ s i) (hs0:s∈R) {H:yz3} (hl:Lvl F H) (hs:y0s (y0v ρ R).K σ.H H):H.get F.lv i=σ.H.get F.lv i:=by
 unfold yz3.get
 have hl:H.lv=F.lv:=hl
 rw [hl,hR.lv,if_pos rfl,if_pos rfl,hs i ⟨s,hs0,hk⟩]
omit hD in
theorem ynb (hR:TRr D F ρ ts σ) {x:Operand} {R:List Nat} (h:ownO ts x=some R) {H:yz3} (hl:Lvl F H) (hs:y0s (y0v ρ R).K σ.H H) :
  (σ.ev x).plain=true∨∃l i ver off n full,σ.ev x = .hs l i ver off n full∧H.get l i=σ.H.get l i:=by
 unfold ownO at h
 split at h
 ·rename_i s hx
  split at h
  ·rename_i ty t xs w ho
   injection h with h;subst h
   have hv:=hR.ev hx
   simp only [VR] at hv
   obtain ⟨sl,h1,h2,h3⟩:=hv
   obtain ⟨sl',k1,k2⟩:=hR.ob s _ ho
   rw [h1] at k1;injection k1 with k1;subst k1
   rw [h2]
   simp only [OR] at k2
   obtain ⟨q1,q2,q3⟩:=k2
   cases hk:sl.k with
   |none =>
    rw [hk] at q3
    rcases q3 with ⟨e,_⟩|⟨⟨e,_⟩,_⟩ <;> (left;rw [e];rfl)
   |some i =>
    rw [hk] at q3
    obtain ⟨ver,cp,e1,e2⟩:=q3
    right
    exact ⟨_,_,_,_,_,_,e1,yn6 hR ⟨sl,h1,hk⟩ (by simp) hl hs⟩
  ·cases h
 ·exact .inl (yup hR h).1
omit hD in
theorem z049 (hR:TRr D F ρ ts σ) {op:Op} {R:List Nat} (h:rdK ts op=some R) {H:yz3} (hl:Lvl F H) (hs:y0s (y0v ρ R).K σ.H H):pv P H σ.ev op=pv P σ.H σ.ev op:=by
 cases op <;> simp only [rdK] at h <;> first|(cases h;done)|skip
 case load t a =>
  split at h
  ·rename_i s off ha
   injection h with h;subst h
   have hv:=hR.ev ha
   simp only [VR] at hv
   obtain ⟨sl,i,h1,h2,h3⟩:=hv
   simp only [pv,h3]
   refine ygg ?_
   unfold yz3.get
   have hl:H.lv=F.lv:=hl
   rw [hl,hR.lv,if_pos rfl,if_pos rfl,hs i ⟨s,by simp,sl,h1,h2⟩]
  ·rename_i s τ n y off ha
   injection h with h;subst h
   have hv:=hR.ev ha
   simp only [VR] at hv
   obtain ⟨sl,w,h1,h2,h3,h4,h5⟩:=hv
   cases hk:sl.k with
   |none=>rw [hk] at h5;simp only [pv,h5];exact zyc
   |some j =>
    rw [hk] at h5
    obtain ⟨ver,m,e1,e2⟩:=h5
    simp only [pv,e2]
    exact yk5 (yn6 hR ⟨sl,h1,hk⟩ (by simp) hl hs)
  ·rename_i cs off ha
   have hv:=hR.ev ha
   simp only [VR] at hv
   obtain ⟨vs,h3,_⟩:=hv
   simp only [pv,h3]
   exact zyc
  ·cases h
 case indexAddr t x i =>
  simp only [pv]
  rcases ynb hR h hl hs with h|⟨l,j,ver,off,n,full,h,hg⟩
  ·exact y62 h
  ·rw [h];exact y1s hg
 case slice t x lo hi mx=>simp only [pv];exact ypq (yup hR h).1
 case call c =>
  simp only [pv,zhj]
  split at h
  ·rename_i x hc ha
   simp only [hc,ha]
   split
   ·rename_i x' t hx ht
    injection hx with hx;subst hx
    rcases ynb hR h hl hs with h|⟨l,j,ver,off,n,full,h,hg⟩
    ·exact yxz h
    ·rw [h];exact yqf hg
   ·rfl
  ·rename_i hc;simp only [hc]
  ·rename_i hc;simp only [hc]
  ·cases h
 case makeFunc fn a b=>cases fn <;> rfl
 all_goals rfl
theorem z007 {R:Type} (hR:TRr D F ρ ts σ) {t s off:Nat} {x:TV D.T} {va vx:V} {k:TV D.T->TS D.T->Option R} {kf:Nat->Option R} {r:R} (h:yc9 P D ts t (.ptr s off) x k kf=some r) (ha:VR D ρ F.lv (.ptr s off) va) (hx:VR D ρ F.lv x vx) :
  ∃i cs cs' H',Keyed ρ s i∧fnd ts.o s=some (.cells cs)∧zqa P σ.H t va vx=some (.any,H')∧(∀j,j≠i->H'.L[j]? = σ.H.L[j]?)∧H'.lv=F.lv∧TRr D F ρ (ts.set D s (.cells cs')) {σ with H:=H'}∧k .any (ts.set D s (.cells cs'))=some r:=by
 unfold yc9 at h
 split at h
 ·rename_i hc
  simp only [Bool.and_eq_true,beq_iff_eq] at hc
  obtain ⟨⟨c1,c2⟩,c3⟩:=hc
  have hcells:=hx.cells c1
  have hcond:(vx.z0g&&(P.info? t).isSome&&vx.cells.length==P.cellsOf t)=true:=by
   simp only [Bool.and_eq_true,beq_iff_eq];exact ⟨⟨hx.z0g c1,c2⟩,by rw [<-hcells.length];exact c3⟩
  simp only [VR] at ha
  obtain ⟨sl,i,h1,h2,rfl⟩:=ha
  simp only at h
  split at h
  ·rename_i cs ho
   split at h
   ·rename_i hoff
    obtain ⟨sl',k1,k2⟩:=hR.ob s _ ho
    rw [h1] at k1;injection k1 with k1;subst k1
    simp only [OR] at k2
    obtain ⟨i',vs,q1,q2,q3⟩:=k2
    rw [h2] at q1;injection q1 with q1;subst q1
    have hlt:=(List.getElem?_eq_some_iff.1 q2).1
    refine ⟨i,cs,_,σ.H.set F.lv i (.cells (z4k vs off vx.cells)),⟨sl,h1,h2⟩,ho,?_,λj hj => ?_,?_,?_,h⟩
    ·unfold zqa
     rw [if_pos hcond]
     simp only [hR.get q2]
     rw [if_pos (by rw [<-hcells.length,<-q3.length];exact hoff)]
    ·rw [hR.ys6];exact List.getElem?_set_ne (Ne.symm hj)
    ·rw [hR.ys6];exact hR.lv
    ·rw [hR.ys6]
     exact hR.upd ho trivial h1 h2 _ _ (by simp only [OR];exact ⟨i,_,h2,by simp [hlt],q3.z4k hcells off⟩)
   ·cases h
  ·cases h
 ·cases h
omit hD in
theorem yx5 {ts ts':TS D.T} {dst:Option Nat} {v:TV D.T} (h:ts.put D dst v=some ts'):ts'.o=ts.o:=by
 unfold TS.put at h
 split at h
 ·injection h with h;subst h;rfl
 ·split at h
  ·injection h with h;subst h;rfl
  ·cases h
omit hD in
theorem ywt (hR:TRr D F ρ ts σ) {o:TO D.T} {s:Nat} (h:z7l ts s=true):z7l (ts.new D o) s=true:=by
 obtain ⟨o',h1,h2⟩:=zuv h
 obtain ⟨sl,h3,_⟩:=hR.ob s o' h1
 have hlt:=(List.getElem?_eq_some_iff.1 h3).1
 refine znu (o:=o') ?_ h2
 simp only [TS.new,kzl]
 rw [if_neg (by rw [<-hR.nx];omega)];exact h1
omit hD in
theorem ydg {s x:Nat} (e:List Slot) (h:Keyed ρ s x):Keyed (ρ++e) s x:=by
 obtain ⟨sl,h1,h2⟩:=h
 exact ⟨sl,lookup_append h1,h2⟩
def KpQ (Q:yzl->St->Prop) (v:V) (σ:St):Prop:=∀t',t'.length=σ.t.length->Q (.panic v) {σ with t:=t'}
omit hD in
theorem z006 (hR:TRr D F ρ ts σ) {ops:Array Oper} {k:Nat} {rds:Rds} {wrs:Wrs} {prev:List (Nat×Info)} (hp:y5n (D:=D) ρ ts rds wrs prev) {M:z9d D.T} (hok:z04i ops.toList k rds M=true) (hes:yrz ops.toList k wrs=true) (hlive:∀k s,(k,Src.slot s)∈M->∃o',fnd ts.o s=some o'∧o'.live) :
  GP .any ops prev k (z07b λi=>¬(i<σ.H.L.length∧∀k s sl,(k,Src.slot s)∈M->ρ[s]? = some sl->sl.k≠some i)):=λp hj hf=>by
 refine ⟨λ⟨h,_⟩ => ?_,λhq _ x hx hw => ?_,λh=>(by cases h)⟩
 ·obtain ⟨w',hm,_⟩:=hp.e p hj h
  exact zpw (List.all_eq_true.1 hes (p.1,w') hm) hf
 ·rcases hp.q p hj hq with h|⟨R,hm,hR'⟩
  ·exact h x hx
  ·have h1:=List.all_eq_true.1 hok (p.1,R) hm
   rw [Bool.or_eq_true] at h1
   rcases h1 with h1|h1
   ·exact zpw h1 hf
   ·cases R with
    |none=>cases h1
    |some l =>
     obtain ⟨s,hs,k1,k2⟩:=hR' l rfl x hx
     refine hw ⟨yce hR k1 k2,λk' s' sl hm' hsl hk => ?_⟩
     have h2:=List.all_eq_true.1 (List.all_eq_true.1 h1 s hs) _ hm'
     obtain ⟨o',e1,e2⟩:=hlive k' s' hm'
     exact yxa h2 (y6h hR k1 (znu e1 e2) k2 ⟨sl,hsl,hk⟩)
omit hD in
theorem yvg {R:Type} {t u:Nat} {s x:TV D.T} {vs vx:V} {k:TV D.T->Option R} {r:R} (h:z04t P D t u s x k=some r) (hs:VR D ρ lv s vs) (hx:VR D ρ lv x vx) :
  ∃z v,zy4 P t u vs vx=some v∧(∀ρ' lv',VR D ρ' lv' z v)∧k z=some r:=by
 unfold z04t at h
 split at h
 case h_2=>cases h
 rename_i t' xs
 split at h
 case h_2=>cases h
 rename_i e du ht hu
 split at h
 case h_2=>cases h
 rename_i i τ hi hτ
 split at h
 case h_2=>cases h
 rename_i z hz
 split at h
 case h_2=>cases h
 rename_i hc
 split at h
 case h_2=>cases h
 rename_i xs' ys hxs hys
 obtain ⟨zs,hzs,h⟩:=zgf h
 obtain ⟨hroom,rfl⟩:=yx0 hzs
 obtain ⟨rfl,rfl⟩:=zf5 hxs
 simp only [Bool.and_eq_true,beq_iff_eq,decide_eq_true_eq] at hc
 obtain ⟨⟨⟨⟨c1,c2⟩,c3⟩,c4⟩,c5⟩:=hc
 have c5:=Nat.eq_of_beq_eq_true c5
 have hsrc:∃us,ztb ygs (D.len t') vx=some us∧DRL D t' ys us:=by
  unfold z07l at hys
  split at hys
  ·injection hys with hys;subst hys
   simp only [VR] at hx;subst hx
   exact ⟨[],rfl,DRL.nil _⟩
  ·rename_i t2 ws fl
   obtain ⟨rfl,rfl⟩:=zf5 hys
   simp only [VR] at hx
   obtain ⟨hx,_⟩:=hx
   cases hx with
   |nil=>exact ⟨[],rfl,DRL.nil _⟩
   |sl _ _ ws full hl hh=>exact ⟨ws,by simp [ztb,zgn],hl,hh⟩
  ·cases hys
 obtain ⟨us,hus,hyu⟩:=hsrc
 simp only [VR] at hs
 obtain ⟨hs,hf,_⟩:=hs
 obtain ⟨ws,rfl⟩:=hf (by omega)
 cases hs with
 |sl _ _ _ _ hl hh =>
  have hxy:=DRL.append (D:=D) ⟨hl,hh⟩ hyu
  refine ⟨_,.sl (D.len t') (ws++us) false,?_,λρ' lv' => ?_,h⟩
  · unfold zy4
    simp only [ht,hu,hi,hz]
    rw [<-c5,hus]
    simp only
    have hb:(y2q du&&decide (0<D.len t')&&decide (i.bytes<=524288)&&z.cells.size==D.len t'&&Nat.beq (D.len t') (D.len t')&&Nat.ble (ws.length+us.length) zni)=true:=by
     have h1:Nat.beq (D.len t') (D.len t')=true:=Nat.beq_refl _
     have h2:Nat.ble (ws.length+us.length) zni=true:=by rw [Nat.ble_eq,hl,hyu.1];exact hroom
     simp only [Bool.and_eq_true,beq_iff_eq,decide_eq_true_eq]
     exact ⟨⟨⟨⟨⟨c1,by omega⟩,c3⟩,by omega⟩,h1⟩,h2⟩
    rw [hb]
  · simp only [VR]
    exact ⟨.sl _ _ _ _ hxy.1 hxy.2,λh=>by omega,λh=>by cases h⟩
theorem ztq {R:Type} {ops:Array Oper} {Q:yzl->St->Prop} {kn:TS D.T->Option R} {kp:TV D.T->TS D.T->Option R} {r:R} (htbl:∀e∈tbl,e.Ok P) (hkn:∀ts' σ' ρ',TRr D F ρ' ts' σ'->kn ts'=some r->Q .normal σ')
  (hkp:∀z ts' σ' ρ' v,TRr D F ρ' ts' σ'->VR D ρ' F.lv z v->kp z ts'=some r->Q (.panic v) σ') :
  ∀(l:List Nat) (rds:Rds) (wrs:Wrs) (prev:List (Nat×Info)) {ts:TS D.T} {σ:St} {ρ:List Slot},TRr D F ρ ts σ->y5n (D:=D) ρ ts rds wrs prev->zin P D tbl ops.toList kn kp l rds wrs ts=some r ->
   zts P ops .any (Lvl F) (KpQ Q) (Q .normal) l prev σ
 |[],rds,wrs,prev,ts,σ,ρ,hR,hp,h=>hkn ts σ ρ hR h
 |k::l,rds,wrs,prev,ts,σ,ρ,hR,hp,h=>by
  simp only [zin] at h
  split at h
  · cases h
  rename_i o ho'
  have ho:ops[k]? = some o:=by simpa using ho'
  have one:∀{c:Info} {v:V} {H':yz3} {ts2:TS D.T} {ρ2:List Slot} {rds2:Rds} {wrs2:Wrs},c.call=false->MV P ops (Lvl F) c σ o v H'->GP .any ops prev k c->TRr D F ρ2 ts2 (zau σ o v H')->y5n (D:=D) ρ2 ts2 rds2 wrs2 ((k,c)::prev)->zin P D tbl ops.toList kn kp l rds2 wrs2 ts2=some r ->
    zts P ops .any (Lvl F) (KpQ Q) (Q .normal) (k::l) prev σ:=λ{c v H' ts2 ρ2 rds2 wrs2} hcc hm hc hR2 hp2 h2 =>
   ⟨o,c,ho,hc,.inl ⟨v,H',hcc,hm,ztq htbl hkn hkp l rds2 wrs2 _ hR2 hp2 h2⟩⟩
  have emp:GP .any ops prev k (y0v ρ []):=λp hj hf=>⟨λh=>(by cases h.2),λ_ h=>(by cases h),λ_ _ x ⟨s,hs,_⟩=>(by cases hs)⟩
  have mH:∀{v:V} {ts2:TS D.T} {ρ2:List Slot},TRr D F ρ2 ts2 (σ.put o.dst v)->TRr D F ρ2 ts2 (zau σ o v σ.H):=λ{v ts2 ρ2} h=>h
  simp only [pOp] at h
  refine zye (n:=k) hR h (λts1 ho1 hR1 hw h1 => ?_) λts1 ho1 hR1 hw h1 => ?_
  · have hp1:y5n (D:=D) ρ ts1 rds wrs prev:=by
     have hl:∀s,z7l ts1 s=z7l ts s:=λs=>by unfold z7l;rw [ho1]
     exact ⟨λp hj hq=>(hp.q p hj hq).imp_right λ⟨R,a,b⟩=>⟨R,a,λl e x hx=>by obtain ⟨s,c,d,f⟩:=b l e x hx;exact ⟨s,c,by rw [hl];exact d,f⟩⟩,λp hj he=>by obtain ⟨w,a,b⟩:=hp.e p hj he;exact ⟨w,a,λs e x hx=>by rw [hl];exact b s e x hx⟩⟩
    have hwt:=hw.wanted hR1
    have hlv:Lvl F σ.H:=hR1.lv
    split at h1
    · rename_i heff
      split at h1
      ·
       split at h1
       case h_2=>cases h1
       rename_i c hc
       split at h1
       case h_2=>cases h1
       rename_i s x t u hcal hargs htys
       split at h1
       case h_2=>cases h1
       rename_i sv xv hs hx
       obtain ⟨z,v,a1,a2,a3⟩:=yvg h1 (hR1.ev hs) (hR1.ev hx)
       split at a3
       · rename_i ts2 hput
         exact one (c:=y0v ρ []) (v:=v) (H':=σ.H) rfl (.inr ⟨hwt,hlv,.inl ⟨rfl,rfl,λH'' k1 k2=>.inr (.inr (.inr (.inr ⟨c,s,x,t,u,hc,hcal,hargs,htys,a1⟩)))⟩⟩) emp (mH (hR1.put hput (a2 _ _))) (hp1.quiet (R:=[]) rfl (yx5 hput)) a3
       · cases a3
      split at h1
      · rename_i hc
        rw [Bool.and_eq_true] at hc
        obtain ⟨hc1,hc2⟩:=hc
        have fin:∀{W:Nat->Prop} {v:V} {H':yz3} {z:TV D.T} {ts' ts2:TS D.T} {ρ2:List Slot},ox P σ.H σ.ev o.op=some (v,H')->(∀i,¬W i->H'.L[i]? = σ.H.L[i]?)->TRr D F ρ2 ts' {σ with H:=H'}->VR D ρ2 F.lv z v ->
          (∀s0,wrK ts1 o.op=some s0->∀s x,z7l ts1 s=true->Keyed ρ s x->z7l ts' s=true∧Keyed ρ2 s x)->(∀s,wrK ts1 o.op=some s->∀x,W x->z7l ts' s=true∧Keyed ρ2 s x) ->
          (∀s,wrK ts1 o.op=some s->∀q x,z7l ts1 q=true->Keyed ρ q x->q≠s->¬W x)->ts'.put D o.dst z=some ts2->zin P D tbl ops.toList kn kp l (ymp (wrK ts1 o.op) rds) ((k,wrK ts1 o.op)::ymu (wrK ts1 o.op) wrs) ts2=some r ->
          zts P ops .any (Lvl F) (KpQ Q) (Q .normal) (k::l) prev σ :=
         λ{W v H' z ts' ts2 ρ2} g1 g2 g3 g4 g5 g6 g7 g8 g9=>by
          have hH:Lvl F H':=g3.lv
          have ho2:=yx5 g8
          have hl2:∀s,z7l ts2 s=z7l ts' s:=λs=>by unfold z7l;rw [ho2]
          exact one (c:=z075 W) rfl (.inr ⟨hwt,hlv,.inr ⟨rfl,heff,.inl g1,hH,g2⟩⟩) (z01j hp1 hc1 hc2 g7) (g3.put g8 g4) (hp1.eff ⟨rfl,rfl⟩ (λs0 e s x a b=>by rw [hl2];exact g5 s0 e s x a b) λs e x hx=>by rw [hl2];exact g6 s e x hx) g9
        have push:∀{cs:List (TV D.T)} {vs:List V} {ts2:TS D.T},wrK ts1 o.op=some ts1.nx->VRL D ρ F.lv cs vs->ox P σ.H σ.ev o.op=some (.ptr σ.H.lv σ.H.L.length 0,σ.H.push (.cells vs))->(ts1.new D (.cells cs)).put D o.dst (.ptr ts1.nx 0)=some ts2 ->
          zin P D tbl ops.toList kn kp l (ymp (wrK ts1 o.op) rds) ((k,wrK ts1 o.op)::ymu (wrK ts1 o.op) wrs) ts2=some r ->
          zts P ops .any (Lvl F) (KpQ Q) (Q .normal) (k::l) prev σ:=λ{cs vs ts2} g0 g1 g2 g3 g4=>by
         obtain ⟨h3,h4⟩:=hR1.yc0 hD g1
         refine fin (W:=λi=>i=σ.H.L.length) g2 (λi hi => ?_) h3 h4 (λs0 _ s x a b=>⟨ywt hR1 a,ydg _ b⟩) (λs hs x hx => ?_) (λs hs q x a b c e => ?_) g3 g4
         · simp only [yz3.push]
           rw [List.getElem?_append]
           split
           · rfl
           · rename_i hge
             have hi:i≠σ.H.L.length:=hi
             rw [List.getElem?_eq_none (by simp;omega),List.getElem?_eq_none (by omega)]
         · rw [g0] at hs;injection hs with hs;subst hs
           refine ⟨znu (o:=.cells cs) (by simp only [TS.new,kzl,if_true]) trivial,⟨.any,some σ.H.L.length,[]⟩,by rw [<-hR1.nx];simp,by rw [hx]⟩
         · have:=yce hR1 a b
           omega
        have other:wrK ts1 o.op=none->tOp P D ts1 o.op (λv ts'=>match ts'.put D o.dst v with|some ts2=>zin P D tbl ops.toList kn kp l (ymp (wrK ts1 o.op) rds) ((k,wrK ts1 o.op)::ymu (wrK ts1 o.op) wrs) ts2|none=>none) (λ_=>none)=some r ->
          zts P ops .any (Lvl F) (KpQ Q) (Q .normal) (k::l) prev σ:=λg0 hh=>by
         rcases ymr hD hR1 hh with ⟨z,ts',v,H',ρ',a1,a2,a3,a4⟩|⟨s,hs⟩
         · split at a4
           · rename_i ts2 hput
             exact fin (W:=λ_=>True) a1 (λi hi=>(hi trivial).elim) a3 a2 (λs0 e=>by rw [g0] at e;cases e) (λs0 e=>by rw [g0] at e;cases e) (λs0 e=>by rw [g0] at e;cases e) hput a4
           · cases a4
         · cases hs
        cases hop:o.op with
        |alloc t =>
         rw [hop] at h1
         simp only [tOp] at h1
         split at h1
         · rename_i z hz
           split at h1
           · rename_i hs
             obtain ⟨v,b1,b2⟩:=zrq (ρ:=ρ) (lv:=F.lv) hz
             split at h1
             · rename_i ts2 hput
               rw [<-hop] at h1
               exact push (by rw [hop];rfl) (b2.cells hs) (by rw [hop];simp only [ox,yef,b1];rw [if_pos (b2.z0g hs)]) hput h1
             · cases h1
           · cases h1
         · cases h1
        |box t x =>
         rw [hop] at h1
         simp only [tOp] at h1
         split at h1
         · rename_i v hx
           split at h1
           · rename_i hs
             have b2:=hR1.ev hx
             split at h1
             · rename_i ts2 hput
               rw [<-hop] at h1
               exact push (by rw [hop];rfl) (b2.cells hs) (by rw [hop];simp only [ox,hBox];rw [if_pos (b2.z0g hs)]) hput h1
             · cases h1
           · cases h1
         · cases h1
        |store t a x =>
         by_cases hw0:wrK ts1 o.op=none
         · exact other hw0 h1
         · rw [hop] at h1
           simp only [tOp] at h1
           split at h1
           · rename_i av xv ha hx
             rw [hop] at hw0
             simp only [wrK,ha] at hw0
             split at hw0
             · rename_i s off heq
               injection heq with heq;subst heq
               have hwk:wrK ts1 o.op=some s:=by rw [hop];simp only [wrK,ha]
               obtain ⟨i,cs,cs',H',b1,b2,b3,b4,b5,b6,b7⟩:=z007 hD hR1 h1 (hR1.ev ha) (hR1.ev hx)
               split at b7
               · rename_i ts2 hput
                 rw [<-hop] at b7
                 have lset:∀q,z7l ts1 q=true->z7l (ts1.set D s (.cells cs')) q=true:=λq hq=>by
                  obtain ⟨o',c1,c2⟩:=zuv hq
                  by_cases e:s=q
                  · exact znu (o:=.cells cs') (by simp only [TS.set,kzl,if_pos e]) trivial
                  · exact znu (o:=o') (by simp only [TS.set,kzl,if_neg e];exact c1) c2
                 have lives:z7l ts1 s=true:=znu b2 trivial
                 refine fin (W:=λj=>j=i) (by rw [hop];simp only [ox];exact b3) (λj hj=>b4 j hj) b6 (by simp only [VR]) (λs0 _ q x a b=>⟨lset q a,b⟩) (λs0 hs x hx => ?_) (λs0 hs q x a b c e => ?_) hput b7
                 · rw [hwk] at hs;injection hs with hs;subst hs
                   exact ⟨lset s lives,by rw [hx];exact b1⟩
                 · rw [hwk] at hs;injection hs with hs;subst hs
                   subst e
                   exact c (y6h hR1 a lives b b1)
               · cases b7
             · exact (hw0 rfl).elim
           · cases h1
        |call c =>
         by_cases hw0:wrK ts1 o.op=none
         · exact other hw0 h1
         · have h1o:=h1
           rw [hop] at h1
           simp only [tOp] at h1
           rw [hop] at hw0
           simp only [wrK] at hw0
           split at hw0
           · rename_i sx xx hcal hargs
             split at h1
             · rename_i s x t u hcal' hargs' htys
               rw [hargs] at hargs'
               injection hargs' with e1 e2
               subst e1
               split at h1
               · rename_i sv xv hs hx
                 have hno:∀q,sv ≠ .own q:=λq e=>by rw [hs,e] at hw0;exact hw0 rfl
                 have hwk:wrK ts1 o.op=some ts1.nx:=by
                  rw [hop];simp only [wrK,hcal,hargs,hs]
                  rw [hs] at hw0
                  cases sv <;> first|rfl|exact (hw0 rfl).elim
                 obtain ⟨z,ts',v,H',ρ',a1,a2,a3,a4,a5⟩:=y1i hR1 h1 (hR1.ev hs) (hR1.ev hx)
                 obtain ⟨sl',o',rfl,rfl,q1,q2,q3⟩:=a5 hno
                 split at a4
                 · rename_i ts2 hput
                   refine fin (W:=λi=>sl'.k=some i) (by rw [hop];simp only [ox,hcal,hargs,e2,htys];exact a1) (λi hi=>q3 i hi) a3 a2 (λs0 _ s x a b=>⟨ywt hR1 a,ydg _ b⟩) (λs hss x hx => ?_) (λs hss q x a b c e => ?_) hput (by rw [hop];exact a4)
                   · rw [hwk] at hss;injection hss with hss;subst hss
                     exact ⟨znu (o:=o') (by simp only [TS.new,kzl,if_true]) q1,sl',by rw [<-hR1.nx];simp,hx⟩
                   · have:=yce hR1 a b
                     have:=q2 x e
                     omega
                 · cases a4
               · cases h1
             · rename_i s x hcal' hargs' htys
               rw [hcal] at hcal';cases hcal'
             · exfalso;simp [tP,tP1,hcal,FR.of] at h1
           · exact (hw0 rfl).elim
        |_=>rw [hop] at heff;cases heff
      · cases h1
    · rename_i heff
      split at h1
      · rename_i R hR0
        split at h1
        · rename_i hc
          rw [Bool.and_eq_true] at hc
          obtain ⟨hc1,hc2⟩:=hc
          rcases yd0 hD hR1 h1 with ⟨x,v,a1,a2,a3⟩|⟨s,hs⟩
          · split at a3
            · rename_i ts2 hput
              refine one (c:=y0v ρ R) (v:=v) (H':=σ.H) rfl (.inr ⟨hwt,hlv,.inl ⟨rfl,rfl,λH'' k1 k2=>.inl ?_⟩⟩) (yvp hR1 hp1 hc1 hc2) (mH (hR1.put hput a2)) (hp1.quiet hc2 (yx5 hput)) a3
              rw [z049 hR1 hR0 k1 k2];exact a1
            · cases a3
          · cases hs
        · cases h1
      · split at h1
        · rename_i c hc
          split at h1
          · rename_i x hcal
            split at h1
            · rename_i f a b vs hx hvs
              obtain ⟨args,t1,t2⟩:=zyy hR1 hcal hx hvs
              split at h1
              · rcases zoc hD hR1 t2 (λe he=>htbl e (List.mem_filter.1 he).1) h1 with ⟨⟨e,he,hne⟩,_⟩|⟨rv,e1,z,ρ',ts',e2,e3,e4,_⟩|⟨s,hs⟩
                · have:=(List.mem_filter.1 he).2
                  rw [hne] at this;cases this
                · split at e4
                  · rename_i ts2 hput
                    exact one (c:=y0v ρ []) (v:=rv) (H':=σ.H) rfl (.inr ⟨hwt,hlv,.inl ⟨rfl,rfl,λH'' k1 k2=>.inr (.inl ⟨c,f,args,hc,t1,e1 _⟩)⟩⟩) emp (mH (hR1.put hput (e2 ρ))) (hp1.quiet (R:=[]) rfl (yx5 hput)) e4
                  · cases e4
                · cases hs
              · split at h1
                · rename_i hlat
                  rw [Bool.and_eq_true] at hlat
                  obtain ⟨hlat,hefs⟩:=hlat
                  obtain ⟨M,Post,m1,m2,m3,m4,m5,m6⟩:=zwf hD hR1 t2 (λe he=>by
                   obtain ⟨e1,e2⟩:=List.mem_filter.1 he
                   exact ⟨htbl e e1,by simpa using e2⟩) h1
                  let W:Nat->Prop:=λi=>¬(i<σ.H.L.length∧∀k s sl,(k,Src.slot s)∈M->ρ[s]? = some sl->sl.k≠some i)
                  have hpairs:=z006 hR1 hp1 m1 hefs m2
                  refine ⟨o,z07b W,ho,hpairs,.inr ⟨λj hj => ?_,rfl,rfl,hwt,c,f,args,Post,hc,t1,m3,λv H' hpo=>⟨(m4 _ H' hpo).1,λi hi => ?_,?_⟩,λv H' hpo => ?_⟩⟩
                  · exact zpw (List.all_eq_true.1 hlat j hj)
                  · have hi:¬¬_:=hi
                    obtain ⟨i1,i2⟩:=Classical.not_not.1 hi
                    exact (m4 _ H' hpo).2 i i1 i2
                  · obtain ⟨z,ts',ρ',k1,k2,k3⟩:=m5 v H' hpo
                    split at k3
                    · rename_i ts2 hput
                      exact ztq htbl hkn hkp l _ _ _ (k2.put hput k1) (hp1.eff ⟨rfl,rfl⟩ (λs0 e=>by cases e) (λs e=>by cases e)) k3
                    · cases k3
                  · obtain ⟨z,ts',ρ',k1,k2,k3⟩:=m6 v H' hpo
                    intro t' ht'
                    refine hkp z _ _ ρ' v ?_ k1 k3
                    exact ⟨k2.nx,ht'.trans k2.nt,λj x hj=>by simp [fnd] at hj,k2.ob,k2.inj,k2.mine,k2.lv,k2.E,k2.e0,k2.d,k2.out,k2.pin⟩
                · cases h1
            · cases h1
          · cases h1
        · cases h1
  · have hp1:y5n (D:=D) ρ ts1 rds wrs prev:=by
     have hl:∀s,z7l ts1 s=z7l ts s:=λs=>by unfold z7l;rw [ho1]
     exact ⟨λp hj hq=>(hp.q p hj hq).imp_right λ⟨R,a,b⟩=>⟨R,a,λl e x hx=>by obtain ⟨s,c,d,f⟩:=b l e x hx;exact ⟨s,c,by rw [hl];exact d,f⟩⟩,λp hj he=>by obtain ⟨w,a,b⟩:=hp.e p hj he;exact ⟨w,a,λs e x hx=>by rw [hl];exact b s e x hx⟩⟩
    split at h1
    · rename_i ts2 hput
      exact one (c:=y0v ρ []) (v:=.tup []) (H':=σ.H) rfl (.inl ⟨hw,rfl,rfl⟩) emp (mH (hR1.put hput (v:=.tup []) (by simp only [VR];exact ⟨[],rfl,by simp only [VRL]⟩))) (hp1.quiet (R:=[]) rfl (yx5 hput)) h1
    · cases h1
theorem yav {R:Type} {id:Nat} {ops:Array Oper} {d:Bool} {Q:yzl->St->Prop} {kn:TS D.T->Option R} {kp:TV D.T->TS D.T->Option R} {r:R} (htbl:∀e∈tbl,e.Ok P)
  (hkn:∀ts' σ' ρ',TRr D F ρ' ts' σ'->kn ts'=some r->Q .normal σ') (hkp:∀z ts' σ' ρ' v,TRr D F ρ' ts' σ'->VR D ρ' F.lv z v->kp z ts'=some r->Q (.panic v) σ')
  (hR:TRr D F ρ ts σ) (h:y7e P D tbl ops d ts kn kp=some r):Sat P (.region id ops d) σ Q:=by
 unfold y7e at h
 split at h
 ·rename_i hd
  subst hd
  simp only at h
  split at h
  ·rename_i hm
   split at h
   ·split at h
    ·rename_i hB
     obtain ⟨ans,σ',cl,ts',b1,b2,b3,b4⟩:=zg2 hD htbl ops.toList hR h
     exact z05x hm hB ans σ' cl b1 b2 (hkn ts' σ' ρ b3 b4)
    ·cases h
   ·split at h
    ·rename_i hB
     obtain ⟨ans,σ',cl,ts',b1,b2,b3,b4⟩:=zg2 hD htbl _ hR h
     exact z04o _ hm hB ans σ' cl b1 b2 (zpe hD htbl hkn hkp _ _ (λj=>by simp) b3 b4)
    ·split at h
     ·rename_i hB
      simp only [Bool.and_eq_true] at hB
      obtain ⟨⟨h1,h2⟩,h3⟩:=hB
      refine z050 hm _ h1 (Nat.eq_of_beq_eq_true h2) (λj hj => ?_) (ztq hD htbl hkn hkp _ [] [] [] hR ⟨λp hp=>(by cases hp),λp hp=>(by cases hp)⟩ h)
      have h4:=List.all_eq_true.1 h3 j (List.mem_range.2 hj)
      obtain ⟨q,hq,he⟩:=List.any_eq_true.1 h4
      rw [Nat.eq_of_beq_eq_true he];exact hq
     ·cases h
  ·cases h
 ·rename_i hd
  have hd:d=false:=by simpa using hd
  subst hd
  exact z04u (zpe hD htbl hkn hkp ops.toList 0 (λj=>by simp) hR h)
end
end Go.Ab
namespace Go.Ab
open Go
set_option linter.unusedVariables false
set_option linter.unusedSimpArgs false
set_option linter.unusedSectionVars false
section
variable {P : Program}
def y2f (P:Program) (c:Code) (Q:Exit->Act->World->Prop) (a:Act) (w:World):Prop :=
 ∀(b:Frame) (k:List Item) (cs:List Frame),∃e a' w',Q e a' w'∧Arrives P (lone (b.at a (.code c :: .inLoop c::k)) cs w) b k cs e a' w'
theorem y2f.wp {c:Code} {Q:Exit->Act->World->Prop} {a:Act} {w:World} (h:y2f P c Q a w):(Code.loop c).wp P Q a w:=λb k cs=>by
 obtain ⟨e,a',w',hq,harr⟩:=h b k cs
 exact ⟨e,a',w',hq,.of_steps (.one step_loop) harr⟩
theorem y2f.round {c:Code} {Q:Exit->Act->World->Prop} {a:Act} {w:World} (h:c.wp P (Exit.then (y2f P c Q) Q) a w):y2f P c Q a w:=λb k cs=>by
 obtain ⟨e,a₁,w₁,hq,harr⟩:=h b (.inLoop c::k) cs
 cases e with
 |normal =>
  obtain ⟨e₂,a₂,w₂,hq₂,harr₂⟩:=hq b k cs
  exact ⟨e₂,a₂,w₂,hq₂,.of_steps (Steps.trans harr (.one step_inLoop)) harr₂⟩
 |exit id=>exact ⟨_,a₁,w₁,hq,.pass (x:=.inLoop c) rfl (λ_ _=>.inl (by simp)) harr⟩
 |goto l=>exact ⟨_,a₁,w₁,hq,.pass (x:=.inLoop c) rfl (λ_ _=>.inl (by simp)) harr⟩
 |ret=>exact ⟨_,a₁,w₁,hq,.pass (x:=.inLoop c) rfl (λ_ _=>.inl (by simp)) harr⟩
 |panic ch=>exact ⟨_,a₁,w₁,hq,.pass (x:=.inLoop c) rfl (λ_ _=>.inl (by simp)) harr⟩
 |outgrown=>exact ⟨_,a₁,w₁,hq,.pass (x:=.inLoop c) rfl (λ_ _=>.inl (by simp)) harr⟩
def y6g (P:Program) (c:Code) (σ:St) (Q:yzl->St->Prop):Prop :=
 ∀W0 g0 H0 W a g,Base W0 g0 H0->(σ.e0=H0.E∧Step W0 g0 H0 W g σ.H)->z0c W a g σ->y2f P c (ypp W0 g0 H0 Q) a W
theorem y6g.sat {c:Code} {σ:St} {Q:yzl->St->Prop} (h:y6g P c σ Q):Sat P (.loop c) σ Q:=λW0 g0 H0 W a g hB hS hG=>(h W0 g0 H0 W a g hB hS hG).wp
theorem y6g.round {c:Code} {σ:St} {Q:yzl->St->Prop} (h:Sat P c σ (yzl.then (λσ'=>y6g P c σ' Q) Q)):y6g P c σ Q:=λW0 g0 H0 W a g hB hS hG=>by
 refine y2f.round (wp_mono (h W0 g0 H0 W a g hB hS hG) λe a w ⟨g,σ,e',h1,h2,h3,h4⟩ => ?_)
 cases h1 with
 |normal=>exact h4 W0 g0 H0 w a g hB h2 h3
 |exit id=>exact ⟨g,σ,_,.exit id,h2,h3,h4⟩
 |ret=>exact ⟨g,σ,_,.ret,h2,h3,h4⟩
 |panic v c hr=>exact ⟨g,σ,_,.panic v c hr,h2,h3,h4⟩
end
section
variable {P : Program} {D : Dat} {F : Fr} {R : Type}
structure KOk (D:Dat) (F:Fr) (K:Ks D.T R) (Q:yzl->St->Prop) (r:R):Prop where
 kn:∀ts σ,TR D F ts σ->K.kn ts=some r->Q .normal σ
 kx:∀id k ts σ,fnd K.kx id=some k->TR D F ts σ->k ts=some r->Q (.exit id) σ
 kr:∀ts σ,TR D F ts σ->K.kr ts=some r->Q .ret σ
 kp:∀z ts σ ρ v,TRr D F ρ ts σ->VR D ρ F.lv z v->K.kp z ts=some r->Q (.panic v) σ
def AC.Claim (P:Program) (a:AC) (σ:St) (Q:yzl->St->Prop):Prop :=
 match a with
 | .loop b=>y6g P b.erase σ Q
 |a=>Sat P a.erase σ Q
theorem AC.Claim.sat {a:AC} {σ:St} {Q:yzl->St->Prop} (h:a.Claim P σ Q):Sat P a.erase σ Q:=by
 cases a <;> first|exact h|exact y6g.sat h
def yaw (P:Program) (φ:Nat->AC->(yzl->St->Prop)->Prop):AC->(yzl->St->Prop)->Prop
 | .seq a b,Q=>yaw P φ a (yzl.then (λσ=>Sat P b.erase σ Q) Q)∧yaw P φ b Q
 | .cond _ a b,Q=>yaw P φ a Q∧yaw P φ b Q
 | .block id a,Q=>yaw P φ a (yzl.inBlock id Q)
 | .loop a,Q=>yaw P φ a (yzl.then (λσ=>y6g P a.erase σ Q) Q)
 | .lab l a,Q=>φ l a Q∧yaw P φ a Q
 |_,_=>True
def AC.site (P:Program) (l:Nat):AC->(yzl->St->Prop)->Option (AC×(yzl->St->Prop))
 | .seq a b,Q=>match AC.site P l a (yzl.then (λσ=>Sat P b.erase σ Q) Q) with
   |some x=>some x
   |none=>AC.site P l b Q
 | .cond _ a b,Q=>match AC.site P l a Q with
   |some x=>some x
   |none=>AC.site P l b Q
 | .block id a,Q=>AC.site P l a (yzl.inBlock id Q)
 | .loop a,Q=>AC.site P l a (yzl.then (λσ=>y6g P a.erase σ Q) Q)
 | .lab l' a,Q=>match Nat.beq l' l with
   |true=>some (a,Q)
   |false=>AC.site P l a Q
 |_,_=>none
def AC.labels:AC->List Nat
 | .seq a b=>a.labels++b.labels
 | .cond _ a b=>a.labels++b.labels
 | .block _ a=>a.labels
 | .loop a=>a.labels
 | .lab l a=>l::a.labels
 |_=>[]
theorem zhu {l:Nat}:∀{c:AC} {Q:yzl->St->Prop} {x:AC×(yzl->St->Prop)},c.site P l Q=some x->l∈c.labels
 | .seq a b,Q,x,h=>by
   simp only [AC.site] at h
   split at h
   · rename_i y hy;exact List.mem_append_left _ (zhu hy)
   · exact List.mem_append_right _ (zhu h)
 | .cond _ a b,Q,x,h=>by
   simp only [AC.site] at h
   split at h
   · rename_i y hy;exact List.mem_append_left _ (zhu hy)
   · exact List.mem_append_right _ (zhu h)
 | .block id a,Q,x,h=>zhu (c:=a) h
 | .loop a,Q,x,h=>zhu (c:=a) h
 | .lab l' a,Q,x,h=>by
   simp only [AC.site] at h
   split at h
   · rename_i e;rw [Nat.eq_of_beq_eq_true e];exact List.mem_cons_self
   · exact List.mem_cons_of_mem _ (zhu h)
 | .skip,Q,x,h=>by cases h
 | .region _ _ _,Q,x,h=>by cases h
 | .exit _,Q,x,h=>by cases h
 | .ret,Q,x,h=>by cases h
 | .other _,Q,x,h=>by cases h
theorem ymw {l:Nat} {c:AC} {Q:yzl->St->Prop} (h:l∉c.labels):c.site P l Q=none:=by
 cases hs:c.site P l Q with
 |none=>rfl
 |some x=>exact (h (zhu hs)).elim
theorem zpg {φ:Nat->AC->(yzl->St->Prop)->Prop}:∀{c:AC} {Q:yzl->St->Prop},c.labels.Nodup->(∀l a Q',c.site P l Q=some (a,Q')->φ l a Q')->yaw P φ c Q
 | .seq a b,Q,hn,h=>by
   simp only [AC.labels] at hn
   have hn:=List.nodup_append.1 hn
   refine ⟨zpg hn.1 λl x Q' hs=>h l x Q' (by simp only [AC.site,hs]),zpg hn.2.1 λl x Q' hs=>h l x Q' ?_⟩
   have hl:=zhu hs
   simp only [AC.site,ymw (P:=P) (Q:=yzl.then (λσ=>Sat P b.erase σ Q) Q) (λhm=>hn.2.2 l hm l hl rfl)]
   exact hs
 | .cond _ a b,Q,hn,h=>by
   simp only [AC.labels] at hn
   have hn:=List.nodup_append.1 hn
   refine ⟨zpg hn.1 λl x Q' hs=>h l x Q' (by simp only [AC.site,hs]),zpg hn.2.1 λl x Q' hs=>h l x Q' ?_⟩
   have hl:=zhu hs
   simp only [AC.site,ymw (P:=P) (Q:=Q) (λhm=>hn.2.2 l hm l hl rfl)]
   exact hs
 | .block id a,Q,hn,h=>zpg (c:=a) hn λl x Q' hs=>h l x Q' hs
 | .loop a,Q,hn,h=>zpg (c:=a) hn λl x Q' hs=>h l x Q' hs
 | .lab l' a,Q,hn,h=>by
   simp only [AC.labels,List.nodup_cons] at hn
   refine ⟨h l' a Q (by simp only [AC.site,Nat.beq_refl]),zpg hn.2 λl x Q' hs=>h l x Q' ?_⟩
   have hl:=zhu hs
   have:Nat.beq l' l=false:=by
    cases e:Nat.beq l' l with
    |false=>rfl
    |true=>have:=Nat.eq_of_beq_eq_true e;subst this;exact (hn.1 hl).elim
   simp only [AC.site,this]
   exact hs
 | .skip,Q,hn,h=>trivial
 | .region _ _ _,Q,hn,h=>trivial
 | .exit _,Q,hn,h=>trivial
 | .ret,Q,hn,h=>trivial
 | .other _,Q,hn,h=>trivial
variable {J : Nat → TS D.T → Option R} {tbl : List (Ent D)} {r : R} (hD : D.Ok P) (htbl : ∀ e ∈ tbl, e.Ok P)
def LOk (P:Program) (D:Dat) (F:Fr) (J:Nat->TS D.T->Option R) (r:R) (l:Nat) (a:AC) (Q:yzl->St->Prop):Prop:=∀ts σ,TR D F ts σ->J l ts=some r->a.Claim P σ Q
include hD htbl
theorem ze6:∀{c:AC} {ts:TS D.T} {σ:St} {K:Ks D.T R} {Q:yzl->St->Prop},KOk D F K Q r->yaw P (LOk P D F J r) c Q->TR D F ts σ->run P D tbl J c ts K=some r->Sat P c.erase σ Q
 | .skip,ts,σ,K,Q,hK,hL,hT,h=>z04p (hK.kn ts σ hT h)
 | .region id ops d,ts,σ,K,Q,hK,hL,hT,h=>by
   obtain ⟨τ,ρ,h1,h2⟩:=hT
   exact yv8 h1 (yav hD htbl (λts' σ' ρ' hR hk=>hK.kn ts' σ' hR.tr hk) (λz ts' σ' ρ' v=>hK.kp z ts' σ' ρ' v) h2 h)
 | .seq a b,ts,σ,K,Q,hK,hL,hT,h=>by
   simp only [run] at h
   exact z06c (ze6 (K:={K with kn:=λts=>run P D tbl J b ts K}) (Q:=yzl.then (λσ=>Sat P b.erase σ Q) Q) ⟨λts σ hT hk=>ze6 hK hL.2 hT hk,hK.kx,hK.kr,hK.kp⟩ hL.1 hT h)
 | .cond c a b,ts,σ,K,Q,hK,hL,hT,h=>by
   simp only [run] at h
   obtain ⟨τ,ρ,h1,h2⟩:=hT
   refine yv8 h1 ?_
   split at h
   · rename_i v hv
     have he:=h2.ev hv
     simp only [VR] at he
     split at h
     · rename_i t
       obtain ⟨w,e1,e2⟩:=h2.tm t _ hv
       simp only [VR] at e2
       subst e2
       refine yuz he (λhb => ?_) λhb => ?_
       · subst hb
         exact ze6 hK hL.1 (h2.tell e1 (by simp only [VR])).tr h
       · subst hb
         exact ze6 hK hL.2 (h2.tell e1 (by simp only [VR])).tr h
     · refine yuz he (λhb => ?_) λhb => ?_
       · subst hb
         exact ze6 hK hL.1 h2.tr h
       · subst hb
         exact ze6 hK hL.2 h2.tr h
   · cases h
 | .block id a,ts,σ,K,Q,hK,hL,hT,h=>by
   simp only [run] at h
   refine z023 (ze6 (K:={K with kx:=(id,K.kn)::K.kx}) (Q:=yzl.inBlock id Q) ⟨λts σ hT hk=>hK.kn ts σ hT hk,λid' k ts σ hf hT hk => ?_,hK.kr,hK.kp⟩ hL hT h)
   replace hf:fnd ((id,K.kn)::K.kx) id'=some k:=hf
   rw [kzl] at hf
   show z05s (Nat.beq id' id) (Q .normal σ) (Q (.exit id') σ)
   split at hf
   · rename_i e
     injection hf with hf;subst hf;subst e
     rw [Nat.beq_refl]
     exact hK.kn ts σ hT hk
   · rename_i e
     have:Nat.beq id' id=false:=by
      cases e':Nat.beq id' id with
      |false=>rfl
      |true=>exact (e (Nat.eq_of_beq_eq_true e').symm).elim
     rw [this]
     exact hK.kx id' k ts σ hf hT hk
 | .loop a,ts,σ,K,Q,hK,hL,hT,h=>by simp [run] at h
 | .exit id,ts,σ,K,Q,hK,hL,hT,h=>by
   simp only [run] at h
   split at h
   · rename_i k hk;exact z04w (hK.kx id k ts σ hk hT h)
   · cases h
 | .ret,ts,σ,K,Q,hK,hL,hT,h=>z06u (hK.kr ts σ hT h)
 | .lab l a,ts,σ,K,Q,hK,hL,hT,h=>(hL.1 ts σ hT h).sat
 | .other c,ts,σ,K,Q,hK,hL,hT,h=>by simp [run] at h
omit hD htbl in
theorem zpr {l:Nat}:∀{c:AC} {K:Ks D.T R} {kl:TS D.T->Option R} {Q:yzl->St->Prop},AC.at P D tbl J l c K kl=none->c.site P l Q=none
 | .seq a b,K,kl,Q,h=>by
   simp only [AC.at] at h
   split at h
   · cases h
   · rename_i hn
     simp only [AC.site]
     rw [zpr hn]
     exact zpr h
 | .cond _ a b,K,kl,Q,h=>by
   simp only [AC.at] at h
   split at h
   · cases h
   · rename_i hn
     simp only [AC.site]
     rw [zpr hn]
     exact zpr h
 | .block id a,K,kl,Q,h=>zpr (c:=a) (K:={K with kx:=(id,K.kn)::K.kx}) (kl:=λ_=>none) h
 | .loop a,K,kl,Q,h=>zpr (c:=a) (K:={K with kn:=kl}) (kl:=λ_=>none) h
 | .lab l' a,K,kl,Q,h=>by
   simp only [AC.at] at h
   split at h
   · cases h
   · rename_i e
     simp only [AC.site,e]
     exact zpr (c:=a) h
 | .skip,K,kl,Q,h=>rfl
 | .region _ _ _,K,kl,Q,h=>rfl
 | .exit _,K,kl,Q,h=>rfl
 | .ret,K,kl,Q,h=>rfl
 | .other _,K,kl,Q,h=>rfl
theorem zog {l:Nat}:∀{c:AC} {K:Ks D.T R} {kl:TS D.T->Option R} {Q:yzl->St->Prop} {f:TS D.T->Option R},KOk D F K Q r->(∀b,c = .loop b->∀ts σ,TR D F ts σ->kl ts=some r->y6g P b.erase σ Q)->yaw P (LOk P D F J r) c Q->AC.at P D tbl J l c K kl=some f ->
  ∃a Q',c.site P l Q=some (a,Q')∧∀ts σ,TR D F ts σ->f ts=some r->a.Claim P σ Q'
 | .seq a b,K,kl,Q,f,hK,hkl,hL,h=>by
   simp only [AC.at] at h
   split at h
   · rename_i g hg
     injection h with h;subst h
     obtain ⟨x,Q',h1,h2⟩:=zog (c:=a) (K:={K with kn:=λts=>run P D tbl J b ts K}) (Q:=yzl.then (λσ=>Sat P b.erase σ Q) Q) ⟨λts σ hT hk=>ze6 hD htbl hK hL.2 hT hk,hK.kx,hK.kr,hK.kp⟩ (λ_ _ ts σ _ hk=>by cases hk) hL.1 hg
     exact ⟨x,Q',by simp only [AC.site,h1],h2⟩
   · rename_i hn
     obtain ⟨x,Q',h1,h2⟩:=zog (c:=b) hK (λ_ _ ts σ _ hk=>by cases hk) hL.2 h
     refine ⟨x,Q',?_,h2⟩
     simp only [AC.site]
     rw [zpr hn]
     exact h1
 | .cond _ a b,K,kl,Q,f,hK,hkl,hL,h=>by
   simp only [AC.at] at h
   split at h
   · rename_i g hg
     injection h with h;subst h
     obtain ⟨x,Q',h1,h2⟩:=zog (c:=a) hK (λ_ _ ts σ _ hk=>by cases hk) hL.1 hg
     exact ⟨x,Q',by simp only [AC.site,h1],h2⟩
   · rename_i hn
     obtain ⟨x,Q',h1,h2⟩:=zog (c:=b) hK (λ_ _ ts σ _ hk=>by cases hk) hL.2 h
     refine ⟨x,Q',?_,h2⟩
     simp only [AC.site]
     rw [zpr hn]
     exact h1
 | .block id a,K,kl,Q,f,hK,hkl,hL,h=>by
   simp only [AC.at] at h
   refine zog (c:=a) (K:={K with kx:=(id,K.kn)::K.kx}) (Q:=yzl.inBlock id Q) ⟨λts σ hT hk=>hK.kn ts σ hT hk,λid' k ts σ hf hT hk => ?_,hK.kr,hK.kp⟩ (λ_ _ ts σ _ hk=>by cases hk) hL h
   replace hf:fnd ((id,K.kn)::K.kx) id'=some k:=hf
   rw [kzl] at hf
   show z05s (Nat.beq id' id) (Q .normal σ) (Q (.exit id') σ)
   split at hf
   · rename_i e
     injection hf with hf;subst hf;subst e
     rw [Nat.beq_refl]
     exact hK.kn ts σ hT hk
   · rename_i e
     have:Nat.beq id' id=false:=by
      cases e':Nat.beq id' id with
      |false=>rfl
      |true=>exact (e (Nat.eq_of_beq_eq_true e').symm).elim
     rw [this]
     exact hK.kx id' k ts σ hf hT hk
 | .loop a,K,kl,Q,f,hK,hkl,hL,h=>by
   simp only [AC.at] at h
   exact zog (c:=a) (K:={K with kn:=kl}) (Q:=yzl.then (λσ=>y6g P a.erase σ Q) Q) ⟨λts σ hT hk=>hkl a rfl ts σ hT hk,hK.kx,hK.kr,hK.kp⟩ (λ_ _ ts σ _ hk=>by cases hk) hL h
 | .lab l' a,K,kl,Q,f,hK,hkl,hL,h=>by
   simp only [AC.at] at h
   split at h
   · rename_i e
     have e:=Nat.eq_of_beq_eq_true e
     subst e
     injection h with h;subst h
     refine ⟨a,Q,by simp only [AC.site,Nat.beq_refl],λts σ hT hf => ?_⟩
     unfold z05w at hf
     split at hf
     · rename_i b
       exact y6g.round (ze6 hD htbl (K:={K with kn:=J l'}) (Q:=yzl.then (λσ=>y6g P b.erase σ Q) Q) ⟨λts σ hT hk=>hL.1 ts σ hT hk,hK.kx,hK.kr,hK.kp⟩ hL.2 hT hf)
     · rename_i hne
       have:=ze6 hD htbl hK hL.2 hT hf
       cases a <;> first|exact this|exact (hne _ rfl).elim
   · rename_i e
     obtain ⟨x,Q',h1,h2⟩:=zog (c:=a) hK (λb hb ts σ hT hk=>by subst hb;exact hL.1 ts σ hT hk) hL.2 h
     exact ⟨x,Q',by simp only [AC.site,e];exact h1,h2⟩
 | .skip,K,kl,Q,f,hK,hkl,hL,h=>by cases h
 | .region _ _ _,K,kl,Q,f,hK,hkl,hL,h=>by cases h
 | .exit _,K,kl,Q,f,hK,hkl,hL,h=>by cases h
 | .ret,K,kl,Q,f,hK,hkl,hL,h=>by cases h
 | .other _,K,kl,Q,f,hK,hkl,hL,h=>by cases h
end
end Go.Ab
namespace Go.Ab
open Go
set_option linter.unusedVariables false
set_option linter.unusedSimpArgs false
set_option linter.unusedSectionVars false
section
variable {P : Program} {D : Dat} {F : Fr} {ρ : List Slot} {ts : TS D.T} {σ : St} {lv : Nat} {R : Type}
theorem yuy {α:Type}:∀(l:List α) (k j:Nat) (a:α),fnd (argT l k) j=some a->k<=j∧l[j-k]? = some a
 |[],k,j,a,h=>by simp [argT,fnd] at h
 |b::l,k,j,a,h=>by
  simp only [argT,kzl] at h
  split at h
  · rename_i e;injection h with h;subst h;subst e;simp
  · obtain ⟨h1,h2⟩:=yuy l (k+1) j a h
    refine ⟨by omega,?_⟩
    rw [show j-k=(j-(k+1))+1 by omega]
    simpa using h2
theorem y6f:∀(os:List OSh) {k:Nat} {x:HL D.T (z3d os)} {j:Nat},k<=j->j<k+os.length->∃o,fnd (zbb D (λk=>k) os k x) j=some o∧o.live
 |[],k,x,j,h1,h2=>by simp at h2;omega
 |o::os,k,x,j,h1,h2=>by
  show ∃o',fnd ((k,ztp D (λk=>k) o (HL.fst _ x))::zbb D (λk=>k) os (k+1) (HL.snd _ x)) j=some o'∧o'.live
  rw [kzl]
  split
  · exact ⟨_,rfl,ynm⟩
  · exact y6f os (by omega) (by simp only [List.length_cons] at h2;omega)
theorem y5m:∀(os:List OSh) {k:Nat} {x:HL D.T (z3d os)} {j:Nat} {o:TO D.T},(j,o)∈zbb D (λk=>k) os k x->fnd (zbb D (λk=>k) os k x) j=some o
 |[],k,x,j,o,h=>by cases h
 |osh::os,k,x,j,o,h=>by
  replace h:(j,o)∈(k,ztp D (λk=>k) osh (HL.fst _ x))::zbb D (λk=>k) os (k+1) (HL.snd _ x):=h
  show fnd ((k,ztp D (λk=>k) osh (HL.fst _ x))::zbb D (λk=>k) os (k+1) (HL.snd _ x)) j=some o
  rw [kzl]
  rcases List.mem_cons.1 h with h|h
  · injection h with h1 h2;subst h1;subst h2;rw [if_pos rfl]
  · obtain ⟨j',h1,_,h3,_⟩:=zy5 os h
    rw [if_neg (by omega)]
    exact y5m os h
theorem zr8 (hD:D.Ok P) (hR:TRr D F ρ ts σ):∀{rs:List ResultVar} {cs:List (TV D.T)},ybz P D ts rs=some cs->∃vs,yp3 P σ rs=some vs∧VRL D ρ F.lv cs vs
 |[],cs,h=>by simp only [ybz,Option.some.injEq] at h;subst h;exact ⟨[],rfl,by simp only [VRL]⟩
 | .tmp t::rs,cs,h=>by
   simp only [ybz] at h
   split at h
   · rename_i v vs hv hvs
     injection h with h;subst h
     obtain ⟨us,h1,h2⟩:=zr8 hD hR hvs
     exact ⟨σ.t.getD t .any::us,by simp only [yp3,resV,h1],by simp only [VRL];exact ⟨_,_,rfl,hR.tmp hv,h2⟩⟩
   · cases h
 | .cell a t::rs,cs,h=>by
   simp only [ybz] at h
   split at h
   · rename_i p hp
     split at h
     · rename_i v vs hv hvs
       injection h with h;subst h
       obtain ⟨us,h1,h2⟩:=zr8 hD hR hvs
       obtain ⟨u,h3,h4⟩:=y7w hD hR hv (hR.tmp hp)
       exact ⟨u::us,by simp only [yp3,resV,h3,h1],by simp only [VRL];exact ⟨_,_,rfl,h4,h2⟩⟩
     · cases h
   · cases h
theorem ywz {c:Code} {σ:St} {Q:yzl->St->Prop} (h:Sat P c σ λe σ=>∃τ,zyo σ τ∧(∀v,e ≠ .panic v)∧Q e τ):Sat P c σ Q:=λW0 g0 H0 W a g hB hS hG=>by
 refine wp_mono (h W0 g0 H0 W a g hB hS hG) λe a w ⟨g,σ,e',h1,h2,h3,τ,h4,h5,h6⟩ => ?_
 obtain ⟨g',k1,k2⟩:=h4 W0 g0 H0 w a g hB h2 h3
 refine ⟨g',τ,e',?_,k1,k2,h6⟩
 cases h1 with
 |normal=>exact .normal
 |exit id=>exact .exit id
 |ret=>exact .ret
 |panic v c hr=>exact (h5 v rfl).elim
def EndQ (D:Dat) (F:Fr) (l:LSh) (pack:HL D.T l.tys->R) (r:R) (e:yzl) (σ:St):Prop :=
 match e with
 | .normal| .ret=>∃x,pack x=r∧TR D F (l.bld D x) σ
 |_=>False
theorem z013 (hD:D.Ok P) {l:LSh} (hp:F.pin.length<=l.pin) (hp2:l.pin<=l.os.length) {pack:HL D.T l.tys->R} {r:R}:KOk D F (yv1 D l pack) (EndQ D F l pack r) r:=by
 refine ⟨λts σ hT h => ?_,λid k ts σ h=>by simp [yv1,fnd] at h,λts σ hT h => ?_,λz ts σ ρ v _ _ h=>by simp [yv1] at h⟩
 ·obtain ⟨x,h1,h2⟩:=LSh.zlb hD hp hp2 hT h
  injection h1 with h1
  exact ⟨x,h1,h2⟩
 ·obtain ⟨x,h1,h2⟩:=LSh.zlb hD hp hp2 hT h
  injection h1 with h1
  exact ⟨x,h1,h2⟩
def Runs (P:Program) (D:Dat) (c:Code) (p:Nat) (args:List Sh) (aos:List OSh) (nt:Nat) (K:Ks D.T R) (go:HL D.T (Sh.z7d args++z3d aos)->Option R):Prop :=
 ∀F Q r,F.pin.length<=p->KOk D F K Q r->∀x σ,TR D F (entry D args aos nt x) σ->go x=some r->Sat P c σ Q
theorem zy3 {args:List V} {n:Nat} (cs:List (TV D.T)) (h:VRL D ρ lv cs args):∀(j:Nat) (x:TV D.T),fnd (argT cs 0) j=some x->∃v,(args++List.replicate n V.any)[j]? = some v∧VR D ρ lv x v:=λj x hj=>by
 obtain ⟨_,h1⟩:=yuy cs 0 j x hj
 obtain ⟨v,h2,h3⟩:=h.get j x (by simpa using h1)
 exact ⟨v,by rw [List.getElem?_append_left (List.getElem?_eq_some_iff.1 h2).1];exact h2,h3⟩
theorem z06p (hD:D.Ok P) {e:Ent D} {fn:Func} {code:Code} {nt:Nat} {l:LSh} {pack:HL D.T l.tys->R} {un:R->HL D.T (Sh.z7d e.outs++z3d e.ros)} {go:HL D.T (Sh.z7d e.args++z3d e.aos)->Option R}
  (hf:P.funcs[e.f]? = some fn) (hb:fn.body=some code) (hnt:fn.ntmps=nt) (hent:∀args w,(callFunc e.f args).run P w = .ok (.enter e.f args) w) (hargs:e.args.length<=nt)
  (hgo:∀(R':Type) (x:HL D.T (Sh.z7d e.args++z3d e.aos)) (k:HL D.T (Sh.z7d e.outs++z3d e.ros)->Option R') (kp:HL D.T (e.pan.tys++z3d e.pos)->Option R'),e.go x k kp=(go x).bind λr=>k (un r))
  (hpure:e.pure=false) (hren:e.ren=[]) (hp1:e.p<=l.pin) (hp2:l.pin<=l.os.length) (hlen:l.os.length=e.ros.length)
  (hout:∀x,ybz P D (l.bld D x) fn.results.toList=some (z7e D (λk=>k) e.outs (HL.fst _ (un (pack x))))∧(l.bld D x).o=zbb D (λk=>k) e.ros 0 (HL.snd _ (un (pack x))))
  (hrun:Runs P D code e.p e.args e.aos nt (yv1 D l pack) go):e.Ok P:=λR' x k kp r h=>by
 rw [hpure]
 rw [hgo] at h
 obtain ⟨r0,h1,h2⟩:=zxm h
 refine .inl ⟨un r0,h2,λlv L E ρ0 vargs k1 k2 k3 k4 => ?_⟩
 have hvl:vargs.length=e.args.length:=by
  rw [<-k2.length]
  have:∀(l:List Sh) (y:HL D.T (Sh.z7d l)),(z7e D (λk=>k) l y).length=l.length:=λl=>by
   induction l with
   |nil=>intro y;rfl
   |cons s l ih=>intro y;show (zpj D (λk=>k) s (HL.fst _ y)::z7e D (λk=>k) l (HL.snd _ y)).length=_;rw [List.length_cons,ih,List.length_cons]
  exact this _ _
 let F:Fr:=⟨lv,E,E,L,λi=>i<L.length∧∀(k:Nat) (sl0:Slot),ρ0[k]? = some sl0->sl0.k≠some i,ρ0.take e.p⟩
 have hobj:∀s o,fnd (zbb D (λk=>k) e.aos 0 (HL.snd _ x)) s=some o->∃sl,ρ0[s]? = some sl∧OR D ρ0 lv L sl o:=λs o ho=>k3 s o (zc6 ho)
 have hR0:TRr D F ρ0 (entry D e.args e.aos nt x) ⟨vargs++List.replicate (nt-vargs.length) .any,⟨lv,L,E⟩,[],E⟩:=by
  refine ⟨k1,by simp only [entry,List.length_append,List.length_replicate];omega,zy3 _ k2,hobj,λs s' o o' sl sl' i a1 a2 l1 l2 r1 r2=>k4 s s' sl sl' i r1 r2,λs o sl i a1 l1 r1 hk ho=>ho.2 s sl r1 hk,rfl,rfl,rfl,rfl,λi hi=>⟨hi.1,rfl⟩,λj sl hj => ?_⟩
  simp only [F,List.getElem?_take] at hj
  split at hj
  ·exact hj
  ·cases hj
 refine z02x hf hb hnt hent (ywz ((hrun F _ r0 (by simp only [F,List.length_take];omega) (z013 hD (by simp only [F,List.length_take];omega) hp2) x _ hR0.tr h1).mono λex σ hq => ?_))
 have key:∀ex,(ex = .normal∨ex = .ret)->(∃x,pack x=r0∧TR D F (l.bld D x) σ)->∃τ,zyo σ τ∧(∀v,ex ≠ .panic v)∧z07d P fn (λout H'=>∃L' ρ',H'=⟨lv,L',E⟩∧Left D lv L ρ0 e.p L' ρ' e.ros (HL.snd _ (un r0))∧(∀q∈e.ren,∀sl,ρ0[q.1]? = some sl->∃sl',ρ'[q.2]? = some sl'∧sl'.v=sl.v)∧∃vs,out = .ret (ziw vs)∧VRL D ρ' lv (z7e D (λk=>k) e.outs (HL.fst _ (un r0))) vs) ex τ:=λex hex ⟨y,hy,τ,ρ',w1,w2⟩=>by
  subst hy
  obtain ⟨o1,o2⟩:=hout y
  obtain ⟨vs,q1,q2⟩:=zr8 hD w2 o1
  have hH:τ.H=⟨lv,τ.H.L,E⟩:=zy7 (F:=F) τ.H w2.lv w2.E
  have hleft:Left D lv L ρ0 e.p τ.H.L ρ' e.ros (HL.snd _ (un (pack y))):=by
   have hlen':ρ'.length=e.ros.length:=by rw [w2.nx,<-hlen];rfl
   have live:∀s sl,ρ'[s]? = some sl->∃o,fnd (l.bld D y).o s=some o∧o.live:=λs sl hs=>by
    rw [o2];exact y6f e.ros (Nat.zero_le _) (by rw [Nat.zero_add,<-hlen'];exact (List.getElem?_eq_some_iff.1 hs).1)
   refine ⟨hlen',λj o hm => ?_,λs s' sl sl' i r1 r2 c1 c2 => ?_,λs sl i r1 c1 => ?_,λi hi hno=>w2.out i ⟨hi,hno⟩,λj sl hj hs => ?_⟩
   ·exact w2.ob j o (by rw [o2];exact y5m e.ros hm)
   ·obtain ⟨o,a1,a2⟩:=live s sl r1
    obtain ⟨o',b1,b2⟩:=live s' sl' r2
    exact w2.inj s s' o o' sl sl' i a1 b1 a2 b2 r1 r2 c1 c2
   ·obtain ⟨o,a1,a2⟩:=live s sl r1
    have:=w2.mine s o sl i a1 a2 r1 c1
    by_cases hlt:i<L.length
    ·right
     by_cases hex:∃(k:Nat) (sl0:Slot),ρ0[k]? = some sl0∧sl0.k=some i
     ·exact hex
     ·exact (this ⟨hlt,λk sl0 e1 e2=>hex ⟨k,sl0,e1,e2⟩⟩).elim
    ·left;omega
   ·exact w2.pin j sl (by simp only [F,List.getElem?_take];rw [if_pos hj];exact hs)
  refine ⟨τ,w1,λv e=>by rcases hex with h|h <;> (rw [h] at e;cases e),?_⟩
  rcases hex with rfl|rfl
  ·exact ⟨ziw vs,ziw vs,by simp only [zee,q1,Option.map_some],w2.d,.refl _,τ.H.L,ρ',hH,hleft,(by rw [hren];intro q hq;cases hq),vs,rfl,q2⟩
  ·exact ⟨ziw vs,ziw vs,by simp only [zee,q1,Option.map_some],w2.d,.refl _,τ.H.L,ρ',hH,hleft,(by rw [hren];intro q hq;cases hq),vs,rfl,q2⟩
 cases ex with
 |normal=>exact key _ (.inl rfl) hq
 |ret=>exact key _ (.inr rfl) hq
 |exit id=>exact hq.elim
 |panic v=>exact hq.elim
mutual
theorem VRn.lvl {lv':Nat}:∀{x:TV D.T} {v:V},VR D [] lv x v->VR D [] lv' x v
 | .own s,v,h=>by simp only [VR] at h;obtain ⟨sl,h1,_⟩:=h;simp at h1
 | .osl s lo,v,h=>by simp only [VR] at h;obtain ⟨sl,j,ver,h1,_⟩:=h;simp at h1
 | .ptr s off,v,h=>by simp only [VR] at h;obtain ⟨sl,i,h1,_⟩:=h;simp at h1
 | .bp s off,v,h=>by simp only [VR] at h;obtain ⟨sl,i,h1,_⟩:=h;simp at h1
 | .map s,v,h=>by simp only [VR] at h;obtain ⟨sl,i,h1,_⟩:=h;simp at h1
 | .mc t es,v,h=>by unfold VR at h ⊢;exact h
 | .ap s t i x off,v,h=>by simp only [VR] at h;obtain ⟨sl,w,h1,_⟩:=h;simp at h1
 | .ref cs off,v,h=>by simp only [VR] at h ⊢;obtain ⟨vs,h1,h2⟩:=h;exact ⟨vs,h1,VRLn.lvl h2⟩
 | .fn f a b,v,h=>by simp only [VR] at h ⊢;obtain ⟨as,bs,h1,h2,h3⟩:=h;exact ⟨as,bs,h1,VRLn.lvl h2,VRLn.lvl h3⟩
 | .iface t x,v,h=>by simp only [VR] at h ⊢;obtain ⟨y,h1,h2⟩:=h;exact ⟨y,h1,VRn.lvl h2⟩
 | .agg cs,v,h=>by simp only [VR] at h ⊢;obtain ⟨vs,h1,h2⟩:=h;exact ⟨vs,h1,VRLn.lvl h2⟩
 | .tup cs,v,h=>by simp only [VR] at h ⊢;obtain ⟨vs,h1,h2⟩:=h;exact ⟨vs,h1,VRLn.lvl h2⟩
 | .any,v,h=>by simp only [VR]
 | .bool b,v,h=>by simpa only [VR] using h
 | .int k n,v,h=>by simpa only [VR] using h
 | .str b,v,h=>by simpa only [VR] using h
 | .nilp,v,h=>by simpa only [VR] using h
 | .nils,v,h=>by simpa only [VR] using h
 | .mapn,v,h=>by simpa only [VR] using h
 | .nilf,v,h=>by simpa only [VR] using h
 | .nili,v,h=>by simpa only [VR] using h
 | .sl t xs fl,v,h=>by simpa only [VR] using h
theorem VRLn.lvl {lv':Nat}:∀{cs:List (TV D.T)} {vs:List V},VRL D [] lv cs vs->VRL D [] lv' cs vs
 |[],vs,h=>by simpa only [VRL] using h
 |c::cs,vs,h=>by simp only [VRL] at h ⊢;obtain ⟨v,r,h1,h2,h3⟩:=h;exact ⟨v,r,h1,VRn.lvl h2,VRLn.lvl h3⟩
end
theorem DR.vs (hD:D.Ok P) {H:yz3} {Dm:Nat->Nat->Prop} {t:DTy} {x:t.S D.T} {v:V} (h:DR D t x v) :
  VS H Dm v (D.el t x)∧∀(j:Nat) (u u':V),v.cells[j]? = some u->(D.el t x).cells[j]? = some u'->VS H Dm u u':=by
 have one:∀{t:DTy} {x:t.S D.T} {v:V},v.cells=[v]->(D.el t x).cells=[D.el t x]->VS H Dm v (D.el t x) ->
   VS H Dm v (D.el t x)∧∀(j:Nat) (u u':V),v.cells[j]? = some u->(D.el t x).cells[j]? = some u'->VS H Dm u u':=λ{t x v} h1 h2 h=>⟨h,λj u u' hu hu'=>by
  rw [h1] at hu;rw [h2] at hu'
  cases j with
  |zero=>simp at hu hu';subst hu;subst hu';exact h
  |succ j=>simp at hu⟩
 induction h with
 |bool b=>exact one rfl rfl (.keep _ (by simp [V.kin]))
 |int k n=>exact one rfl rfl (.keep _ (by simp [V.kin]))
 |str s=>exact one rfl rfl (.keep _ (by simp [V.kin]))
 |nat n=>exact one (t:=.nat) rfl rfl (.any _)
 |nil t=>exact one rfl rfl (.nil _ _)
 |sl t xs ws full hl h ih =>
  refine one rfl rfl (.sl _ _ _ _ (by simp [hl]) (λj a b ha hb => ?_) λj a b q v u ha hb hv hu => ?_)
  · rw [List.getElem?_map,Option.map_eq_some_iff] at hb
    obtain ⟨x,hx,rfl⟩:=hb
    rw [(h j x a hx ha).cells hD,yw3 hD]
  · rw [List.getElem?_map,Option.map_eq_some_iff] at hb
    obtain ⟨x,hx,rfl⟩:=hb
    exact (ih j x a hx ha).2 q v u hv hu
 |st i x vs hl h ih =>
  have cell:∀(j:Nat) (u u':V),vs[j]? = some u->(D.els (D.fl i) (D.get i x))[j]? = some u'->VS H Dm u u':=λj u u' hu hu'=>by
   rw [yo2,Option.map_eq_some_iff] at hu'
   obtain ⟨p,hp,rfl⟩:=hu'
   exact (ih j p u hp hu).1
  have e:D.el (.st i) x = .agg (D.els (D.fl i) (D.get i x)):=hD.enc i x
  rw [e]
  exact ⟨.agg _ _ (by rw [yb6,hl]) cell,λj u u' hu hu'=>cell j u u' hu hu'⟩
 |enc i x=>exact ⟨.keep _ (hD.kin i x _),λj u u' hu hu'=>by
  rw [show D.el (.st i) x=D.enc i x from rfl,hu] at hu'
  injection hu' with hu'
  subst hu'
  exact .keep _ (zfx (y67 (hD.kin i x _)) j u hu)⟩
theorem VR.toDR (hD:D.Ok P) {t:DTy} {x:t.S D.T} {v:V} (ht:t ≠ .nat) (h:VR D ρ lv (D.tv t x) v):DR D t x v:=by
 have leaf:∀{t:DTy} {x:t.S D.T} {v:V},t ≠ .nat->(∀i,t ≠ .st i)->VR D ρ lv (D.leaf t x) v->DR D t x v:=λ{t x v} h1 h2 h=>by
  cases t with
  |bool=>simp only [Dat.leaf,VR] at h;subst h;exact .bool _
  |int k=>simp only [Dat.leaf,VR] at h;subst h;exact .int _ _
  |str=>simp only [Dat.leaf,VR] at h;subst h;exact .str _
  |nat=>exact (h1 rfl).elim
  |sl t=>simp only [Dat.leaf,VR] at h;exact h.1
  |st i=>exact (h2 i rfl).elim
 cases t with
 |st i =>
  simp only [Dat.tv,VR] at h
  obtain ⟨vs,rfl,h⟩:=h
  refine .st i x vs (by rw [<-h.length,zwg]) λj p u hp hu => ?_
  have hm:=hD.flat i p.1 (List.mem_of_getElem? (HL.yw1 _ _ _ _ hp).2)
  have:=h.ylf (j:=j) (c:=D.leaf p.1 p.2) (by rw [zno,hp];rfl) hu
  obtain ⟨t,y⟩:=p
  refine leaf (λe => ?_) (λi e => ?_) this
  · subst e;exact hm.elim
  · subst e;exact hm.elim
 |nat=>exact (ht rfl).elim
 |bool=>exact leaf ht (by simp) h
 |int k=>exact leaf ht (by simp) h
 |str=>exact leaf ht (by simp) h
 |sl t=>exact leaf ht (by simp) h
def yy9:List Sh->Bool
 |[]=>true
 | .d t::l => !decide (t = .nat)&&yy9 l
 |_=>false
def canon (D:Dat):(l:List Sh)->HL D.T (Sh.z7d l)->List V
 |[],_=>[]
 | .d t::l,x=>D.el t (HL.fst (Sh.tys (.d t)) x).1::canon D l (HL.snd (Sh.tys (.d t)) x)
 |s::l,x=>.any::canon D l (HL.snd s.tys x)
theorem VRL.lvl {lv':Nat} {cs:List (TV D.T)} {vs:List V} (h:VRL D [] lv cs vs):VRL D [] lv' cs vs:=VRLn.lvl h
theorem ymm (hD:D.Ok P):∀{l:List Sh} {x:HL D.T (Sh.z7d l)},yy9 l=true->VRL D ρ lv (z7e D (λk=>k) l x) (canon D l x)
 |[],x,h=>(by simp only [VRL]:VRL D ρ lv [] [])
 | .d t::l,x,h=>by
   simp only [yy9,Bool.and_eq_true] at h
   show VRL D ρ lv (D.tv t (HL.fst (Sh.tys (.d t)) x).1::z7e D (λk=>k) l (HL.snd (Sh.tys (.d t)) x)) (D.el t (HL.fst (Sh.tys (.d t)) x).1::canon D l (HL.snd (Sh.tys (.d t)) x))
   simp only [VRL]
   exact ⟨_,_,rfl,VR.tv hD (DR.el t _),ymm hD h.2⟩
theorem ywn (hD:D.Ok P) {H:yz3} {Dm:Nat->Nat->Prop}:∀{l:List Sh} {x:HL D.T (Sh.z7d l)} {vs:List V},yy9 l=true->VRL D ρ lv (z7e D (λk=>k) l x) vs->VSL H Dm vs (canon D l x)
 |[],x,vs,h,hv=>by
  replace hv:VRL D ρ lv [] vs:=hv
  simp only [VRL] at hv;subst hv;exact .nil
 | .d t::l,x,vs,h,hv=>by
   simp only [yy9,Bool.and_eq_true,Bool.not_eq_true',decide_eq_false_iff_not] at h
   replace hv:VRL D ρ lv (D.tv t (HL.fst (Sh.tys (.d t)) x).1::z7e D (λk=>k) l (HL.snd (Sh.tys (.d t)) x)) vs:=hv
   simp only [VRL] at hv
   obtain ⟨v,r,rfl,h1,h2⟩:=hv
   exact .cons ((VR.toDR hD h.1 h1).vs hD).1 (ywn hD h.2 h2)
theorem z04e {H:yz3} {Dm:Nat->Nat->Prop} {vs us:List V} (h:VSL H Dm vs us):VS H Dm (ziw vs) (ziw us):=by
 cases h with
 |nil=>exact .tup' .nil
 |cons h1 r =>
  cases r with
  |nil=>exact h1
  |cons h2 r=>exact .tup' (.cons h1 (.cons h2 r))
theorem z06s (hD:D.Ok P) {e:Ent D} {fn:Func} {code:Code} {nt:Nat} {l:LSh} {pack:HL D.T l.tys->R} {un:R->HL D.T (Sh.z7d e.outs++z3d e.ros)} {go:HL D.T (Sh.z7d e.args++z3d e.aos)->Option R}
  (hf:P.funcs[e.f]? = some fn) (hb:fn.body=some code) (hnt:fn.ntmps=nt) (hent:∀args w,(callFunc e.f args).run P w = .ok (.enter e.f args) w) (hargs:e.args.length<=nt)
  (hgo:∀(R':Type) (x:HL D.T (Sh.z7d e.args++z3d e.aos)) (k:HL D.T (Sh.z7d e.outs++z3d e.ros)->Option R') (kp:HL D.T (e.pan.tys++z3d e.pos)->Option R'),e.go x k kp=(go x).bind λr=>k (un r))
  (hpure:e.pure=true) (hren:e.ren=[]) (haos:e.aos=[]) (hros:e.ros=[]) (houts:yy9 e.outs=true) (hp2:l.pin<=l.os.length)
  (hout:∀x,ybz P D (l.bld D x) fn.results.toList=some (z7e D (λk=>k) e.outs (HL.fst _ (un (pack x)))))
  (hrun:Runs P D code e.p e.args e.aos nt (yv1 D l pack) go):e.Ok P:=λR' x k kp r h=>by
 rw [hpure]
 rw [hgo] at h
 obtain ⟨r0,h1,h2⟩:=zxm h
 refine ⟨un r0,h2,haos,hros,hren,λlv0 vargs k2=>⟨canon D e.outs (HL.fst _ (un r0)),λρ lv=>ymm hD houts,?_⟩⟩
 have hvl:vargs.length=e.args.length:=by
  rw [<-k2.length]
  have:∀(l:List Sh) (y:HL D.T (Sh.z7d l)),(z7e D (λk=>k) l y).length=l.length:=λl=>by
   induction l with
   |nil=>intro y;rfl
   |cons s l ih=>intro y;show (zpj D (λk=>k) s (HL.fst _ y)::z7e D (λk=>k) l (HL.snd _ y)).length=_;rw [List.length_cons,ih,List.length_cons]
  exact this _ _
 refine z047 hf hb hnt hent λlv E => ?_
 let F:Fr:=⟨lv+1,E,E,[],λi=>False,[]⟩
 have hnob:∀s (o:TO D.T),fnd (zbb D (λk=>k) e.aos 0 (HL.snd _ x)) s=some o->False:=λs o ho=>by
  obtain ⟨j,_,hlt,_⟩:=zy5 e.aos (zc6 ho)
  rw [haos] at hlt;simp at hlt
 have k2':VRL D [] (lv+1) (z7e D (λk=>k) e.args (HL.fst _ x)) vargs:=VRL.lvl k2
 have hR0:TRr D F [] (entry D e.args e.aos nt x) ⟨vargs++List.replicate (nt-vargs.length) .any,⟨lv+1,[],E⟩,[],E⟩:=by
  refine ⟨by simp only [entry,haos];rfl,by simp only [entry,List.length_append,List.length_replicate];omega,zy3 _ k2',λs o ho=>(hnob s o ho).elim,λs s' o o' sl sl' i a1=>(hnob s o a1).elim,λs o sl i a1=>(hnob s o a1).elim,rfl,rfl,rfl,rfl,λi hi=>hi.elim,λj sl hj=>by simp [F] at hj⟩
 refine ywz ((hrun F _ r0 (by simp [F]) (z013 hD (by simp [F]) hp2) x _ hR0.tr h1).mono λex σ hq => ?_)
 have key:∀ex,(ex = .normal∨ex = .ret)->(∃x,pack x=r0∧TR D F (l.bld D x) σ)->∃τ,zyo σ τ∧(∀v,ex ≠ .panic v)∧Ends P fn lv E (ziw (canon D e.outs (HL.fst _ (un r0)))) ex τ:=λex hex ⟨y,hy,τ,ρ',w1,w2⟩=>by
  subst hy
  obtain ⟨vs,q1,q2⟩:=zr8 hD w2 (hout y)
  have hv:=z04e (ywn hD (H:=τ.H) (Dm:=outer lv) houts q2)
  refine ⟨τ,w1,λv e=>by rcases hex with h|h <;> (rw [h] at e;cases e),?_⟩
  rcases hex with rfl|rfl
  ·exact ⟨ziw vs,by simp only [zee,q1,Option.map_some],w2.d,w2.E,hv⟩
  ·exact ⟨ziw vs,by simp only [zee,q1,Option.map_some],w2.d,w2.E,hv⟩
 cases ex with
 |normal=>exact key _ (.inl rfl) hq
 |ret=>exact key _ (.inr rfl) hq
 |exit id=>exact hq.elim
 |panic v=>exact hq.elim
structure FI (D:Dat) where
 R:Type
 ent:Nat->Ent D
 c:AC
 K:Ks D.T R
 p:Nat
 args:List Sh
 aos:List OSh
 nt:Nat
 zgb:Nat->List (Nat×Lb D R)
 go:Nat->HL D.T (Sh.z7d args++z3d aos)->Option R
def yo3 {α:Type} (φ:Nat->α->Prop):List (Nat×α)->Prop
 |[]=>True
 |p::l=>φ p.1 p.2∧yo3 φ l
theorem yo3.get {α:Type} {φ:Nat->α->Prop}:∀{l:List (Nat×α)} {j:Nat} {a:α},yo3 φ l->(j,a)∈l->φ j a
 |p::l,j,a,h,hm=>by
  rcases List.mem_cons.1 hm with hm|hm
  · subst hm;exact h.1
  · exact yo3.get h.2 hm
noncomputable def ysa (P:Program) (D:Dat) {R:Type} (tbl:List (Ent D)) (J:Nat->TS D.T->Option R) (l:Nat) (c:AC) (K:Ks D.T R) (ts:TS D.T):Option R :=
 match AC.at P D tbl J l c K (λ_=>none) with
 |some g=>g ts
 |none=>none
structure FI.Good (P:Program) (D:Dat) (tbl:Nat->List (Ent D)) (f:FI D):Prop where
 nodup:f.c.labels.Nodup
 zero:∀x,f.go 0 x=none
 lzero:∀l lb x,fnd (f.zgb 0) l=some lb->lb.go x=none
 pins:∀n l lb,fnd (f.zgb n) l=some lb->f.p<=lb.sh.pin∧lb.sh.pin<=lb.sh.os.length
 step:∀n x,f.go (n+1) x=run P D (tbl n) (jump D (f.zgb n)) f.c (entry D f.args f.aos f.nt x) f.K
 lstep:∀n l lb x,fnd (f.zgb (n+1)) l=some lb->lb.go x=ysa P D (tbl n) (jump D (f.zgb n)) l f.c f.K (lb.sh.bld D x)
 ok:∀n,Runs P D f.c.erase f.p f.args f.aos f.nt f.K (f.go n)->(f.ent n).Ok P
def FI.yaw (P:Program) (D:Dat) (f:FI D) (n:Nat):Prop :=
 ∀F Q r,F.pin.length<=f.p->KOk D F f.K Q r->∀l a Q',f.c.site P l Q=some (a,Q')->∀ts σ,TR D F ts σ->jump D (f.zgb n) l ts=some r->a.Claim P σ Q'
theorem FI.Good.zgb (hD:D.Ok P) {tbl:Nat->List (Ent D)} {f:FI D} (h:f.Good P D tbl):∀n,(∀m,m<n->∀e∈tbl m,e.Ok P)->f.yaw P D n
 |0,_=>λF Q r hp hK l a Q' hs ts σ hT hj=>by
  unfold jump at hj
  split at hj
  · rename_i lb hlb
    obtain ⟨p1,p2⟩:=h.pins 0 l lb hlb
    obtain ⟨x,h1,_⟩:=LSh.zlb hD (by omega) p2 hT hj
    rw [h.lzero l lb x hlb] at h1;cases h1
  · cases hj
 |n+1,ht=>λF Q r hp hK l a Q' hs ts σ hT hj=>by
  have ih:=FI.Good.zgb hD h n λm hm=>ht m (by omega)
  unfold jump at hj
  split at hj
  · rename_i lb hlb
    obtain ⟨p1,p2⟩:=h.pins (n+1) l lb hlb
    obtain ⟨x,h1,h2⟩:=LSh.zlb hD (by omega) p2 hT hj
    rw [h.lstep n l lb x hlb] at h1
    unfold ysa at h1
    split at h1
    · rename_i g hg
      obtain ⟨a',Q'',e1,e2⟩:=zog hD (ht n (by omega)) hK (λb _ ts σ _ hk=>by cases hk) (zpg (P:=P) (φ:=LOk P D F (jump D (f.zgb n)) r) h.nodup λl a Q' hs ts σ hT hj=>ih F Q r hp hK l a Q' hs ts σ hT hj) hg
      rw [hs] at e1;injection e1 with e1;injection e1 with e1 e3;subst e1;subst e3
      exact e2 _ σ h2 h1
    · cases h1
  · cases hj
theorem FI.Good.runs (hD:D.Ok P) {tbl:Nat->List (Ent D)} {f:FI D} (h:f.Good P D tbl):∀n,(∀m,m<n->∀e∈tbl m,e.Ok P)->Runs P D f.c.erase f.p f.args f.aos f.nt f.K (f.go n)
 |0,_=>λF Q r hp hK x σ hT hg=>by rw [h.zero] at hg;cases hg
 |n+1,ht=>λF Q r hp hK x σ hT hg=>by
  rw [h.step] at hg
  have ih:=h.zgb hD n λm hm=>ht m (by omega)
  exact ze6 hD (ht n (by omega)) hK (zpg (P:=P) (φ:=LOk P D F (jump D (f.zgb n)) r) h.nodup λl a Q' hs ts σ hT hj=>ih F Q r hp hK l a Q' hs ts σ hT hj) hT hg
theorem ring (hD:D.Ok P) {fs:List (FI D)} {base:Nat->List (Ent D)} (hb:∀n,∀e∈base n,e.Ok P) (h:∀f∈fs,f.Good P D λn=>fs.map (·.ent n)++base n):∀n,∀f∈fs,(f.ent n).Ok P:=λn=>by
 induction n using Nat.strongRecOn with
 |ind n ih =>
  intro f hf
  refine (h f hf).ok n ((h f hf).runs hD n λm hm e he => ?_)
  rcases List.mem_append.1 he with he|he
  · obtain ⟨g,hg,rfl⟩:=List.mem_map.1 he
    exact ih m hm g hg
  · exact hb m e he
end
end Go.Ab
namespace Go.Ab
open Go
set_option linter.unusedVariables false
set_option linter.unusedSectionVars false
section
variable {P : Program} {D : Dat} {R : Type}
def FI.of (D:Dat) (f nt p:Nat) (args:List Sh) (aos:List OSh) (outs:List Sh) (ros:List OSh) (pure:Bool) (l:LSh) {R:Type} (pack:HL D.T l.tys->R) (un:R->HL D.T (Sh.z7d outs++z3d ros))
  (go:Nat->HL D.T (Sh.z7d args++z3d aos)->Option R) (zgb:Nat->List (Nat×Lb D R)) (c:AC):FI D :=
 {R:=R,ent:=λn=>{f:=f,p:=p,args:=args,aos:=aos,outs:=outs,ros:=ros,pan:=.nilp,pos:=ros,pure:=pure,go:=λx k _=>(go n x).bind λr=>k (un r)},
   c:=c,K:=yv1 D l pack,p:=p,args:=args,aos:=aos,nt:=nt,zgb:=zgb,go:=go}
def tb (l:List (FI D)) (n:Nat):List (Ent D):=l.map (·.ent n)
def FOk (P:Program) (f:FI D):Prop:=∀n,(f.ent n).Ok P
def OkL (P:Program):List (FI D)->Prop
 |[]=>True
 |f::l=>FOk P f∧OkL P l
def yv7 (P:Program) (tbl:Nat->List (Ent D)):List (FI D)->Prop
 |[]=>True
 |f::l=>f.Good P D tbl∧yv7 P tbl l
theorem OkL.get:∀{l:List (FI D)} {f:FI D},OkL P l->f∈l->FOk P f
 |g::l,f,h,hm=>by
  rcases List.mem_cons.1 hm with rfl|hm
  · exact h.1
  · exact OkL.get h.2 hm
theorem OkL.of:∀{l:List (FI D)},(∀f∈l,FOk P f)->OkL P l
 |[],h=>trivial
 |f::l,h=>⟨h f List.mem_cons_self,OkL.of λg hg=>h g (List.mem_cons_of_mem _ hg)⟩
theorem yv7.get {tbl:Nat->List (Ent D)}:∀{l:List (FI D)} {f:FI D},yv7 P tbl l->f∈l->f.Good P D tbl
 |g::l,f,h,hm=>by
  rcases List.mem_cons.1 hm with rfl|hm
  · exact h.1
  · exact yv7.get h.2 hm
theorem zc5 (hD:D.Ok P) {fs bs:List (FI D)} (hb:OkL P bs) (h:yv7 P (tb (fs++bs)) fs):OkL P fs :=
 OkL.of λf hf n=>ring hD (base:=λn=>bs.map (·.ent n)) (λn e he=>by
  obtain ⟨b,hm,rfl⟩:=List.mem_map.1 he
  exact hb.get hm n) (λg hg=>by
  have:=h.get hg
  have e:(tb (fs++bs))=λn=>fs.map (·.ent n)++bs.map (·.ent n):=by funext n;simp [tb]
  rw [e] at this
  exact this) n f hf
def chkB (p nt:Nat) (args outs:List Sh) (aos ros:List OSh) (pure:Bool) (l:LSh) (c:AC):Bool :=
 Nat.ble args.length nt&&Nat.ble p l.pin&&Nat.ble l.pin l.os.length &&
 (match pure with
  |true=>aos.isEmpty&&ros.isEmpty&&yy9 outs
  |false=>Nat.beq l.os.length ros.length)
def yv2 (p:Nat):List (Nat×Lb D R)->Bool
 |[]=>true
 |(_,lb)::r=>Nat.ble p lb.sh.pin&&Nat.ble lb.sh.pin lb.sh.os.length&&yv2 p r
theorem y68 {p:Nat}:∀{l:List (Nat×Lb D R)},yv2 p l=true->yo3 (λ_ lb=>p<=lb.sh.pin∧lb.sh.pin<=lb.sh.os.length) l
 |[],h=>trivial
 |(_,lb)::r,h=>by
  simp only [yv2,Bool.and_eq_true,Nat.ble_eq] at h
  exact ⟨h.1,y68 h.2⟩
theorem FI.yz4 {hD:D.Ok P} {f nt p:Nat} {args:List Sh} {aos:List OSh} {outs:List Sh} {ros:List OSh} {pure:Bool} {l:LSh} {pack:HL D.T l.tys->R} {un:R->HL D.T (Sh.z7d outs++z3d ros)}
  {go:Nat->HL D.T (Sh.z7d args++z3d aos)->Option R} {zgb:Nat->List (Nat×Lb D R)} {c:AC} {tbl:Nat->List (Ent D)} {fn:Func}
  (hf:P.funcs[f]? = some fn) (hnt:fn.ntmps=nt) (hent:∀args w,(callFunc f args).run P w = .ok (.enter f args) w)
  (hb:fn.body=some c.erase) (hnd:c.labels.Nodup) (hchk:chkB p nt args outs aos ros pure l c=true) (hp:∀n,yv2 p (zgb n)=true)
  (hout:∀x,ybz P D (l.bld D x) fn.results.toList=some (z7e D (λk=>k) outs (HL.fst _ (un (pack x)))))
  (hz:∀x,go 0 x=none) (hlz:yo3 (λ_ lb=>∀x,lb.go x=none) (zgb 0))
  (hs:∀n x,go (n+1) x=run P D (tbl n) (jump D (zgb n)) c (entry D args aos nt x) (yv1 D l pack))
  (hls:∀n,yo3 (λj lb=>∀x,lb.go x=ysa P D (tbl n) (jump D (zgb n)) j c (yv1 D l pack) (lb.sh.bld D x)) (zgb (n+1)))
  (hros:∀x,pure=true∨(l.bld D x).o=zbb D (λk=>k) ros 0 (HL.snd _ (un (pack x)))) :
  (FI.of D f nt p args aos outs ros pure l pack un go zgb c).Good P D tbl where
 nodup:=hnd
 zero:=hz
 lzero:=λj lb x h=>hlz.get (zc6 h) x
 pins:=λn j lb h=>(y68 (hp n)).get (zc6 h)
 step:=hs
 lstep:=λn j lb x h=>(hls n).get (zc6 h) x
 ok:=λn h=>by
  simp only [chkB,Bool.and_eq_true,Nat.ble_eq] at hchk
  obtain ⟨⟨⟨h1,h2⟩,h3⟩,h4⟩:=hchk
  cases pure with
  |true =>
   simp only [Bool.and_eq_true,List.isEmpty_iff] at h4
   obtain ⟨⟨rfl,rfl⟩,h6⟩:=h4
   exact z06s (l:=l) (pack:=pack) (un:=un) (go:=go n) (code:=c.erase) hD hf hb hnt hent h1 (λ_ _ _ _=>rfl) rfl rfl rfl rfl h6 h3 hout h
  |false =>
   exact z06p (l:=l) (pack:=pack) (un:=un) (go:=go n) (code:=c.erase) hD hf hb hnt hent h1 (λ_ _ _ _=>rfl) rfl rfl h2 h3 (Nat.eq_of_beq_eq_true h4) (λx=>⟨hout x,(hros x).resolve_left (by simp)⟩) h
end
end Go.Ab
