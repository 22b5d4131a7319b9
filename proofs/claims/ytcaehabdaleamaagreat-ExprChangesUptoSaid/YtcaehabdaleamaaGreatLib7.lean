/-
  DEEP OWN MEMORY: loads that open; own memory that is lent.
-/
import Derived.Test.YtcaehabdaleamaaGreatLib6
import Derived.Test.YtcaehabdaleamaaGreatLib5
namespace Go.Ab
open Go
set_option linter.unusedVariables false
set_option linter.unusedSimpArgs false
set_option linter.unusedSectionVars false
section
variable {P : Program} {D : Dat} {F : Fr} {ρ : List Slot} {ts : TS D.T} {σ : St} {lv : Nat} {L : List (Option kz8)}
theorem yao{R:Type}(hD:D.Ok P)(hR:TRr D F ρ ts σ){t s off:Nat}{i:Int}{k:TV D.T->TS D.T->Option R}{kf:Nat->Option R}{r:R}{va:V}(h:ykt D P ts t s i off k kf=some r)(ha:VR D ρ F.lv (.dp s i off) va) :
  (∃z v ts' ρ',z64 P σ.H t va=some v∧VR D ρ' F.lv z v∧TRr D F ρ' ts' σ∧k z ts'=some r)∨∃s,kf s=some r:=by
 unfold ykt at h;split at h;rename_i ty q xs hh ho;split at h;obtain⟨z,v,h1,h2,h3⟩:=z9p hR (ρ':=ρ) (λf v _ _ _ e=>by cases e) h ha;exact .inl ⟨z,v,ts,ρ,h1,h2,hR,h3⟩;rename_i f fs hf;split at h;obtain⟨ts',ρ',ty',q',j,ver,cp,m,u,h1,h2,h3,⟨sl0,h4,h5⟩,h6,h7⟩:=y7n hD hR h
 obtain⟨z,v,e1,e2,e3⟩:=z9p hR (ρ':=ρ') (λf' v sl w u' e hsl hw hu=>by
  injection e with e;injection e with e4 e5;subst e4;subst e5
  rw[h4]at hsl;injection hsl with hsl;subst hsl
  obtain⟨sl',b1,b2⟩:=hR.ob s _ ho
  rw[h4]at b1;injection b1 with b1;subst b1
  simp only[OR]at b2;obtain⟨c1,c2⟩:=b2
  cases hk:sl0.k with
  |none=>
   rw[hk]at c2;have:=c2.2.1;rw[h5]at this
   rcases this with q|q <;> cases q
  |some j'=>
   rw[hk]at c2;obtain⟨ver',cp',fps,d1,d2,_⟩:=c2
   rw[h5]at d1;injection d1 with _ g1 g2 _ g3 _
   subst g1;subst g2
   rw[h3]at d2;injection d2 with d2;injection d2 with d2;injection d2 with _ _ _ d2 _
   subst d2;rw[hw]at h6;replace h6:w.cells[f]? = some u:=h6
   rw[hu]at h6;injection h6 with h6;subst h6
   exact h7) h1 ha
 exact .inl ⟨z,v,ts',ρ',e1,e2,h2,e3⟩;rename_i p;obtain⟨n,f',c⟩:=p;split at h;rename_i hff;have hff:f'=f:=Qaj hff;subst hff;obtain⟨_,hs,h⟩:=yzv h
 have hni:n=i:=by
  unfold y7u at hs;split at hs;rename_i e;exact e;cases hs
 subst hni
 obtain⟨z,v,e1,e2,e3⟩:=z9p hR (ρ':=ρ) (λf2 v sl w u' e hsl hw hu=>by
  injection e with e;injection e with e4 e5;subst e4;subst e5;obtain⟨sl',b1,b2⟩:=hR.ob s _ ho
  rw[hsl]at b1;injection b1 with b1;subst b1
  simp only[OR]at b2;obtain⟨c1,c2⟩:=b2
  cases hk:sl.k with
  |none=>rw[hk]at c2;cases c2.2.2.2
  |some j'=>
   rw[hk]at c2;obtain⟨ver',cp',fps,d1,d2,d3,d4,d5,d6,d7⟩:=c2;have hlt:=(d7 _ _ _ rfl).2;obtain⟨vs,cs,g1,g2,g3,g4,g5⟩:=d6 n.toNat _ w _ (Qab hlt) hw (Qab (show n.toNat<fps.length by omega));subst g1;replace hu:vs[f']? = some u':=hu;have hfl:=(Qaa.1 hu).1;obtain⟨p,hp,_⟩:=HL.ze0 (D.fl q) (D.get q xs[n.toNat]) f' (by omega)
   have:=g5 f' p u' _ hp hu (Qab (show f'<cs.length by omega));rw[show z07 (some (n,f',c)) n.toNat f'=some c by simp[z07]]at this;obtain⟨_,_,a3,sl2,a4,a5⟩:=this;simp only[VR]
   exact⟨sl2,a4,a5,a3⟩) h ha
 exact .inl ⟨z,v,ts,ρ,e1,e2,hR,e3⟩;exact .inr ⟨s,h⟩;cases h
theorem VR.plk(hD:D.Ok P){x v}(h:VR D ρ lv x v)(hx:x.pl=true)(Dm):V.kin Dm v∧∀ρ' lv',VR D ρ' lv' x v:=by
 cases x <;> simp[TV.pl,Bool.false_eq_true]at hx
 case sl t xs fl=>
  simp only[VR]at h ⊢;exact⟨h.1.kin hD Dm,λ_ _=>h⟩
 all_goals (subst h;exact⟨by simp[V.kin],λ_ _=>rfl⟩)
theorem VRL.plk(hD:D.Ok P):∀{xs vs},VRL D ρ lv xs vs->xs.all TV.pl=true->∀(Dm),V.zcj Dm vs∧∀ρ' lv',VRL D ρ' lv' xs vs
 |[],vs,h,_,Dm=>by subst h;exact⟨by simp[V.zcj],λ_ _=>rfl⟩
 |x::xs,vs,h,ha,Dm=>by
  obtain⟨v,r,rfl,h1,h2⟩:=h;simp only[List.all_cons,Qag]at ha;obtain⟨a1,a2⟩:=h1.plk hD ha.1 Dm;obtain⟨b1,b2⟩:=VRL.plk hD h2 ha.2 Dm;exact⟨by exact⟨a1,b1⟩,λρ' lv'=>⟨v,r,rfl,a2 _ _,b2 _ _⟩⟩
theorem ysa(hD:D.Ok P)(hR:TRr D F ρ ts σ){s v}(h:VR D ρ F.lv (.own s) v):∃u,VS σ.H (λ_ _=>False) v u∧∀ρ' lv',VR D ρ' lv' (TV.see D ts (.own s)) u:=by
 have hH:=zht σ.H hR.lv hR.E;obtain⟨sl,h1,rfl,h2⟩:=h;unfold TV.see;split;rename_i ty t xs w ho;obtain⟨sl',b1,b2⟩:=hR.ob s _ ho;rw[h1]at b1;cases b1;simp only[OR]at b2;obtain⟨q1,q2,q3⟩:=b2;have hdr:DR D (.sl t) xs (.sl (D.len t) sl.ws false):=.sl t xs sl.ws false q1 q2
 cases hk:sl.k with
 |none=>
  rw[hk]at q3
  rcases q3 with ⟨e1,e2⟩|⟨⟨e1,_⟩,_⟩
  rw[e1];have:=Qao (by rw[<-q1,e2];rfl);subst this;exact⟨.nils,.keep _ (by simp[V.kin]),λ_ _=>by simp only[VR];exact⟨.nil t,by omega,by omega⟩⟩;rw[e1];have hdr2:DR D (.sl t) xs (.sl (D.len t) sl.ws true):=.sl t xs sl.ws true q1 q2
  exact⟨_,.keep _ (hdr2.kin hD _),λ_ _=>by grind[VR]⟩
 |some i=>
  rw[hk]at q3;obtain⟨ver,cp,e1,e2⟩:=q3;rw[e1];refine⟨.sl (D.len t) sl.ws false,?_,λ_ _=>by grind[VR]⟩;rw[hH];refine .hs _ i ver ty (D.len t) 0 _ false sl.ws sl.ws cp rfl ?_ rfl (λn w u hw hu =>?_) λn w u c a b hw hu ha hb =>?_
  show(if F.lv=F.lv then (σ.H.L[i]?).join else _)=_
  grind
  rw[Nat.zero_add,hu]at hw;cases hw;rfl
  rw[Nat.zero_add,hu]at hw;injection hw with hw;subst hw
  rw[ha]at hb;cases hb;have hn:=(Qaa.1 hu).1;exact .keep _ (z65 (zhg ((q2 n _ u (Qab (show n<xs.length by omega)) hu).kin hD _)) c a ha)
 rename_i ty q xs ho;obtain⟨sl',b1,b2⟩:=hR.ob s _ ho;rw[h1]at b1;cases b1;obtain⟨u,e1,e2⟩:=(yd9 b2).see (E:=F.E) hD;rw[<-hH]at e2;exact⟨u,e2,λ_ _=>by grind[VR]⟩;exact⟨.any,.any _,λ_ _=>by simp[VR]⟩
mutual
theorem ymc(hD:D.Ok P)(hR:TRr D F ρ ts σ):∀{x:TV D.T}{v:V},VR D ρ F.lv x v->∃u,VS σ.H (λ_ _=>False) v u∧∀ρ' lv',VR D ρ' lv' (TV.see D ts x) u
 |.own s,v,h=>ysa hD hR h
 |.agg cs,v,h=>by
  simp only[VR]at h;obtain⟨vs,rfl,h⟩:=h;obtain⟨us,h1,h2⟩:=zjq hD hR h
  exact⟨.agg us,.agg _ _ h1.length h1.get,λρ' lv'=>by simp only[TV.see,VR];exact⟨us,rfl,h2 _ _⟩⟩
 |.fn f a b,v,h=>by
  unfold TV.see;split;rename_i hc;simp only[Qag]at hc;simp only[VR]at h;obtain⟨as,bs,rfl,h1,h2⟩:=h;obtain⟨a1,a2⟩:=h1.plk hD hc.1 (λ_ _=>False);obtain⟨b1,b2⟩:=h2.plk hD hc.2 (λ_ _=>False);exact⟨_,.keep _ (by simp only[V.kin];exact⟨a1,b1⟩),λ_ _=>by simp only[VR];exact⟨as,bs,rfl,a2 _ _,b2 _ _⟩⟩
  exact⟨.any,.any _,λ_ _=>by simp only[VR]⟩
 |.sl t xs fl,v,h=>by
  simp only[VR]at h
  exact⟨v,.keep _ (h.1.kin hD _),λ_ _=>by simp only[TV.see,VR];exact⟨h.1,by omega,by omega⟩⟩
 |.bool b,v,h=>⟨v,.keep _ (h.plk hD rfl _).1,λ_ _=>by simpa only[TV.see]using(h.plk hD rfl (λ_ _=>False)).2 _ _⟩
 |.int k n,v,h=>⟨v,.keep _ (h.plk hD rfl _).1,λ_ _=>by simpa only[TV.see]using(h.plk hD rfl (λ_ _=>False)).2 _ _⟩
 |.str b,v,h=>⟨v,.keep _ (h.plk hD rfl _).1,λ_ _=>by simpa only[TV.see]using(h.plk hD rfl (λ_ _=>False)).2 _ _⟩
 |.nilp,v,h=>⟨v,.keep _ (h.plk hD rfl _).1,λ_ _=>by simpa only[TV.see]using(h.plk hD rfl (λ_ _=>False)).2 _ _⟩
 |.nils,v,h=>⟨v,.keep _ (h.plk hD rfl _).1,λ_ _=>by simpa only[TV.see]using(h.plk hD rfl (λ_ _=>False)).2 _ _⟩
 |.mapn,v,h=>⟨v,.keep _ (h.plk hD rfl _).1,λ_ _=>by simpa only[TV.see]using(h.plk hD rfl (λ_ _=>False)).2 _ _⟩
 |.nilf,v,h=>⟨v,.keep _ (h.plk hD rfl _).1,λ_ _=>by simpa only[TV.see]using(h.plk hD rfl (λ_ _=>False)).2 _ _⟩
 |.nili,v,h=>⟨v,.keep _ (h.plk hD rfl _).1,λ_ _=>by simpa only[TV.see]using(h.plk hD rfl (λ_ _=>False)).2 _ _⟩
 |.any,v,h=>⟨.any,.any _,λ_ _=>by simp only[TV.see,VR]⟩
 |.osl _ _,v,h=>⟨.any,.any _,λ_ _=>by simp only[TV.see,VR]⟩
 |.ptr _ _,v,h=>⟨.any,.any _,λ_ _=>by simp only[TV.see,VR]⟩
 |.bp _ _,v,h=>⟨.any,.any _,λ_ _=>by simp only[TV.see,VR]⟩
 |.ref _ _,v,h=>⟨.any,.any _,λ_ _=>by simp only[TV.see,VR]⟩
 |.ap _ _ _ _ _,v,h=>⟨.any,.any _,λ_ _=>by simp only[TV.see,VR]⟩
 |.map _,v,h=>⟨.any,.any _,λ_ _=>by simp only[TV.see,VR]⟩
 |.mc _ _,v,h=>⟨.any,.any _,λ_ _=>by simp only[TV.see,VR]⟩
 |.iface _ _,v,h=>⟨.any,.any _,λ_ _=>by simp only[TV.see,VR]⟩
 |.tup _,v,h=>⟨.any,.any _,λ_ _=>by simp only[TV.see,VR]⟩
 |.dp _ _ _,v,h=>⟨.any,.any _,λ_ _=>by simp only[TV.see,VR]⟩
 |.bsl _ _,v,h=>⟨.any,.any _,λ_ _=>by simp only[TV.see,VR]⟩
theorem zjq(hD:D.Ok P)(hR:TRr D F ρ ts σ):∀{xs:List (TV D.T)}{vs:List V},VRL D ρ F.lv xs vs->∃us,VSL σ.H (λ_ _=>False) vs us∧∀ρ' lv',VRL D ρ' lv' (TV.yjf D ts xs) us
 |[],vs,h=>by
  simp only[VRL]at h;subst h
  exact⟨[],.nil,λ_ _=>by simp only[TV.yjf,VRL]⟩
 |x::xs,vs,h=>by
  simp only[VRL]at h;obtain⟨v,r,rfl,h1,h2⟩:=h;obtain⟨u,a1,a2⟩:=ymc hD hR h1;obtain⟨us,b1,b2⟩:=zjq hD hR h2;exact⟨u::us,.cons a1 b1,λρ' lv'=>by simp only[TV.yjf,VRL];exact⟨u,us,rfl,a2 _ _,b2 _ _⟩⟩
end
theorem ya2{t}(h:t.flat=true){x v}(hv:VR D ρ lv (D.tv t x) v):VFl v:=by
 cases t <;> simp[DTy.flat,Bool.false_eq_true]at h
 simp[Dat.tv,VR]at hv;subst hv;exact .bool _;simp[Dat.tv,VR]at hv;subst hv;exact .int _ _;subst hv;exact .str _
theorem yqb{R}{k kf:Option R}{r:R}:∀(l:List DTy) {x:HL D.T l},zmn D l x k kf=some r->kf=some r∨(k=some r∧∀(ρ:List Slot) (lv:Nat) (vs:List V),VRL D ρ lv (D.leaves l x) vs->∀v∈vs,VFl v)
 |[],x,h=>.inr ⟨h,λρ lv vs hv v hm=>by
  simp only[Dat.leaves,VRL]at hv;subst hv
  cases hm⟩
 |t::l,x,h=>by
  have go:zmn D l x.2 k kf=some r->(∀(ρ:List Slot) (lv:Nat) (u:V),VR D ρ lv (D.leaf t x.1) u->VFl u)->kf=some r∨(k=some r∧∀(ρ:List Slot) (lv:Nat) (vs:List V),VRL D ρ lv (D.leaves (t::l) x) vs->∀v∈vs,VFl v):=λh hu=>by
   rcases yqb l h with e|⟨e,e2⟩
   exact .inl e;refine .inr ⟨e,λρ lv vs hv v hm =>?_⟩;simp only[Dat.leaves,VRL]at hv;obtain⟨u,s,rfl,h1,h2⟩:=hv
   rcases Qbf.1 hm with rfl|hm
   exact hu ρ lv _ h1;exact e2 ρ lv s h2 v hm
  cases t with
  |bool=>exact go h λρ lv u h1=>by simp only[Dat.leaf,VR]at h1;subst h1;exact .bool _
  |int=>exact go h λρ lv u h1=>by simp only[Dat.leaf,VR]at h1;subst h1;exact .int _ _
  |str=>exact go h λρ lv u h1=>by simp only[Dat.leaf,VR]at h1;subst h1;exact .str _
  |nat=>exact .inl h
  |st=>exact .inl h
  |sl t=>
   replace h:pIf (decide ((x.1.length:Int)<=0)) (zmn D l x.2 k kf) kf=some r:=h;rw[zs5]at h;split at h;rename_i hc;refine go h λρ lv u h1 =>?_
   have hx:(x.1:List _)=[]:=Qao (by simp only[Qaq]at hc;omega);simp only[Dat.leaf,VR]at h1;rw[hx]at h1;have h3:=h1.1
   cases h3 with
   |nil=>exact .nils
   |sl _ _ ws full hl _=>
    have:ws=[]:=Qao (by simpa using hl);subst this;exact .sl0 _ _
   exact .inl h
theorem ytj{R}{k kf:Option R}{r:R}(t:DTy){x:t.S D.T}(h:yow D t x k kf=some r):kf=some r∨(k=some r∧∀(ρ:List Slot) (lv:Nat) (v:V),VR D ρ lv (D.tv t x) v->VFl v):=by
 cases t with
 |bool=>exact .inr ⟨h,λρ lv v hv=>ya2 rfl hv⟩
 |int=>exact .inr ⟨h,λρ lv v hv=>ya2 rfl hv⟩
 |str=>exact .inr ⟨h,λρ lv v hv=>ya2 rfl hv⟩
 |nat=>exact .inl h
 |sl=>exact .inl h
 |st i=>
  rcases yqb _ h with e|⟨e,e2⟩
  exact .inl e;refine .inr ⟨e,λρ lv v hv =>?_⟩;simp only[Dat.tv,VR]at hv;obtain⟨vs,rfl,hv⟩:=hv;exact .agg _ λj v hj=>e2 ρ lv vs hv v (Qaw hj)
theorem yjv{R}{k kf:Option R}{r:R}:∀(l:List Sh) {y:HL D.T (Sh.z0r l)},yaw D l y k kf=some r->kf=some r∨(k=some r∧∀(ρ:List Slot) (lv:Nat) (vs:List V),VRL D ρ lv (z01 D (λk=>k) l y) vs->∀v∈vs,VFl v)
 |[],y,h=>.inr ⟨h,λρ lv vs hv v hm=>by
  replace hv:VRL D ρ lv [] vs:=hv;simp only[VRL]at hv;subst hv
  cases hm⟩
 |sh::l,y,h=>by
  cases sh with
  |d t=>
   rcases ytj t h with e|⟨e,e2⟩
   exact .inl e
   rcases yjv l e with q|⟨q,q2⟩
   exact .inl q;refine .inr ⟨q,λρ lv vs hv v hm =>?_⟩;replace hv:VRL D ρ lv (zeo D (λk=>k) (.d t) (HL.fst _ y)::z01 D (λk=>k) l (HL.snd _ y)) vs:=hv;simp only[VRL]at hv;obtain⟨u,s,rfl,h1,h2⟩:=hv
   rcases Qbf.1 hm with rfl|hm
   exact e2 ρ lv _ h1
   exact q2 ρ lv s h2 v hm
  |_=>exact .inl h
theorem yfs{vs}(h:∀v∈vs,VFl v):VFl (z9a vs):=by
 unfold z9a;split
 grind
 exact .tup _ λj v hj=>h v (Qaw hj)
theorem zk0{R}(hD:D.Ok P)(hR:TRr D F ρ ts σ){f vs vargs k kf}{r:R}(hv:VRL D ρ F.lv vs vargs):∀{tbl},(∀e∈tbl,e.Ok P)->ymz D f vs ts k kf tbl=some r ->
  (∃rv z,zns P f vargs σ.H rv σ.H∧VR D ρ F.lv z rv∧k z ts=some r)∨kf=some r
 |[],_,h=>.inr h
 |e::tbl,htbl,h=>by
  simp[ymz]at h;split at h;rename_i hc;simp only[Qag]at hc;obtain⟨⟨c1,c2⟩,c3⟩:=hc;have c1:=Qaj c1;subst c1;split at h;rename_i mx hfit;obtain⟨M,x⟩:=mx;have hok:=htbl e Qak _ _ _ _ _ h;rw[c2]at hok;obtain⟨y,hy,e1,e2,en,e3⟩:=hok;obtain⟨us,a1,a2⟩:=zjq hD hR hv;obtain⟨_,ρ0,d1,d2,d3,d4,d5⟩:=Ent.zd6 hD hR (a2 ρ F.lv) hfit
  have hr0:=Qao (by rw[d1,e1];rfl);rw[hr0]at d4;obtain⟨ws,f1,f2⟩:=e3 F.lv us d4
  rcases yjv e.outs hy with q|⟨q,q2⟩
  exact .inr q;exact .inl ⟨z9a ws,_,ydz f2 a1 (yfs (q2 [] F.lv ws (f1 [] F.lv))),VR.zw0 hD (f1 _ _),q⟩;exact zk0 hD hR hv (λe he=>htbl e (Qai _ he)) h;exact zk0 hD hR hv (λe he=>htbl e (Qai _ he)) h
theorem yra{ρ':List Slot}{lv':Nat}(t:DTy){x:t.S D.T}{v:V}(h:VR D ρ lv (D.leaf t x) v):VR D ρ' lv' (D.leaf t x) v:=by
 cases t with
 |nat=>simp only[Dat.leaf,VR]
 |st=>simp only[Dat.leaf,VR]
 |_=>simp only[Dat.leaf,VR]at h ⊢;exact h
theorem zyy{ρ':List Slot}{lv':Nat}:∀(l:List DTy) {x:HL D.T l}{vs:List V},VRL D ρ lv (D.leaves l x) vs->VRL D ρ' lv' (D.leaves l x) vs
 |[],x,vs,h=>by
  simp only[Dat.leaves,VRL]at h ⊢;exact h
 |t::l,x,vs,h=>by
  simp only[Dat.leaves,VRL]at h ⊢;obtain⟨u,s,rfl,h1,h2⟩:=h;exact⟨u,s,rfl,yra t h1,zyy l h2⟩
theorem ylx{ρ':List Slot}{lv':Nat}:∀(l:List Sh) {y:HL D.T (Sh.z0r l)}{vs:List V},l.all Sh.yli=true->VRL D ρ lv (z01 D (λk=>k) l y) vs->VRL D ρ' lv' (z01 D (λk=>k) l y) vs
 |[],y,vs,_,h=>by
  replace h:VRL D ρ lv [] vs:=h;show VRL D ρ' lv' [] vs
  simp only[VRL]at h ⊢;exact h
 |sh::l,y,vs,ha,h=>by
  simp only[List.all_cons,Qag]at ha;replace h:VRL D ρ lv (zeo D (λk=>k) sh (HL.fst _ y)::z01 D (λk=>k) l (HL.snd _ y)) vs:=h;show VRL D ρ' lv' (zeo D (λk=>k) sh (HL.fst _ y)::z01 D (λk=>k) l (HL.snd _ y)) vs;simp only[VRL]at h ⊢;obtain⟨u,s,rfl,h1,h2⟩:=h;refine⟨u,s,rfl,?_,ylx l ha.2 h2⟩
  cases sh <;> simp only[Sh.yli,Sh.yt0,Bool.false_eq_true]at ha <;> first|exact ha.1.elim|skip
  case d t=>
   replace h1:VR D ρ lv (D.tv t (HL.fst _ y).1) u:=h1;show VR D ρ' lv' (D.tv t (HL.fst _ y).1) u
   cases t with
   |st i=>
    simp only[Dat.tv,VR]at h1 ⊢;obtain⟨vs,rfl,h1⟩:=h1
    exact⟨vs,rfl,zyy _ h1⟩
   |bool=>simpa only[Dat.tv,VR]using h1
   |int=>simpa only[Dat.tv,VR]using h1
   |str=>simpa only[Dat.tv,VR]using h1
   |nat=>simp only[Dat.tv,VR]
   |sl=>simpa only[Dat.tv,VR]using h1
theorem zmt{R}(hD:D.Ok P)(hR:TRr D F ρ ts σ){f vs vargs k kf}{r:R}(hv:VRL D ρ F.lv vs vargs):∀{tbl},(∀e∈tbl,e.Ok P)->yer D f vs ts k kf tbl=some r ->
  (∃Post:Out->kz3->Prop,znr P f vargs σ.H Post∧∀out H',Post out H'->H'=σ.H∧∃rv z,out = .ret rv∧VR D ρ F.lv z rv∧k z ts=some r)∨kf=some r
 |[],_,h=>.inr h
 |e::tbl,htbl,h=>by
  simp only[yer]at h;split at h;rename_i hc;simp only[Qag,Bool.not_eq_true',List.isEmpty_iff]at hc;obtain⟨⟨⟨⟨c1,c2⟩,c3⟩,c4⟩,c5⟩:=hc;have c1:=Qaj c1;subst c1;split at h;rename_i mx hfit;obtain⟨M,x⟩:=mx;have hok:=htbl e Qak _ _ _ _ _ h;rw[c2]at hok
  rcases hok with ⟨y,hy,hF⟩|⟨y,hy,_⟩
  obtain⟨us,a1,a2⟩:=zjq hD hR hv;obtain⟨_,ρ0,d1,d2,d3,d4,d5⟩:=Ent.zd6 hD hR (a2 ρ F.lv) hfit;have hr0:ρ0=[]:=Qao (by rw[d1,c4];rfl);rw[hr0]at d4
  rcases yjv e.outs hy with q|⟨q,q2⟩
  exact .inr q
  have hrel:=hF F.lv [] (λ_ _=>none) [] us (by rw[c4];rfl) d4 (λj o hm=>(by
   have:∀(os:List OSh) (y:HL D.T (yzq os)),os=[]->(j,o)∉z1g D (λk=>k) os 0 y:=λos y e=>by subst e;simp[z1g]
   exact(this _ _ c4 hm).elim)) ⟨λs s' sl sl' i h=>by simp at h,λs sl i h=>by simp at h⟩ (by rw[c5];exact y3f.nil)
  have hH:(⟨F.lv,[],λ_ _=>none⟩:kz3)=ze1 σ.H:=by rw[<-hR.lv];rfl
  rw[hH]at hrel;refine .inl ⟨_,ygi hrel a1 (λout H' hp =>?_),λout H' hp =>?_⟩;obtain⟨L',ρ',_,_,_,ws,rfl,w2⟩:=hp;exact⟨_,rfl,yfs (q2 ρ' F.lv ws w2)⟩;obtain⟨e1,rv,H1,e2,L',ρ',_,_,_,ws,e3,w2⟩:=hp;injection e3 with e3;subst e3;refine⟨e1,_,_,e2,VR.zw0 hD ?_,q⟩;exact ylx e.outs c3 w2;cases hy;exact zmt hD hR hv (λe he=>htbl e (Qai _ he)) h
  exact zmt hD hR hv (λe he=>htbl e (Qai _ he)) h
end
section
variable {P : Program} {D : Dat} {F : Fr} {ρ : List Slot} {ts : TS D.T} {σ : St} {lv : Nat}
variable (hD : D.Ok P)
include hD
omit hD in
theorem ynb{T:Nat->Type}{nx:Nat}{a b:Option (TV T)}(h:¬appW nx a b=none):appW nx a b=some nx∧∀q,a≠some (.own q):=by
 unfold appW at h ⊢;split at h;exact(h rfl).elim;exact⟨rfl,λq e=>by cases e⟩;exact⟨rfl,λq e=>by cases e⟩;exact(h rfl).elim
omit hD in
theorem ymw{ops:Array Oper}{k:Nat}{σ τ:St}{Q:yza->St->Prop}(hw:zj1 σ τ)(h:z8l P ops k τ Q):z8l P ops k σ Q:=λW0 g0 H0 W a g hB hS hG=>by
 obtain⟨g',h1,h2⟩:=hw W0 g0 H0 W a g hB hS hG;exact h W0 g0 H0 W a g' hB h1 h2
omit hD in
theorem zdk{ops:Array Oper}{k:Nat}{o:Oper}(ho:ops[k]? = some o):(ops.toList.drop k).take 1=[o]:=by
 have hk:k<ops.size:=by
  rcases Nat.lt_or_ge k ops.size with q|q
  exact q;rw[Array.getElem?_eq_none q]at ho;cases ho
 have hk':k<ops.toList.length:=by simpa using hk
 rw[<-Qah (h:=hk')]
 have:ops.toList[k]=o:=by
  have h2:ops.toList[k]? = some o:=by simpa using ho
  rw[Qab hk']at h2;injection h2
 simp[this]
omit hD in
theorem yan{ops:Array Oper}{k:Nat}{σ:St}{Q:yza->St->Prop}{o:Oper}{v:V}{H':kz3}(ho:ops[k]? = some o)(hw:yzg ops σ o=some true)(hox:ox P σ.H σ.ev o.op=some (v,H'))(h:z8l P ops (k+1) ({σ with H:=H'}.put o.dst v) Q):z8l P ops k σ Q :=
 zng 1 [] ({σ with H:=H'}.put o.dst v) [] (by rw[zdk ho];simp[zp7,hw,hox]) zk5 h
omit hD in
theorem yn1{ops:Array Oper}{k:Nat}{σ:St}{Q:yza->St->Prop}{o:Oper}(ho:ops[k]? = some o)(hw:yzg ops σ o=some false)(h:z8l P ops (k+1) (σ.put o.dst (.tup [])) Q):z8l P ops k σ Q :=
 zng 1 [] (σ.put o.dst (.tup [])) [] (by rw[zdk ho];simp[zp7,hw]) zk5 h
omit hD in
theorem yk0{ops:Array Oper}{k:Nat}{σ:St}{Q:yza->St->Prop}{o:Oper}{c:Call}{f:Nat}{args:List V}{v:V}(ho:ops[k]? = some o)(hw:yzg ops σ o=some true)(hop:o.op = .call c)(hcal:∃x,c.callee = .value x)(ht:target σ.ev c=some (f,args))(hc:zns P f args σ.H v σ.H)
  (h:z8l P ops (k+1) (σ.put o.dst v) Q):z8l P ops k σ Q:=by
 refine zng 1 [(v,none)] (σ.put o.dst v) [⟨f,args,σ.H,v,σ.H⟩] ?_ (zgu hc zk5) h;obtain⟨x,hx⟩:=hcal;have hox:ox P σ.H σ.ev o.op=none:=by rw[hop];simp only[ox,hx,z7x,Option.map_none]
 rw[zdk ho];rw[hop]at hox;simp only[zp7,hw,if_true,hop,hox,ht,Option.getD_none]
omit hD in
theorem yio{ops:Array Oper}{k:Nat}{σ:St}{Q:yza->St->Prop}{o:Oper}{c:Call}{f:Nat}{args:List V}{v:V}(ho:ops[k]? = some o)(hw:yzg ops σ o=some true)(hop:o.op = .call c)(hcal:∃x,c.callee = .value x)(ht:target σ.ev c=some (f,args))(hc:y2w P f args v)
  (h:z8l P ops (k+1) (σ.put o.dst v) Q):z8l P ops k σ Q:=by
 refine zng 1 [(v,none)] (σ.put o.dst v) [⟨f,args,σ.H,v,σ.H⟩] ?_ (zgu (hc σ.H) zk5) h;obtain⟨x,hx⟩:=hcal;have hox:ox P σ.H σ.ev o.op=none:=by rw[hop];simp only[ox,hx,z7x,Option.map_none]
 rw[zdk ho];rw[hop]at hox;simp only[zp7,hw,if_true,hop,hox,ht,Option.getD_none]
omit hD in
def zks(ops:Array Oper)(ts:TS D.T)(o:Oper):Prop:=o.guard=none∨∃j want d,o.guard=some (j,want)∧(ops[j]?).bind (·.dst)=some d∧fnd ts.t d=some (.bool want)
omit hD in
theorem TRr.tmp(hR:TRr D F ρ ts σ){d:Nat}{x:TV D.T}(h:fnd ts.t d=some x):VR D ρ F.lv x (σ.t.getD d .any):=hR.ev (o:=.tmp d) h
omit hD in
theorem zks.wanted(hR:TRr D F ρ ts σ){ops:Array Oper}{o:Oper}(h:zks ops ts o):yzg ops σ o=some true:=by
 unfold yzg
 rcases h with h|⟨j,want,d,h1,h2,h3⟩
 rw[h];have:=hR.tmp h3;simp only[VR]at this;rw[h1];simp only[h2,this,beq_self_eq_true]
omit hD in
theorem zks.freeze{ops:Array Oper}{o:Oper}(h:zks ops ts o){s:Nat}{ts':TS D.T}(hf:ts.freeze D s=some ts'):zks ops ts' o:=by
 rcases h with h|⟨j,want,d,h1,h2,h3⟩
 exact .inl h
 ·refine .inr ⟨j,want,d,h1,h2,?_⟩;unfold TS.freeze at hf;split at hf;rename_i ty t xs w _ ho;injection hf with hf;subst hf;simp only[TS.z7y];rw[zer (TV.frz D s false (.sl t xs 0)),h3];rfl;rename_i ty q xs _ ho;injection hf with hf;subst hf;simp only[TS.z7y];rw[zer (TV.frz D s false (.sl (.st q) xs 0)),h3];rfl
  ·rename_i ty t es _ ho;split at hf
   case isFalse=>cases hf
   injection hf with hf;subst hf;simp only[TS.z7y];rw[zer (TV.frz D s true (.mc t es)),h3];rfl
  cases hf
omit hD in
theorem zks.ren{ops:Array Oper}{o:Oper}{ts':TS D.T}(h:zks ops ts o){s s':Nat}(ht:ts'.t=ts.t.map λp=>(p.1,TV.ren D s s' p.2)):zks ops ts' o:=by
 rcases h with h|⟨j,want,d,h1,h2,h3⟩
 exact .inl h;refine .inr ⟨j,want,d,h1,h2,?_⟩;rw[ht,zer (TV.ren D s s'),h3];rfl
omit hD in
theorem zmv(hR:TRr D F ρ ts σ){c:Call}{x:Operand}{f:Nat}{a b vs:List (TV D.T)}(hc:c.callee = .value x)(h1:ts.ev x=some (.fn f a b))(h2:ts.evs c.args.toList=some vs):∃args,target σ.ev c=some (f,args)∧VRL D ρ F.lv (a++vs++b) args:=by
 have hx:=hR.ev h1;simp only[VR]at hx;obtain⟨as,bs,e1,e2,e3⟩:=hx;exact⟨as++c.args.toList.map σ.ev++bs,by simp only[target,hc,e1],(e2.append (hR.evs h2)).append e3⟩
variable {tbl : List (Ent D)}
omit hD in
theorem y04{W:World}{a:Act}{g:Gh}{c:Call}{f:Nat}{args:List V}{ty:TypeId}(hρ:∀x,Rel W g σ.H (σ.ev x) (a.eval x))(h:target σ.ev c=some (f,args)) :
  ∃caps as,zi0 W g σ.H args (as++caps)∧∀w:World,(resolve a.eval c ty).run P w = .ok ⟨.fn (.func f) caps,as⟩ w:=by
 unfold target at h;split at h;rename_i fo hc;split at h;rename_i f' first caps hf;injection h with h;injection h with h1 h2;subst h1;subst h2;have hr:=hρ fo;rw[hf]at hr;generalize hrc:a.eval fo=rc at hr
 cases hr with
 |fn _ _ _ fs cs n1 n2 r1 r2=>
  refine⟨cs,fs++c.args.map a.eval,zgd (zgd ⟨n1,r1⟩ (zlk hρ c.args)) ⟨n2,r2⟩,λw =>?_⟩;simp[resolve,hc,hrc,Deferred.ofValue]
 cases h;cases h
omit hD in
theorem yfp{ops:Array Oper}{k:Nat}{σ:St}{Q:yza->St->Prop}{o:Oper}{c:Call}{f:Nat}{args:List V}(ho:ops[k]? = some o)(hw:yzg ops σ o=some true)(hop:o.op = .defer c)(ht:target σ.ev c=some (f,args))(hfm:f<y1v)
  (h:z8l P ops (k+1) ({σ with d:=(f,args)::σ.d}.put o.dst .any) Q):z8l P ops k σ Q:=λW0 g0 H0 W a g hB hS hG=>by
 have hk:k<ops.size:=by
  rcases Nat.lt_or_ge k ops.size with q|q
  exact q;rw[Array.getElem?_eq_none q]at ho;cases ho
 rw[show ops.size-k=(ops.size-(k+1))+1 by omega,List.range'_succ];simp only[wpOps,ho];rw[yzn hG hw,Qbo rfl];left;unfold Oper.wp;obtain⟨caps,as,k1,k2⟩:=y04 (P:=P) (ty:=o.type) hG.ev ht
 have hex:(execOp a.eval o).run P W = .ok (.defer ⟨.fn (.func f) caps,as⟩) W:=by
  unfold execOp;rw[hop];simp[k2 W]
 rw[hex]
 have hG2:yz7 W {a with defers:=⟨.fn (.func f) caps,as⟩::a.defers} g {σ with d:=(f,args)::σ.d}:=by
  refine⟨hG.good,hG.size,hG.tmps,by simp[hG.dlen],λj f' vs hj =>?_⟩
  cases j with
  |zero=>simp at hj;obtain⟨rfl,rfl⟩:=hj;exact .inl ⟨hfm,caps,as,rfl,k1⟩
  |succ j=>exact hG.defs j f' vs (by simpa using hj)
 have hG3:=hG2.next (.refl _ _ _) hG.good (.any undef) o.dst;have hH:({σ with d:=(f,args)::σ.d}.put o.dst .any).H=σ.H:=by cases o.dst <;> rfl
 have he:({σ with d:=(f,args)::σ.d}.put o.dst .any).e0=σ.e0:=by cases o.dst <;> rfl
 exact h W0 g0 H0 W _ g hB (by rw[hH,he];exact hS) hG3
omit hD in
theorem zd1{ops:Array Oper}{k:Nat}{σ:St}{Q:yza->St->Prop}{o:Oper}{v:V}{H':kz3}(ho:ops[k]? = some o)(hw:yzg ops σ o=some true)
  (ht:∀W a g,yz7 W a g σ->z3x P W g σ.H (execOp a.eval o) v H') (h:z8l P ops (k+1) ({σ with H:=H'}.put o.dst v) Q):z8l P ops k σ Q:=λW0 g0 H0 W a g hB hS hG=>by
 have hk:k<ops.size:=by
  rcases Nat.lt_or_ge k ops.size with q|q
  exact q;rw[Array.getElem?_eq_none q]at ho;cases ho
 rw[show ops.size-k=(ops.size-(k+1))+1 by omega,List.range'_succ];simp only[wpOps,ho];rw[yzn hG hw,Qbo rfl];left;unfold Oper.wp;obtain⟨c,W',g',h1,h2,h3,h4⟩:=ht W a g hG;have hn:=hG.next h2 h3 h4 o.dst;have hH:({σ with H:=H'}.put o.dst v).H=H':=by cases o.dst <;> rfl
 have he:({σ with H:=H'}.put o.dst v).e0=σ.e0:=by cases o.dst <;> rfl
 have fin:=h W0 g0 H0 W' (a.put o.dst c) g' hB (by rw[hH,he];exact⟨hS.1,hS.2.trans h2⟩) hn
 rcases h1 with h1|⟨h1,rfl⟩
 rw[h1];exact fin;rw[h1];exact fin
omit hD in
theorem TRr.defer(hR:TRr D F ρ ts σ){f:Nat}{xs:List (TV D.T)}{args:List V}(h:VRL D ρ F.lv xs args):TRr D F ρ {ts with d:=(f,xs)::ts.d} {σ with d:=(f,args)::σ.d} :=
 ⟨hR.nx,hR.nt,hR.tm,hR.ob,hR.inj,hR.mine,hR.lv,hR.E,hR.e0,⟨args,σ.d,rfl,h,hR.d⟩,hR.out,hR.pin,hR.fpl,hR.g⟩
omit hD in
theorem y7s:∀(xs:List Int) (ws:List V),ws.length=xs.length->(∀(j:Nat) (x:Int) (w:V),xs[j]? = some x->ws[j]? = some w->DR D (.int .u8) x w)->zmh ws=ykp xs
 |[],ws,hl,h=>by obtain rfl:ws=[]:=Qao hl;rfl
 |x::xs,[],hl,h=>by simp at hl
 |x::xs,w::ws,hl,h=>by
  have h0:=h 0 x w rfl rfl;have ih:=y7s xs ws (by simpa using hl) λj y u hy hu=>h (j+1) y u (by simpa using hy) (by simpa using hu)
  cases h0;simp only[zmh,ykp,ih]
  cases x with
  |ofNat m=>cases ykp xs <;> rfl
  |negSucc m=>cases ykp xs <;> rfl
omit hD in
theorem yng{α:Type}(es:List α):es.Perm (((List.range es.length).filter λq => !([]:List Nat).contains q).filterMap λq=>es[q]?):=by
 have h1:((List.range es.length).filter λq => !([]:List Nat).contains q)=List.range es.length:=by simp
 rw[h1]
 have h2:(List.range es.length).filterMap (λq=>es[q]?)=es:=by
  apply List.ext_getElem?;intro n
  have:∀(l:List Nat),(∀q∈l,q<es.length)->(l.filterMap λq=>es[q]?)[n]? = (l[n]?).bind λq=>es[q]? := by
   intro l
   induction l generalizing n with
   |nil=>simp
   |cons a l ih=>
    intro hl;have ha:=hl a (by simp);rw[List.filterMap_cons,Qab ha]
    cases n with
    |zero=>simp[ha]
    |succ n=>simpa using ih n λq hq=>hl q (by simp[hq])
  rw[this _ (by simp)];by_cases hn:n<es.length;simp[hn];simp[hn]
 rw[h2]
omit hD in
theorem ynx{α:Type}{es fs:List α}{vis:List Nat}{j:Nat}{p:α}(h:es.Perm (((List.range fs.length).filter λq => !vis.contains q).filterMap λq=>fs[q]?))(hj:fs[j]? = some p)(hn:j∉vis) :
  ∃m:Nat,es[m]? = some p∧(es.eraseIdx m).Perm (((List.range fs.length).filter λq => !(vis++[j]).contains q).filterMap λq=>fs[q]?):=by
 have hlt:=(Qaa.1 hj).1;have hmem:j∈(List.range fs.length).filter λq => !vis.contains q:=by simp[hlt,hn]
 have hnd:((List.range fs.length).filter λq => !vis.contains q).Nodup:=List.nodup_range.filter _
 have he:((List.range fs.length).filter λq => !(vis++[j]).contains q)=((List.range fs.length).filter λq => !vis.contains q).erase j:=by
  rw[hnd.erase_eq_filter,List.filter_filter];refine List.filter_congr λq _ =>?_
  by_cases e:q=j;subst e;simp;simp[e,bne]
 have hp:=(List.perm_cons_erase hmem).filterMap λq=>fs[q]?
 rw[List.filterMap_cons,hj]at hp;have hp2:=h.trans hp;have hm:p∈es:=hp2.mem_iff.2 (by simp);obtain⟨m,hm⟩:=List.mem_iff_getElem?.1 hm;refine⟨m,hm,?_⟩;rw[he];have hml:=(Qaa.1 hm).1
 have h1:es.Perm (p::es.eraseIdx m):=by
  have hpm:es[m]=p:=by have:=hm;rw[Qab hml]at this;injection this
  have h2:es=es.take m++p::es.drop (m+1):=by
   conv=>lhs;rw[<-List.take_append_drop m es]
   rw[List.drop_eq_getElem_cons hml,hpm]
  rw[List.eraseIdx_eq_take_drop_succ]
  conv=>lhs;rw[h2]
  exact List.perm_middle
 exact(List.perm_cons p).1 (h1.symm.trans hp2)
omit hD in
theorem yo5{α R:Type}{es:List (B8×α)}{f:B8->α->List (B8×α)->Option R}{g:Option R}{r:R}(h:ylf es f g=some r)(he:es=[]):g=some r:=by
 subst he;exact h
omit hD in
theorem ymi{α R:Type}{es:List (B8×α)}{f:B8->α->List (B8×α)->Option R}{g:Option R}{r:R}(h:ylf es f g=some r)(m:Nat)(p:B8×α)(hm:es[m]? = some p):f p.1 p.2 (es.eraseIdx m)=some r:=by
 match es,h,hm with
 |[],h,hm=>simp at hm
 |[e],h,hm=>
  cases m with
  |zero=>obtain rfl:e=p:=by simpa using hm
         exact h
  |succ m=>simp at hm
 |e::e'::l,h,hm=>
  simp only[ylf]at h;split at h;rename_i hz;injection h with h;rw[<-h];exact hz.choose_spec m p hm;cases h
omit hD in
theorem VR.yrg{t:DTy}(hf:t.flat=true)(x:t.S D.T):VR D ρ lv (D.leaf t x) (zvm t x).v:=by
 cases t <;> first|(cases hf;done)|(simp only[Dat.leaf,VR];rfl)
theorem zjc{R:Type}{ops:Array Oper}{n:Nat}{o:Oper}{Q:yza->St->Prop}{k kp:TV D.T->TS D.T->Option R}{r:R}(ho:ops[n]? = some o)(htbl:∀e∈tbl,e.Ok P)
  (hk:∀z ts' σ' ρ' v,TRr D F ρ' ts' σ'->VR D ρ' F.lv z v->k z ts'=some r->z8l P ops (n+1) (σ'.put o.dst v) Q)
  (hkp:∀z ts' σ' ρ' v,TRr D F ρ' ts' σ'->VR D ρ' F.lv z v->kp z ts'=some r->Q (.panic v) σ'):∀(fuel:Nat) {ts:TS D.T}{σ:St}{ρ:List Slot},TRr D F ρ ts σ->zks ops ts o->y0h P D tbl o.op k kp fuel ts=some r->z8l P ops n σ Q
 |0,ts,σ,ρ,hR,hw,h=>by simp[y0h]at h
 |fuel+1,ts,σ,ρ,hR,hw,h=>by
  have hkf:∀s,(match isHole ts s with|true=>ts.fold D (zxd 9 ts s) (λts'=>y0h P D tbl o.op k kp fuel ts')|false=>(match ts.freeze D s with|some ts'=>y0h P D tbl o.op k kp fuel ts'|none=>none))=some r->z8l P ops n σ Q:=λs hs=>by
   cases hhole:isHole ts s with
   |true=>
    rw[hhole]at hs;obtain⟨ts',ρ',h1,h2,h3,_⟩:=zxp hD hR hs
    exact zjc ho htbl hk hkp fuel h1 (hw.ren h3) h2
   |false=>
   rw[hhole]at hs
   cases hf:ts.freeze D s with
   |none=>rw[hf]at hs;cases hs
   |some ts'=>
    rw[hf]at hs;obtain⟨τ,h1,h2⟩:=zr4 hD hR hf;exact ymw h1 (zjc ho htbl hk hkp fuel h2 (hw.freeze hf) hs)
  have hop:∀{kf:Nat->Option R},(∀s,kf s=some r->z8l P ops n σ Q)->tOp P D ts o.op k kf=some r->z8l P ops n σ Q:=λ{kf} hkf h=>by
   rcases y7o hD hR h with ⟨z,ts',v,H',ρ',h1,h2,h3,h4⟩|⟨s,hs⟩
   exact yan ho (hw.wanted hR) h1 (hk z ts' _ ρ' v h3 h2 h4);exact hkf s hs
  unfold y0h at h;simp only at h;split at h;rename_i t a hc;split at h;rename_i s i off ha
  rcases yao hD hR h (hR.ev ha)with ⟨z,v,ts',ρ',h1,h2,h3,h4⟩|⟨s,hs⟩
  exact yan ho (hw.wanted hR) (by rw[hc];exact ygr (op:=.load t a) h1) (hk z ts' σ ρ' v h3 h2 h4);exact hkf s hs;exact hop hkf h;rename_i c hc;split at h;rename_i x hcal;split at h;rename_i f a b vs hx hvs;obtain⟨args,t1,t2⟩:=zmv hR hcal hx hvs
  have hcall:zkl D f (a++vs++b) ts k kp _ tbl=some r->z8l P ops n σ Q:=λh=>by
   rcases zds hD hR t2 htbl h with ⟨_,Post,h1,h2,h3⟩|⟨rv,h1,z,ρ',ts',h2,h3,h4,_⟩|⟨s,hs⟩
   refine y7r ho (hw.wanted hR) hc t1 h1 (λrv H' hp =>?_) λv H' hp =>?_
   obtain⟨z,ts',ρ',k1,k2,k3⟩:=h2 rv H' hp;exact hk z ts' _ ρ' rv k2 k1 k3;obtain⟨z,ts',ρ',k1,k2,k3⟩:=h3 v H' hp;exact hkp z ts' _ ρ' v k2 k1 k3;exact yio ho (hw.wanted hR) hc ⟨x,hcal⟩ t1 h1 (hk z ts' σ ρ' rv h3 (h2 _) h4);exact hkf s hs
  split at h;split at h;rename_i s _;exact hkf s h
  rcases zk0 hD hR t2 htbl h with ⟨rv,z,h1,h2,h3⟩|h
  exact yk0 ho (hw.wanted hR) hc ⟨x,hcal⟩ t1 h1 (hk z ts σ ρ rv hR h2 h3)
  rcases zmt hD hR t2 htbl h with ⟨Post,h1,h2⟩|h
  refine y7r ho (hw.wanted hR) hc t1 h1 (λrv H' hp =>?_) λv H' hp =>?_
  obtain⟨rfl,rv',z,e1,k1,k2⟩:=h2 _ _ hp;injection e1 with e1;subst e1;exact hk z ts _ ρ rv hR k1 k2;obtain⟨_,rv',z,e1,_⟩:=h2 _ _ hp;cases e1;exact hcall h;exact hcall h;cases h;exact hop hkf h;rename_i x hc;split at h;rename_i t v hx;have hv:=hR.ev hx;simp only[VR]at hv;obtain⟨u,e1,e2⟩:=hv;exact yjx ho (hw.wanted hR) hc e1 (hkp _ ts σ ρ _ hR (by simp only[VR];exact⟨u,rfl,e2⟩) h);cases h
  ·rename_i c hc;split at h
   ·rename_i x hcal;split at h
    ·rename_i f a b vs hx hvs;split at h
     case h_2=>cases h
     rename_i hfm;have hfm:f<y1v:=by rw[Nat.blt_eq]at hfm;exact hfm
     obtain⟨args,t1,t2⟩:=zmv hR hcal hx hvs;exact yfp ho (hw.wanted hR) hc t1 hfm (hk .any _ _ ρ .any (hR.defer t2) (by simp only[VR]) h)
    cases h
   cases h
  rename_i bo t x y ty hc;split at h;rename_i hx hy;split at h;rename_i hi hu;have h1:=hR.ev hx;have h2:=hR.ev hy;simp only[VR]at h1 h2
  have zj8:∀{b:Bool},ztm P bo t x y .nili .nili=some (.bool b)->k (.bool b) ts=some r->z8l P ops n σ Q:=λ{b} hb hkk=>by
   refine zd1 ho (hw.wanted hR) (λW a g hG=>zjj hG.good hG.ev (v:=.bool b) (H':=σ.H) ?_) (hk (.bool b) ts _ ρ (.bool b) hR (by simp only[VR]) hkk);rw[hc];simp only[zil,hEq2,h1,h2,hb,Qbk]
  split at h;exact zj8 (by simp only[ztm,hi,hu]) h;exact zj8 (by simp only[ztm,hi,hu]) h;cases h;cases h;exact hop hkf h;rename_i t hc;split at h;rename_i i hz hi;split at h;rename_i hb;simp only[Qag]at hb;have hsz:i.size=2:=Qaj hb.2
  have hm:zil P σ.H σ.ev o.op=some (.ap σ.H.lv σ.H.L.length 0 0 0,σ.H.push (.arr 0 t 2 [.agg [.nilp,.nils]] (some 1))):=by
   rw[hc];simp only[zil,hb.1,zxg,hz,hi,hsz];rfl
  refine zd1 ho (hw.wanted hR) (λW a g hG=>zjj hG.good hG.ev hm) (hk (.bp ts.nx 0) _ _ (ρ++[⟨.any,some σ.H.L.length,[],[]⟩]) _ ?_ ?_ h);refine hR.new _ _ _ hR.lv hR.E (by simp[kz3.push]) (λi hi=>by simp only[kz3.push];rw[Qal hi]) (λi hi=>by injection hi with hi;omega) ?_;simp only[OR];exact⟨σ.H.L.length,.nilp,.nils,rfl,by simp[kz3.push],.inl rfl,by simp only[y8x,VR]⟩
  simp only[VR];exact⟨⟨.any,some σ.H.L.length,[],[]⟩,σ.H.L.length,by rw[<-hR.nx];simp,rfl,by rw[hR.lv]⟩;exact hop hkf h;exact hop hkf h;rename_i s d x hc;split at h;rename_i xs fl hx;split at h;rename_i e hus hud;split at h;rename_i hue;obtain⟨y,hy,h⟩:=yzv h;have hv:=hR.ev hx;simp only[VR]at hv
  have hs:yri P s d (σ.ev x)=some (.str y):=by
   unfold yri;rw[hus,hud];simp only[hue];obtain⟨hv,_⟩:=hv;generalize σ.ev x=u at hv
   cases hv with
   |nil=>simp only[ykp,Qbl]at hy;subst hy;rfl
   |sl _ _ ws full hl hh=>
    simp only[Dat.len];rw[y7s xs ws hl hh,hy];rfl
  refine zd1 ho (hw.wanted hR) (λW a g hG =>?_) (hk (.str y) ts _ ρ (.str y) hR (by simp only[VR]) h);have hx':=hG.ev x;unfold execOp;rw[hc];exact zy4 hG.good hs hx';cases h;cases h;exact hop hkf h
  ·rename_i t x hc;split at h;exact hkf _ h
   ·rename_i τ es hx;split at h
    ·rename_i kt vt ht;have hv:=hR.ev hx;unfold VR at hv;obtain⟨hfl,hv⟩:=hv;refine zd1 (v:=.ptr σ.H.lv σ.H.L.length 0) (H':=σ.H.push (.mit (es.map λp=>(.str p.1,zvm τ p.2)) [])) ho (hw.wanted hR) (λW a g hG =>?_) (hk (.ptr ts.nx 0) _ _ (ρ++[⟨.any,some σ.H.L.length,[],[]⟩]) _ ?_ ?_ h)
     rotate_left
     refine hR.new _ _ _ hR.lv hR.E (by simp[kz3.push]) (λi hi=>by simp only[kz3.push];rw[Qal hi]) (λi hi=>by injection hi with hi;omega) ?_;simp only[OR];refine⟨σ.H.L.length,es,[],rfl,hfl,by simp[kz3.push],by simp,?_,λp hp=>by cases hp⟩;exact yng es;simp only[VR];exact⟨⟨.any,some σ.H.L.length,[],[]⟩,σ.H.L.length,by rw[<-hR.nx];simp,rfl,by rw[hR.lv]⟩;have hx':=hG.ev x;rw[hv]at hx'
     unfold execOp;rw[hc];exact yf5 hG.good ht hx'
    cases h
   exact hop hkf h
  rename_i x hc;split at h;rename_i s hx;split at h;rename_i τ last es hs;have hv:=hR.ev hx;simp only[VR]at hv;obtain⟨sl,i,e1,e2,e3⟩:=hv;obtain⟨sl',k1,k2⟩:=hR.ob s _ hs
  rw[e1]at k1;injection k1 with k1;subst k1
  have k2':=k2;simp only[OR]at k2;obtain⟨i',fs,vis,q1,q2,q3,q4,q5,_⟩:=k2
  rw[e2]at q1;injection q1 with q1;subst q1
  have hlt:=(Qaa.1 q3).1;refine ynk ho (hw.wanted hR) hc e3 (hR.get q3) (λq hq=>by simpa using q4 q hq) (λhall =>?_) λj p hj hnj =>?_
  have hnil:es=[]:=by
   have:(List.filter (λq => !vis.contains q) (List.range fs.length))=[]:=List.filter_eq_nil_iff.2 λq hq=>by
    have:=hall q (by simpa using hq);simpa using this
   rw[this]at q5;simpa using q5
  exact hk (.tup [.bool false]) ts σ ρ _ hR (by simp[VR,VRL]) (yo5 h hnil);rw[Qan,Qaf]at hj;obtain⟨p',hp',rfl⟩:=hj;obtain⟨m,hm,hperm⟩:=ynx q5 hp' hnj;have h':=ymi h m p' hm;refine hk _ _ _ ρ _ ?_ ?_ h'
  have hmm:σ.H.set F.lv i (kz8.mit (fs.map λp=>(.str p.1,zvm τ p.2)) (vis++[j]))={σ.H with L:=σ.H.L.set i (some (.mit (fs.map λp=>(.str p.1,zvm τ p.2)) (vis++[j])))}:=by
   unfold kz3.set;rw[Qbo hR.lv.symm]
  rw[hmm]
  exact hR.upd hs trivial e1 e2 (.mit τ (some (p'.1,p'.2)) (es.eraseIdx m)) (.mit (fs.map λp=>(.str p.1,zvm τ p.2)) (vis++[j])) (by
   simp only[OR];refine⟨i,fs,vis++[j],e2,q2,by simp[hlt],λq hq =>?_,hperm,λp hp=>⟨vis,j,rfl,by injection hp with hp;rw[hp',<-hp]⟩⟩
   rcases List.mem_append.1 hq with hq|hq
   exact q4 q hq
   simp at hq;subst hq;exact(Qaa.1 hp').1)
  simp only[VR,VRL];exact⟨_,rfl,_,_,rfl,rfl,_,_,rfl,rfl,_,_,rfl,VR.yrg q2 _,rfl⟩;cases h;cases h
  ·rename_i x hc;split at h
   ·rename_i s hx;split at h
    ·rename_i τ p es hs;have hv:=hR.ev hx;simp only[VR]at hv;obtain⟨sl,i,e1,e2,e3⟩:=hv;obtain⟨sl',k1,k2⟩:=hR.ob s _ hs
     rw[e1]at k1;injection k1 with k1;subst k1
     simp only[OR]at k2;obtain⟨i',fs,vis,q1,q2,q3,q4,q5,q6⟩:=k2
     rw[e2]at q1;injection q1 with q1;subst q1
     obtain⟨vis',j,rfl,hj⟩:=q6 p rfl;refine zd1 (v:=.tup [.str p.1,(zvm τ p.2).v]) (H':=σ.H) ho (hw.wanted hR) (λW a g hG =>?_) (hk _ ts _ ρ _ hR ?_ h)
     rotate_left
     simp only[VR,VRL];exact⟨_,rfl,_,_,rfl,rfl,_,_,rfl,VR.yrg q2 _,rfl⟩;have hx':=hG.ev x;rw[e3]at hx';unfold execOp;rw[hc];exact yge hG.good (hR.get q3) (by rw[Qan,hj];rfl) hx'
    cases h
   cases h
  exact hop hkf h
omit hD in
theorem zm5{R:Type}{ops:Array Oper}{n:Nat}{o:Oper}{go skip:TS D.T->Option R}{r:R}{G:Prop}(hR:TRr D F ρ ts σ)(h:y1z D ops.toList o ts go skip=some r)
  (h1:∀ts',ts'.o=ts.o->TRr D F ρ ts' σ->zks ops ts' o->go ts'=some r->G) (h2:∀ts',ts'.o=ts.o->TRr D F ρ ts' σ->yzg ops σ o=some false->skip ts'=some r->G):G:=by
 unfold y1z at h;split at h;rename_i hg;exact h1 ts rfl hR (.inl hg) h;rename_i j want hg;have hj:ops.toList[j]? = ops[j]? := by simp
 rw[hj]at h;split at h;cases h;rename_i d hd
 have tell:∀b:Bool,fnd ts.t d=some (.bool b)->TRr D F ρ {ts with t:=(d,.bool b)::ts.t} σ∧fnd ({ts with t:=(d,.bool b)::ts.t}:TS D.T).t d=some (.bool b)∧σ.t.getD d .any = .bool b:=λb hb=>by
  obtain⟨v,e1,e2⟩:=hR.tm d _ hb;refine⟨hR.tell e1 e2,by simp only[kz5,if_true],?_⟩;simp only[VR]at e2;rw[Qaz,e1,e2];rfl
 simp only[zs5]at h;split at h;rename_i b hb
 have wf:∀b':Bool,b'=b->(b'==want)=false->yzg ops σ o=some false:=λb' e hne=>by
  unfold yzg;rw[hg];simp only[hd,(tell b hb).2.2];rw[<-e,hne]
 split at h;rename_i hbt;subst hbt;obtain⟨t1,t2,t3⟩:=tell true hb;split at h;rename_i hwt;subst hwt;exact h1 _ (by rfl) t1 (.inr ⟨j,true,d,hg,hd,t2⟩) h;rename_i hwt;exact h2 _ (by rfl) t1 (wf true rfl (by simpa using hwt)) h;rename_i hbf;have hbf:b=false:=by simpa using hbf
 subst hbf;obtain⟨t1,t2,t3⟩:=tell false hb;split at h;rename_i hwt;subst hwt;exact h2 _ (by rfl) t1 (wf false rfl rfl) h;rename_i hwt;have hwt:want=false:=by simpa using hwt
 subst hwt;exact h1 _ (by rfl) t1 (.inr ⟨j,false,d,hg,hd,t2⟩) h;rename_i vs hv;have:=hR.tmp hv;simp only[VR]at this;obtain⟨us,e1,e2⟩:=this;exact h2 ts rfl hR (by unfold yzg;rw[hg];simp only[hd,e1]) h;cases h
theorem yga{R:Type}{ops:Array Oper}{n:Nat}{o:Oper}{Q:yza->St->Prop}{k kp:TV D.T->TS D.T->Option R}{r:R}(ho:ops[n]? = some o)(htbl:∀e∈tbl,e.Ok P)
  (hk:∀z ts' σ' ρ' v,TRr D F ρ' ts' σ'->VR D ρ' F.lv z v->k z ts'=some r->z8l P ops (n+1) (σ'.put o.dst v) Q) (hkp:∀z ts' σ' ρ' v,TRr D F ρ' ts' σ'->VR D ρ' F.lv z v->kp z ts'=some r->Q (.panic v) σ') {ts:TS D.T}{σ:St}{ρ:List Slot}
  (hR:TRr D F ρ ts σ) (hw:zks ops ts o) (h:yr7 P D tbl ops.toList o k kp ts=some r):z8l P ops n σ Q:=by
 unfold yr7 at h;split at h;rename_i t x lo hcp;split at h;rename_i cx clo hx hlo
 rcases y2v hR h (hR.ev hx) (hR.ev hlo)with ⟨z,v,h1,h2,h3⟩|h
 refine yan (H':=σ.H) ho (hw.wanted hR) ?_ (hk z ts _ ρ v hR h2 h3);unfold cpB at hcp;split at hcp;rename_i t' x' lo' d hop hdst;split at hcp;injection hcp with hcp;injection hcp with e1 hcp;injection hcp with e2 e3;subst e1;subst e2;subst e3;rw[hop];simp only[ox,pv,Qbk,Option.map_none,h1];cases hcp;cases hcp;exact zjc hD ho htbl hk hkp 9 hR hw h;cases h
 ·have fall:y0h P D tbl o.op k kp 9 ts=some r->z8l P ops n σ Q:=zjc hD ho htbl hk hkp 9 hR hw;split at h
  ·unfold tLit at h;split at h
   ·rename_i t len ps hop;split at h
    ·rename_i e qs hu hqs;split at h
     ·rename_i τ xs hb;obtain⟨p1,p2⟩:=hR.parts hqs;obtain⟨v,b1,b2⟩:=zbq hD p1 p2 hb;simp only[VR]at b2;obtain⟨b2,b3,_⟩:=b2;obtain⟨ws,rfl⟩:=b3 (Qbn _)
      cases b2 with
      |sl _ _ _ _ hl hh=>
       have hlen:len≠0:=λe0=>by
        subst e0;unfold zbg at hb
        repeat (split at hb <;> try (first|(cases hb;done)|(injection hb with hb;injection hb with _ _ hb;cases hb;done)))
       refine zd1 (v:=.hs σ.H.lv σ.H.L.length 0 0 ws.length false) (H':=σ.H.push (.arr 0 e (D.len τ) ws (some ws.length))) ho (hw.wanted hR) (λW a g hG =>?_) (hk (.own ts.nx) _ _ (ρ++[⟨.hs σ.H.lv σ.H.L.length 0 0 ws.length false,some σ.H.L.length,ws,[]⟩]) _ ?_ ?_ h);unfold execOp;rw[hop];obtain⟨r1,r2⟩:=zf2 hG.ev ps;exact zl8 hG.good b1 hlen hu r1 r2
       refine hR.new _ _ _ hR.lv hR.E (by simp[kz3.push]) (λi hi=>by simp only[kz3.push];rw[Qal hi]) (λi hi=>by injection hi with hi;omega) ?_;simp only[OR];exact⟨hl,hh,0,some ws.length,by rw[hR.lv],by simp[kz3.push]⟩;simp only[VR];exact⟨⟨.hs σ.H.lv σ.H.L.length 0 0 ws.length false,some σ.H.L.length,ws,[]⟩,by rw[<-hR.nx];simp,rfl,rfl⟩
     exact fall h
    exact fall h
   exact fall h
  exact fall h
theorem zcf{R:Type}{ops:Array Oper}{Q:yza->St->Prop}{kn:TS D.T->Option R}{kp:TV D.T->TS D.T->Option R}{r:R}(htbl:∀e∈tbl,e.Ok P)
  (hkn:∀ts' σ' ρ',TRr D F ρ' ts' σ'->kn ts'=some r->Q .normal σ') (hkp:∀z ts' σ' ρ' v,TRr D F ρ' ts' σ'->VR D ρ' F.lv z v->kp z ts'=some r->Q (.panic v) σ') :
  ∀(l:List Oper) (n:Nat) {ts:TS D.T}{σ:St}{ρ:List Slot},(∀j,l[j]? = ops[n+j]?)->TRr D F ρ ts σ->zk6 P D tbl ops.toList kn kp l ts=some r->z8l P ops n σ Q
 |[],n,ts,σ,ρ,hl,hR,h=>by
  simp only[zk6]at h
  exact ypn (by have:=hl 0;simp at this;exact this) (hkn ts σ ρ hR h)
 |o::l,n,ts,σ,ρ,hl,hR,h=>by
  have ho:ops[n]? = some o:=by simpa using(hl 0).symm
  have hl':∀j,l[j]? = ops[n+1+j]? := λj=>by have:=hl (j+1);simpa[Nat.add_assoc,Nat.add_comm 1 j]using this
  simp only[zk6,pOp]at h;refine zm5 (n:=n) hR h (λts1 _ hR1 hw h1 =>?_) λts1 _ hR1 hw h1 =>?_
  refine yga hD ho htbl (λz ts' σ' ρ' v a1 a2 a3 =>?_) hkp hR1 hw h1;split at a3;rename_i ts2 hp;exact zcf htbl hkn hkp l (n+1) hl' (a1.put hp a2) a3;cases a3;split at h1;rename_i ts2 hp;exact yn1 ho hw (zcf htbl hkn hkp l (n+1) hl' (hR1.put hp (by simp only[VR];exact⟨[],rfl,by simp only[VRL]⟩)) h1);cases h1
theorem z6a{R:Type}{ops:Array Oper}{kn:TS D.T->Option R}{r:R}(htbl:∀e∈tbl,e.Ok P) :
  ∀(l:List Oper) {ts:TS D.T}{σ:St},TRr D F ρ ts σ->zb4 P D tbl ops.toList kn l ts=some r->∃ans σ' cl ts',zfy P ops l ans σ=some (σ',[],cl)∧(∀c∈cl,c.ok P)∧TRr D F ρ ts' σ'∧kn ts'=some r
 |[],ts,σ,hR,h=>⟨[],σ,[],ts,rfl,by simp,hR,h⟩
 |o::l,ts,σ,hR,h=>by
  simp only[zb4,pOp]at h;refine zm5 (ops:=ops) (n:=0) hR h (λts1 _ hR1 hw h1 =>?_) λts1 _ hR1 hw h1 =>?_
  have hwt:=hw.wanted hR1
  have hpv:∀{op:Op},op=o.op->tP P D ts1 op (λv=>match ts1.put D o.dst v with|some ts=>zb4 P D tbl ops.toList kn l ts|none=>none) (λ_=>none)=some r->∃ans σ' cl ts',zfy P ops (o::l) ans σ=some (σ',[],cl)∧(∀c∈cl,c.ok P)∧TRr D F ρ ts' σ'∧kn ts'=some r:=λ{op} he hh=>by
   subst he
   rcases y00 hD hR1 hh with ⟨x,v,a1,a2,a3⟩|⟨s,hs⟩
   cases hp:ts1.put D o.dst x with
   |none=>rw[hp]at a3;cases a3
   |some ts2=>
    rw[hp]at a3;obtain⟨ans,σ',cl,ts',b1,b2,b3,b4⟩:=z6a htbl l (hR1.put hp a2) a3;exact⟨ans,σ',cl,ts',by simp only[zfy,hwt,if_true,a1];exact b1,b2,b3,b4⟩
   cases hs
  split at h1;rename_i c hc;split at h1;rename_i x hcal;split at h1;rename_i f a b vs hx hvs;obtain⟨args,t1,t2⟩:=zmv hR1 hcal hx hvs
  have hcall:zkl D f (a++vs++b) ts1 (λv _=>match ts1.put D o.dst v with|some ts=>zb4 P D tbl ops.toList kn l ts|none=>none) (λ_ _=>none) (λ_=>none) (tbl.filter (·.pure))=some r->∃ans σ' cl ts',zfy P ops (o::l) ans σ=some (σ',[],cl)∧(∀c∈cl,c.ok P)∧TRr D F ρ ts' σ'∧kn ts'=some r:=λh1=>by
   rcases zds hD hR1 t2 (λe he=>htbl e (List.mem_filter.1 he).1) h1 with ⟨⟨e,he,hne⟩,_⟩|⟨rv,e1,z,ρ',ts',e2,e3,e4,_⟩|⟨s,hs⟩
   have:=(List.mem_filter.1 he).2;rw[hne]at this;cases this;split at e4;rename_i ts2 hp;obtain⟨ans,σ',cl,ts',b1,b2,b3,b4⟩:=z6a htbl l (hR1.put hp (e2 ρ)) e4;refine⟨rv::ans,σ',⟨f,args,σ.H,rv,σ.H⟩::cl,ts',?_,zgu (e1 σ.H) b2,b3,b4⟩;have hpn:pv P σ.H σ.ev (.call c)=none:=by simp[pv,z7x,hcal]
   simp only[zfy,hwt,if_true,hc,hpn,t1,b1];cases e4;cases hs
  split at h1
  rcases zk0 hD hR1 t2 htbl h1 with ⟨rv,z,e1,e2,e4⟩|h1
  split at e4;rename_i ts2 hp;obtain⟨ans,σ',cl,ts',b1,b2,b3,b4⟩:=z6a htbl l (hR1.put hp e2) e4;refine⟨rv::ans,σ',⟨f,args,σ.H,rv,σ.H⟩::cl,ts',?_,zgu e1 b2,b3,b4⟩;have hpn:pv P σ.H σ.ev (.call c)=none:=by simp[pv,z7x,hcal]
  simp only[zfy,hwt,if_true,hc,hpn,t1,b1];cases e4;exact hcall h1;exact hcall h1;cases h1;exact hpv rfl h1;unfold tPC at h1;split at h1;rename_i t x lo hcp;split at h1;rename_i cx clo hx hlo
  rcases y2v hR1 h1 (hR1.ev hx) (hR1.ev hlo)with ⟨z,v,a1,a2,a3⟩|h1
  cases hp:ts1.put D o.dst z with
  |none=>rw[hp]at a3;cases a3
  |some ts2=>
   rw[hp]at a3;obtain⟨ans,σ',cl,ts',b1,b2,b3,b4⟩:=z6a htbl l (hR1.put hp a2) a3;refine⟨ans,σ',cl,ts',?_,b2,b3,b4⟩
   have hpv':pv P σ.H σ.ev o.op=some v:=by
    unfold cpB at hcp;split at hcp;rename_i t' x' lo' d hop hdst;split at hcp;injection hcp with hcp;injection hcp with e1 hcp;injection hcp with e2 e3;subst e1;subst e2;subst e3;rw[hop];simp only[pv,Qbk,Option.map_none,a1];cases hcp;cases hcp
   simp only[zfy,hwt,if_true,hpv'];exact b1
  exact hpv rfl h1;cases h1;exact hpv rfl h1;split at h1;rename_i ts2 hp;obtain⟨ans,σ',cl,ts',b1,b2,b3,b4⟩:=z6a htbl l (hR1.put hp (v:=.tup []) (by simp only[VR];exact⟨[],rfl,by simp only[VRL]⟩)) h1;exact⟨ans,σ',cl,ts',by simp only[zfy,hw];simpa using b1,b2,b3,b4⟩;cases h1
def Keyed(ρ:List Slot)(s i:Nat):Prop:=∃sl,ρ[s]? = some sl∧sl.has i
def KR(ρ:List Slot)(q:Rd)(x:Key):Prop:=Keyed ρ q.1 x.1∧x.2=q.2∧∀c,q.2=some c->∃sl,ρ[q.1]? = some sl∧sl.k=some x.1
omit hD in
theorem KR.up{ρ ρ':List Slot}{q:Rd}{x:Key}(h:KR ρ q x)(hu:∀(s:Nat) (sl:Slot),ρ[s]? = some sl->ρ'[s]? = some sl):KR ρ' q x :=
 ⟨h.1.imp λsl e=>⟨hu _ _ e.1,e.2⟩,h.2.1,λc e=>(h.2.2 c e).imp λsl e=>⟨hu _ _ e.1,e.2⟩⟩
omit hD in
theorem zf0{ts:TS D.T}{s:Nat}(h:kzk ts s=true):∃o,fnd ts.o s=some o∧o.live:=by
 unfold kzk at h;split at h;cases h;rename_i o hne ho;exact⟨o,ho,by cases o <;> first|trivial|exact(hne ho).elim⟩;cases h
omit hD in
theorem z82{ts:TS D.T}{s:Nat}{o:TO D.T}(h:fnd ts.o s=some o)(hl:o.live):kzk ts s=true:=by
 unfold kzk;rw[h];cases o <;> first|rfl|exact hl.elim
omit hD in
theorem zhj(hR:TRr D F ρ ts σ){s i:Nat}(hl:kzk ts s=true)(hk:Keyed ρ s i):i<σ.H.L.length:=by
 obtain⟨o,h1,h2⟩:=zf0 hl;obtain⟨sl,h3,h4⟩:=hk;exact hR.lt h1 h2 h3 h4
omit hD in
theorem zn5(hR:TRr D F ρ ts σ){s s' i:Nat}(hl:kzk ts s=true)(hl':kzk ts s'=true)(hk:Keyed ρ s i)(hk':Keyed ρ s' i):s=s':=by
 obtain⟨o,h1,h2⟩:=zf0 hl;obtain⟨sl,h3,h4⟩:=hk;obtain⟨o',h1',h2'⟩:=zf0 hl';obtain⟨sl',h3',h4'⟩:=hk';exact hR.inj s s' o o' sl sl' i h1 h1' h2 h2' h3 h3' h4 h4'
structure zh5(ρ:List Slot)(ts:TS D.T)(rds:Rds)(wrs:Wrs)(prev:List (Nat×Info)):Prop where
 q:∀p∈prev,p.2.eff=false->(∀x,¬p.2.K x)∨∃R,(p.1,R)∈rds∧∀l,R=some l->∀x,p.2.K x->∃q∈l,kzk ts q.1=true∧KR ρ q x
 e:∀p∈prev,p.2.eff=true->∃w,(p.1,w)∈wrs∧∀s,w=some s->∀x,p.2.W x->kzk ts s=true∧Keyed ρ s x.1
def zoc(ρ:List Slot)(R:List Rd):Info:=⟨false,λx=>∃q∈R,KR ρ q x,λ_=>False,false⟩
def zyc(W:Key->Prop):Info:=⟨true,λ_=>False,W,false⟩
def yt5(W:Key->Prop):Info:=⟨true,λ_=>False,W,true⟩
omit hD in
theorem ykw{q s:Nat}(h:(!Nat.beq q s)=true):q≠s:=λe=>by subst e;rw[Nat.beq_refl]at h;cases h
omit hD in
theorem yfy(hR:TRr D F ρ ts σ){ops:Array Oper}{k:Nat}{rds:Rds}{wrs:Wrs}{prev:List (Nat×Info)}(hp:zh5 (D:=D) ρ ts rds wrs prev){R:List Rd}(hok:rdOk ops.toList k R wrs=true)(hlive:R.all (λq=>kzk ts q.1)=true):GP .any ops prev k (zoc ρ R):=λp hj hf=>by
 refine⟨λh=>(by cases h.2),λ_ h=>(by cases h),λ_ he x ⟨s,hs,hk⟩ hw =>?_⟩;obtain⟨w,hm,hw'⟩:=hp.e p hj he;have h1:=Qas.1 hok (p.1,w) hm;rw[Bool.or_eq_true]at h1
 rcases h1 with h1|h1
 exact zbk h1 hf
 cases w with
 |none=>cases R with
  |nil=>cases hs
  |cons a r=>cases h1
 |some s'=>
  cases R with
  |nil=>cases hs
  |cons a r=>
   have h2:=ykw (Qas.1 h1 s hs);obtain⟨k1,k2⟩:=hw' s' rfl x hw;exact h2 (zn5 hR (Qas.1 hlive s hs) k1 hk.1 k2)
omit hD in
theorem zmw{ops:Array Oper}{k:Nat}{rds:Rds}{wrs:Wrs}{prev:List (Nat×Info)}(hp:zh5 (D:=D) ρ ts rds wrs prev){w:Option Nat}{W:Key->Prop}(hok:y1f ops.toList k w rds=true)(hes:zj9 ops.toList k wrs=true)
  (hW:∀s,w=some s->∀(q:Nat) (x:Key),kzk ts q=true->Keyed ρ q x.1->q≠s->¬W x):GP .any ops prev k (zyc W):=λp hj hf=>by
 refine⟨λ⟨h,_⟩ =>?_,λhq _ x hx hw =>?_,λh=>(by cases h)⟩;obtain⟨w',hm,_⟩:=hp.e p hj h;exact zbk (Qas.1 hes (p.1,w') hm) hf
 rcases hp.q p hj hq with h|⟨R,hm,hR⟩
 exact h x hx;have h1:=Qas.1 hok (p.1,R) hm;rw[Bool.or_eq_true]at h1
 rcases h1 with h1|h1
 exact zbk h1 hf
 cases R with
 |none=>cases w <;> cases h1
 |some l=>
  obtain⟨s,hs,k1,k2⟩:=hR l rfl x hx
  cases l with
  |nil=>cases hs
  |cons a r=>
   cases w with
   |none=>cases h1
   |some s'=>exact hW s' rfl s.1 x k1 k2.1 (ykw (Qas.1 h1 s hs)) hw
omit hD in
theorem zh5.quiet{ρ:List Slot}{ts ts':TS D.T}{k:Nat}{rds:Rds}{wrs:Wrs}{prev:List (Nat×Info)}(hp:zh5 (D:=D) ρ ts rds wrs prev){R:List Rd}(hlive:R.all (λq=>kzk ts q.1)=true)(ho:ts'.o=ts.o) :
  zh5 (D:=D) ρ ts' ((k,some R)::rds) wrs ((k,zoc ρ R)::prev):=by
 have hl:∀s,kzk ts' s=kzk ts s:=λs=>by unfold kzk;rw[ho]
 refine⟨λp hj hq =>?_,λp hj he =>?_⟩
 rcases Qbf.1 hj with rfl|hj
 exact .inr ⟨some R,Qak,λl hl' x ⟨s,hs,hk⟩=>by injection hl' with hl';subst hl';exact⟨s,hs,by rw[hl];exact Qas.1 hlive s hs,hk⟩⟩
 rcases hp.q p hj hq with h|⟨R,hm,hR⟩
 exact .inl h;exact .inr ⟨R,Qai _ hm,λl hl' x hx=>by obtain⟨s,a,b,c⟩:=hR l hl' x hx;exact⟨s,a,by rw[hl];exact b,c⟩⟩
 rcases Qbf.1 hj with rfl|hj
 cases he;obtain⟨w,hm,hw⟩:=hp.e p hj he;exact⟨w,hm,λs hs x hx=>by rw[hl];exact hw s hs x hx⟩
omit hD in
theorem zh5.eff{ρ ρ':List Slot}{ts ts':TS D.T}{k:Nat}{rds:Rds}{wrs:Wrs}{prev:List (Nat×Info)}(hp:zh5 (D:=D) ρ ts rds wrs prev){w:Option Nat}{W:Key->Prop}{c:Info}(hc:c.eff=true∧c.W=W)
  (hold:∀s0,w=some s0->(∀s,kzk ts s=true->kzk ts' s=true)∧∀(s:Nat) (sl:Slot),ρ[s]? = some sl->ρ'[s]? = some sl) (hnew:∀s,w=some s->∀x,W x->kzk ts' s=true∧Keyed ρ' s x.1) :
  zh5 (D:=D) ρ' ts' (yi0 w rds) ((k,w)::y1x w wrs) ((k,c)::prev):=by
 obtain⟨hce,hcW⟩:=hc;refine⟨λp hj hq =>?_,λp hj he =>?_⟩
 rcases Qbf.1 hj with rfl|hj
 rw[hce]at hq;cases hq
 rcases hp.q p hj hq with h|⟨R,hm,hR⟩
 exact .inl h
 cases w with
 |some s0=>exact .inr ⟨R,hm,λl hl x hx=>by obtain⟨s,a,b,c⟩:=hR l hl x hx;exact⟨s,a,(hold s0 rfl).1 _ b,c.up (hold s0 rfl).2⟩⟩
 |none=>
  by_cases hemp:R=some [];subst hemp;exact .inl λx hx=>by obtain⟨s,a,_⟩:=hR [] rfl x hx;cases a
  refine .inr ⟨none,Qbc.2 ⟨(p.1,R),hm,?_⟩,λl hl=>by cases hl⟩
  cases R with
  |none=>rfl
  |some l=>cases l with
   |nil=>exact(hemp rfl).elim
   |cons a r=>rfl
 rcases Qbf.1 hj with rfl|hj
 rw[hcW];exact⟨w,Qak,hnew⟩;obtain⟨w',hm,hw⟩:=hp.e p hj he
 cases w with
 |some s0=>exact⟨w',Qai _ hm,λs hs x hx=>by obtain⟨a,b⟩:=hw s hs x hx;exact⟨(hold s0 rfl).1 _ a,b.imp λsl e=>⟨(hold s0 rfl).2 _ _ e.1,e.2⟩⟩⟩
 |none=>exact⟨none,Qai _ (Qbc.2 ⟨(p.1,w'),hm,rfl⟩),λs hs=>by cases hs⟩
def Lvl(F:Fr)(H:kz3):Prop:=H.lv=F.lv
omit hD in
theorem yqn{ρ:List Slot}{lv:Nat}{x:TV D.T}{v:V}(h:VR D ρ lv x v)(hp:x.ykg=true):v.plain=true:=by
 cases x <;> simp only[TV.ykg,Bool.false_eq_true]at hp
 case sl t xs fl=>simp only[VR]at h;obtain⟨h,_⟩:=h;cases h <;> rfl
 case ap s t i x off=>
  simp only[VR]at h;obtain⟨sl,w,h1,h2,h3,h4,h5⟩:=h;split at h5;subst h5;rfl;obtain⟨ver,n,_,h5⟩:=h5;subst h5;rfl
 case fn f a b=>simp only[VR]at h;obtain⟨as,bs,rfl,_⟩:=h;rfl
 case iface t x=>simp only[VR]at h;obtain⟨y,rfl,_⟩:=h;rfl
 case ref cs off=>simp only[VR]at h;obtain⟨y,rfl,_⟩:=h;rfl
 case ptr s off=>simp only[VR]at h;obtain⟨y,i,_,_,rfl⟩:=h;rfl
 case agg cs=>simp only[VR]at h;obtain⟨y,rfl,_⟩:=h;rfl
 case tup cs=>simp only[VR]at h;obtain⟨y,rfl,_⟩:=h;rfl
 case mc t es=>simp only[VR]at h;obtain⟨_,rfl⟩:=h;rfl
 case dp s i off=>simp only[VR]at h;obtain⟨sl,j,ver,m,_,_,_,_,rfl⟩:=h;rfl
 case bsl q cs=>simp only[VR]at h;obtain⟨vs,rfl,_⟩:=h;rfl
 all_goals (simp only[VR]at h;subst h;rfl)
omit hD in
theorem yhv(hR:TRr D F ρ ts σ){x:Operand}{R:List Nat}(h:yaj ts x=some R):(σ.ev x).plain=true∧R=[]:=by
 unfold yaj at h;split at h;rename_i v hv;split at h
 rename_i hp;injection h with h;exact⟨yqn (hR.ev hv) hp,h.symm⟩
 cases h;cases h
omit hD in
theorem zj4(hR:TRr D F ρ ts σ){s i:Nat}{R:List Rd}(hk:Keyed ρ s i)(hs0:(s,none)∈R){H:kz3}(hl:Lvl F H)(hs:znq (zoc ρ R).K σ.H H):H.get F.lv i=σ.H.get F.lv i:=by
 unfold kz3.get;have hl:H.lv=F.lv:=hl;have:=congrArg Prod.fst (hs (i,none) ⟨(s,none),hs0,hk,rfl,λc e=>by cases e⟩);rw[hl,hR.lv,Qbo rfl,Qbo rfl,show H.L[i]? = σ.H.L[i]? from this]
omit hD in
theorem y8m(hR:TRr D F ρ ts σ){x:Operand}{R:List Nat}(h:ownO ts x=some R){H:kz3}(hl:Lvl F H)(hs:znq (zoc ρ (whole R)).K σ.H H) :
  (σ.ev x).plain=true∨∃l i ver off n full,σ.ev x = .hs l i ver off n full∧H.get l i=σ.H.get l i:=by
 unfold ownO at h;split at h;rename_i s hx;split at h;rename_i ty t xs w ho;injection h with h;subst h;have hv:=hR.ev hx;simp only[VR]at hv;obtain⟨sl,h1,h2,h3⟩:=hv;obtain⟨sl',k1,k2⟩:=hR.ob s _ ho
 rw[h1]at k1;injection k1 with k1;subst k1
 rw[h2];simp only[OR]at k2;obtain⟨q1,q2,q3⟩:=k2
 cases hk:sl.k with
 |none=>
  rw[hk]at q3
  rcases q3 with ⟨e,_⟩|⟨⟨e,_⟩,_⟩ <;> (left;rw[e];rfl)
 |some i=>
  rw[hk]at q3;obtain⟨ver,cp,e1,e2⟩:=q3;right;exact⟨_,_,_,_,_,_,e1,zj4 hR ⟨sl,h1,.inl hk⟩ (by simp[whole]) hl hs⟩
 rename_i ty q xs w ho;injection h with h;subst h;have hv:=hR.ev hx;simp only[VR]at hv;obtain⟨sl,h1,h2,h3⟩:=hv;obtain⟨sl',k1,k2⟩:=hR.ob s _ ho
 rw[h1]at k1;injection k1 with k1;subst k1
 rw[h2];simp only[OR]at k2;obtain⟨q1,q3⟩:=k2
 cases hk:sl.k with
 |none=>
  rw[hk]at q3
  obtain⟨_,e|e,_⟩:=q3 <;> (left;rw[e];rfl)
 |some i=>
  rw[hk]at q3;obtain⟨ver,cp,fps,e1,e2,_⟩:=q3;right;exact⟨_,_,_,_,_,_,e1,zj4 hR ⟨sl,h1,.inl hk⟩ (by simp[whole]) hl hs⟩
 cases h;exact .inl (yhv hR h).1
omit hD in
theorem yq7(hR:TRr D F ρ ts σ){op:Op}{R:List Rd}(h:rdK P ts op=some R){H:kz3}(hl:Lvl F H)(hs:znq (zoc ρ R).K σ.H H):pv P H σ.ev op=pv P σ.H σ.ev op:=by
 cases op <;> simp only[rdK]at h <;> first|(cases h;done)|skip
 case load t a=>
  split at h;rename_i s off ha;have hv:=hR.ev ha;simp only[VR]at hv;obtain⟨sl,i,h1,h2,h3⟩:=hv;simp only[pv,h3];split at h;rename_i hone;injection h with h;subst h;have hone:=Qaj hone;have hl:H.lv=F.lv:=hl;have:=congrArg Prod.snd (hs (i,some off) ⟨(s,some off),by simp,⟨sl,h1,.inl h2⟩,rfl,λc _=>⟨sl,h1,h2⟩⟩);rw[<-hR.lv];exact zx2 hone (hl.trans hR.lv.symm) this;injection h with h;subst h
  exact y1w (zj4 hR ⟨sl,h1,.inl h2⟩ (by simp) hl hs);rename_i s τ n y off ha;injection h with h;subst h;have hv:=hR.ev ha;simp only[VR]at hv;obtain⟨sl,w,h1,h2,h3,h4,h5⟩:=hv
  cases hk:sl.k with
  |none=>rw[hk]at h5;simp only[pv,h5];exact zm9
  |some j=>
   rw[hk]at h5;obtain⟨ver,m,e1,e2⟩:=h5;simp only[pv,e2];exact zog (zj4 hR ⟨sl,h1,.inl hk⟩ (by simp) hl hs)
  rename_i s n off ha;split at h;rename_i ty q xs hh ho;injection h with h;subst h;have hv:=hR.ev ha;simp only[VR]at hv;obtain⟨sl,j,ver,m,h1,h2,_,_,h5⟩:=hv;obtain⟨sl',g1,g2⟩:=hR.ob s _ ho
  rw[h1]at g1;injection g1 with g1;subst g1
  simp only[OR]at g2;have g3:=g2.2
  cases hk:sl.k with
  |none=>
   rw[hk]at g3
   rcases g3.2.1 with e|e <;> (rw[e]at h2;cases h2)
  |some j'=>
   rw[hk]at g3;obtain⟨ver',cp,fps,e1,_⟩:=g3;rw[h2]at e1;injection e1 with _ e1;subst e1;simp only[pv,h5];exact zog (zj4 hR ⟨sl,h1,.inl hk⟩ (by simp) hl hs)
  cases h;rename_i cs off ha;have hv:=hR.ev ha;simp only[VR]at hv;obtain⟨vs,h3,_⟩:=hv;simp only[pv,h3];exact zm9;cases h
 case indexAddr t x i=>
  simp only[pv];obtain⟨R',h0,rfl⟩:=Qaf.1 h
  rcases y8m hR h0 hl hs with h|⟨l,j,ver,off,n,full,h,hg⟩
  exact zsu h;rw[h];exact zq5 hg
 case slice t x lo hi mx=>simp only[pv];obtain⟨R',h0,rfl⟩:=Qaf.1 h;exact ycl (yhv hR h0).1
 case call c=>
  simp only[pv,z7x];split at h;rename_i x hc ha;simp only[hc,ha];split;rename_i x' t hx ht;injection hx with hx;subst hx;obtain⟨R',h0,rfl⟩:=Qaf.1 h
  rcases y8m hR h0 hl hs with h|⟨l,j,ver,off,n,full,h,hg⟩
  exact yim h;rw[h];exact ya1 hg;rfl;rename_i hc;simp only[hc];rename_i hc;simp only[hc];cases h
 case makeFunc fn a b=>cases fn <;> rfl
 all_goals rfl
theorem ykx{R:Type}(hR:TRr D F ρ ts σ){t s off:Nat}{x:TV D.T}{va vx:V}{k:TV D.T->TS D.T->Option R}{kf:Nat->Option R}{r:R}(h:zyb P D ts t (.ptr s off) x k kf=some r)(ha:VR D ρ F.lv (.ptr s off) va)(hx:VR D ρ F.lv x vx) :
  ∃i cs cs' H',Keyed ρ s i∧fnd ts.o s=some (.cells cs)∧z92 P σ.H t va vx=some (.any,H')∧(∀j,j≠i->H'.L[j]? = σ.H.L[j]?)∧H'.lv=F.lv∧TRr D F ρ (ts.set D s (.cells cs')) {σ with H:=H'}∧k .any (ts.set D s (.cells cs'))=some r:=by
 unfold zyb at h;split at h;rename_i hc;simp only[Qag,Qbg]at hc;obtain⟨⟨c1,c2⟩,c3⟩:=hc;have hcells:=hx.cells c1
 have hcond:(vx.kza&&(P.info? t).isSome&&vx.cells.length==P.cellsOf t)=true:=by
  simp only[Qag,Qbg];exact⟨⟨hx.kza c1,c2⟩,by rw[<-hcells.length];exact c3⟩
 simp only[VR]at ha;obtain⟨sl,i,h1,h2,rfl⟩:=ha;simp only at h;split at h;rename_i cs ho;split at h;rename_i hoff;obtain⟨sl',k1,k2⟩:=hR.ob s _ ho
 rw[h1]at k1;injection k1 with k1;subst k1
 simp only[OR]at k2;obtain⟨i',vs,q1,q2,q3⟩:=k2
 rw[h2]at q1;injection q1 with q1;subst q1
 have hlt:=(Qaa.1 q2).1;refine⟨i,cs,_,σ.H.set F.lv i (.cells (zzi vs off vx.cells)),⟨sl,h1,.inl h2⟩,ho,?_,λj hj =>?_,?_,?_,h⟩;unfold z92;rw[Qbo hcond];simp only[hR.get q2];rw[Qbo (by rw[<-hcells.length,<-q3.length];exact hoff)];rw[hR.ztt];exact Qam (Ne.symm hj);rw[hR.ztt];exact hR.lv;rw[hR.ztt]
 exact hR.upd ho trivial h1 h2 _ _ (by simp only[OR];exact⟨i,_,h2,by simp[hlt],q3.zzi hcells off⟩);cases h;cases h;cases h
omit hD in
theorem zr6{ts ts':TS D.T}{dst:Option Nat}{v:TV D.T}(h:ts.put D dst v=some ts'):ts'.o=ts.o:=by
 unfold TS.put at h;split at h;injection h with h;subst h;rfl;split at h;injection h with h;subst h;rfl;cases h
omit hD in
theorem zq9(hR:TRr D F ρ ts σ){o:TO D.T}{s:Nat}(h:kzk ts s=true):kzk (ts.new D o) s=true:=by
 obtain⟨o',h1,h2⟩:=zf0 h;obtain⟨sl,h3,_⟩:=hR.ob s o' h1;have hlt:=(Qaa.1 h3).1;refine z82 (o:=o') ?_ h2;simp only[TS.new,kz5];rw[Qbp (by rw[<-hR.nx];omega)];exact h1
def KpQ(Q:yza->St->Prop)(v:V)(σ:St):Prop:=∀t',t'.length=σ.t.length->Q (.panic v) {σ with t:=t'}
def yt7(M:z45 D.T)(kc:List (Nat×Nat))(ρ:List Slot)(σ:St)(x:Key):Prop :=
 ¬((x.1<σ.H.L.length∧∀k s sl,(k,Src.slot s)∈M->ρ[s]? = some sl->¬sl.has x.1)∨∃z s sl,z∈kc∧fnd M z.1=some (.slot s)∧x.2=some z.2∧ρ[s]? = some sl∧sl.k=some x.1)
omit hD in
theorem yk5(hR:TRr D F ρ ts σ){ops:Array Oper}{k:Nat}{rds:Rds}{wrs:Wrs}{prev:List (Nat×Info)}(hp:zh5 (D:=D) ρ ts rds wrs prev){M:z45 D.T}{kc:List (Nat×Nat)}(hM:∀k s,(k,Src.slot s)∈M->fnd M k=some (.slot s))(hok:yqh ops.toList k rds kc M=true)(hes:zj9 ops.toList k wrs=true)(hlive:∀k s,(k,Src.slot s)∈M->∃o',fnd ts.o s=some o'∧o'.live) :
  GP .any ops prev k (yt5 (yt7 M kc ρ σ)):=λp hj hf=>by
 refine⟨λ⟨h,_⟩ =>?_,λhq _ x hx hw =>?_,λh=>(by cases h)⟩;obtain⟨w',hm,_⟩:=hp.e p hj h;exact zbk (Qas.1 hes (p.1,w') hm) hf
 rcases hp.q p hj hq with h|⟨R,hm,hR'⟩
 exact h x hx;have h1:=Qas.1 hok (p.1,R) hm;rw[Bool.or_eq_true]at h1
 rcases h1 with h1|h1
 exact zbk h1 hf
 cases R with
 |none=>cases h1
 |some l=>
  obtain⟨s,hs,k1,k2⟩:=hR' l rfl x hx;by_cases hk0:∃k' s' sl,(k',Src.slot s')∈M∧ρ[s']? = some sl∧sl.has x.1;obtain⟨k',s',sl,hm',hsl,hk⟩:=hk0;have h2:=Qas.1 (Qas.1 h1 s hs) _ hm';obtain⟨o',e1,e2⟩:=hlive k' s' hm';have heq:=zn5 hR k1 (z82 e1 e2) k2.1 ⟨sl,hsl,hk⟩;rw[Bool.or_eq_true]at h2
  rcases h2 with h2|h2
  exact ykw h2 heq;unfold ysy at h2;split at h2;rename_i c hc;obtain⟨z,z1,z2⟩:=List.any_eq_true.1 h2;rw[Qag]at z2;have z3:=Qaj z2.1;have z4:=Qaj z2.2;obtain⟨sl1,y1,y2⟩:=k2.2.2 c hc;exact hw (.inr ⟨z,s',sl1,z1,by rw[z3];exact hM _ _ hm',k2.2.1.trans (hc.trans (by rw[z4])),by rw[<-heq];exact y1,y2⟩);cases h2
  exact hw (.inl ⟨zhj hR k1 k2.1,λk' s' sl a b c=>hk0 ⟨k',s',sl,a,b,c⟩⟩)
omit hD in
theorem yh6{R:Type}{t u:Nat}{s x:TV D.T}{vs vx:V}{k:TV D.T->Option R}{r:R}(h:yp0 P D t u s x k=some r)(hs:VR D ρ lv s vs)(hx:VR D ρ lv x vx) :
  ∃z v,zl6 P t u vs vx=some v∧(∀ρ' lv',VR D ρ' lv' z v)∧k z=some r:=by
 unfold yp0 at h;split at h
 case h_2=>cases h
 rename_i t' xs fl;split at h
 case h_2=>cases h
 rename_i hfl
 have hfl1:1<=fl:=by
  unfold fl12 at hfl;split at hfl <;> first|omega|cases hfl
 split at h
 case h_2=>cases h
 rename_i e du ht hu;split at h
 case h_2=>cases h
 rename_i i τ hi hτ;split at h
 case h_2=>cases h
 rename_i z hz;split at h
 case h_2=>cases h
 rename_i hc;split at h
 case h_2=>cases h
 rename_i xs' ys hxs hys;obtain⟨zs,hzs,h⟩:=yzv h;obtain⟨hroom,rfl⟩:=zqw hzs;obtain⟨rfl,rfl⟩:=z4c hxs;simp only[Qag,Qbg,Qaq]at hc;obtain⟨⟨⟨⟨c1,c2⟩,c3⟩,c4⟩,c5⟩:=hc;have c5:=Qaj c5
 have hsrc:∃us,zfa zys (D.len t') vx=some us∧DRL D t' ys us:=by
  unfold yt6 at hys;split at hys;injection hys with hys;subst hys;simp only[VR]at hx;subst hx;exact⟨[],rfl,DRL.nil _⟩;rename_i t2 ws fl;obtain⟨rfl,rfl⟩:=z4c hys;simp only[VR]at hx;obtain⟨hx,_⟩:=hx
  cases hx with
  |nil=>exact⟨[],rfl,DRL.nil _⟩
  |sl _ _ ws full hl hh=>exact⟨ws,by simp[zfa,z7t],hl,hh⟩
  cases hys
 obtain⟨us,hus,hyu⟩:=hsrc;simp only[VR]at hs;obtain⟨hs,hf,_⟩:=hs;obtain⟨ws,rfl⟩:=hf hfl1
 cases hs with
 |sl _ _ _ _ hl hh=>
  have hxy:=DRL.append (D:=D) ⟨hl,hh⟩ hyu;refine⟨_,.sl (D.len t') (ws++us) false,?_,λρ' lv' =>?_,h⟩;unfold zl6;simp only[ht,hu,hi,hz];rw[<-c5,hus];simp only
  have hb:(zkx du&&decide (0<D.len t')&&decide (i.bytes<=524288)&&z.cells.size==D.len t'&&Nat.beq (D.len t') (D.len t')&&Nat.ble (ws.length+us.length) zau)=true:=by
   have h1:Nat.beq (D.len t') (D.len t')=true:=Nat.beq_refl _;have h2:Nat.ble (ws.length+us.length) zau=true:=by rw[Nat.ble_eq,hl,hyu.1];exact hroom
   simp only[Qag,Qbg,Qaq];exact⟨⟨⟨⟨⟨c1,by omega⟩,c3⟩,by omega⟩,h1⟩,h2⟩
  rw[hb];simp only[VR];exact⟨.sl _ _ _ _ hxy.1 hxy.2,λh=>by omega,λh=>by cases h⟩
omit hD in
theorem ynf{T:Nat->Type}{ts:TS T}{op:Op}{s:Nat}(h:wrK ts op=some s):y8u ts op=some s:=by unfold y8u;rw[h]
omit hD in
theorem ypw(hR:TRr D F ρ ts σ){op:Op}{s j:Nat}(h0:wrK ts op=none)(h:y8u ts op=some s)(hk:Keyed ρ s j):kzk ts s=true:=by
 unfold y8u at h;rw[h0]at h;dsimp only at h
 cases op <;> dsimp only at h <;> first|(cases h;done)|skip
 case store t a x=>
  split at h;split at h
  rename_i hl;injection h with h;subst h;exact hl
  cases h;cases h
 case call c=>
  split at h;split at h;split at h
  rename_i ho;injection h with h;subst h;exact z82 ho trivial
  rename_i ho;injection h with h;subst h;exact z82 ho trivial
  cases h;injection h with h;subst h;obtain⟨sl,h1,_⟩:=hk;have:=(Qaa.1 h1).1;rw[hR.nx]at this;omega;cases h;cases h
omit hD in
theorem zyl{H H':kz3}{e size:Nat}{s v:V}{ys:List V}(h:z03 H e size s ys=some (v,H')){j:Nat}(hj:j≠H.L.length)(hs:∀l i ver n,s = .hs l i ver 0 n false->l=H.lv∧i≠j):H'.L[j]? = H.L[j]? := by
 have push:∀o,(H.push o).L[j]? = H.L[j]? := λo=>by
  simp only[kz3.push];rw[Qba];split;rfl;rw[Qbs (by simp;omega),Qbs (by omega)]
 unfold z03 at h;split at h;split at h;injection h with h;injection h with _ h;rw[<-h];split at h;injection h with h;injection h with _ h;rw[<-h];exact push _;cases h;split at h;split at h;injection h with h;injection h with _ h;rw[<-h];split at h;injection h with h;injection h with _ h;rw[<-h];exact push _;cases h;cases h;rename_i l i' ver n;obtain⟨hl,hi⟩:=hs _ _ _ _ rfl;split at h;split at h
 injection h with h;injection h with _ h;rw[<-h];unfold kz3.set;rw[Qbo hl];exact Qam hi;cases h;cases h;cases h
omit hD in
theorem yo3(hR:TRr D F ρ ts σ){op:Op}{s:Nat}{v:V}{H':kz3}(h0:wrK ts op=none)(h:y8u ts op=some s)(hx:ox P σ.H σ.ev op=some (v,H')){j:Nat}(hj:¬(Keyed ρ s j∨j=σ.H.L.length)):H'.L[j]? = σ.H.L[j]? := by
 unfold y8u at h;rw[h0]at h;dsimp only at h
 cases op <;> dsimp only at h <;> first|(cases h;done)|skip
 case store t a x=>
  split at h;rename_i s' τ n y off ha;split at h;injection h with h;subst h;have hv:=hR.ev ha;simp only[VR]at hv;obtain⟨sl,w,h1,h2,h3,h4,h5⟩:=hv;simp only[ox]at hx;unfold z92 at hx;split at hx
  cases hk:sl.k with
  |none=>rw[hk]at h5;rw[h5]at hx;cases hx
  |some i=>
   rw[hk]at h5;obtain⟨ver,m,_,h5⟩:=h5;rw[h5]at hx;dsimp only at hx;have hne:i≠j:=λe=>hj (.inl ⟨sl,h1,.inl (by rw[hk,e])⟩)
   split at hx;split at hx;split at hx;split at hx;injection hx with hx;injection hx with _ hx;rw[<-hx];unfold kz3.set;rw[Qbo hR.lv.symm];exact Qam hne;cases hx;cases hx;cases hx;cases hx
  cases hx;cases h;cases h
 case call c=>
  split at h;rename_i sx xx hcal hargs
  have key:∀{vs:V},σ.ev sx=vs->(∀l i ver n,vs = .hs l i ver 0 n false->l=σ.H.lv∧i≠j)->H'.L[j]? = σ.H.L[j]? := λ{vs} e hs=>by
   simp only[ox,hcal,hargs]at hx;split at hx;rename_i s0 x0 t0 u0 he _;injection he with he1 he2;subst he1;unfold hAppend at hx;split at hx;split at hx;split at hx;split at hx;rw[e]at hx;exact zyl hx (λe=>hj (.inr e)) hs;cases hx;cases hx;cases hx;cases hx;cases hx
  have own:∀{q:Nat},ts.ev sx=some (.own q)->(∃sl,ρ[q]? = some sl∧∀l i ver n,sl.v = .hs l i ver 0 n false->l=σ.H.lv∧sl.k=some i)->s=q->H'.L[j]? = σ.H.L[j]? := λ{q} hv ⟨sl,g1,g2⟩ e=>by
   subst e;have hw:=hR.ev hv;simp only[VR]at hw;obtain⟨sl',h1,h2,_⟩:=hw
   rw[g1]at h1;injection h1 with h1;subst h1
   exact key h2 λl i ver n e=>⟨(g2 l i ver n e).1,λe'=>hj (.inl ⟨sl,g1,.inl (by rw[(g2 l i ver n e).2,e'])⟩)⟩
  split at h;rename_i q hv;split at h;rename_i ho;injection h with h;obtain⟨sl,g1,g2⟩:=hR.ob _ _ ho;simp only[OR]at g2;refine own hv ⟨sl,g1,λl i ver n e =>?_⟩ h.symm;have g3:=g2.2.2
  cases hk:sl.k with
  |none=>rw[hk]at g3;rcases g3 with ⟨e',_⟩|⟨⟨e',_⟩,_⟩ <;> (rw[e']at e;cases e)
  |some i'=>rw[hk]at g3;obtain⟨ver',cp,e',_⟩:=g3;rw[e']at e;injection e with e1 e2;exact⟨by rw[hR.lv,e1],by rw[e2]⟩
  rename_i ho;injection h with h;obtain⟨sl,g1,g2⟩:=hR.ob _ _ ho;simp only[OR]at g2;refine own hv ⟨sl,g1,λl i ver n e =>?_⟩ h.symm;have g3:=g2.2
  cases hk:sl.k with
  |none=>rw[hk]at g3;rcases g3.2.1 with e'|e' <;> (rw[e']at e;cases e)
  |some i'=>rw[hk]at g3;obtain⟨ver',cp,fps,e',_⟩:=g3;rw[e']at e;injection e with e1 e2;exact⟨by rw[hR.lv,e1],by rw[e2]⟩
  cases h;rename_i hv;have hw:=hR.ev hv;simp only[VR]at hw;exact key hw λl i ver n e=>by cases e
  cases h;cases h
omit hD in
theorem zh5.call{ρ ρ':List Slot}{ts ts':TS D.T}{k:Nat}{rds:Rds}{wrs:Wrs}{prev:List (Nat×Info)}(hp:zh5 (D:=D) ρ ts rds wrs prev){c:Info}(hc:c.eff=true)(hup:∀(s:Nat) (sl:Slot),ρ[s]? = some sl->ρ'[s]? = some sl) :
  zh5 (D:=D) ρ' ts' (yt4 ts' rds) ((k,none)::y1x none wrs) ((k,c)::prev):=by
 refine⟨λp hj hq =>?_,λp hj he =>?_⟩
 rcases Qbf.1 hj with rfl|hj
 rw[hc]at hq;cases hq
 rcases hp.q p hj hq with h|⟨R,hm,hR⟩
 exact .inl h
 cases R with
 |none=>exact .inr ⟨none,Qbc.2 ⟨(p.1,none),hm,rfl⟩,λl hl=>by cases hl⟩
 |some l=>
  cases hl:l.all (λq=>kzk ts' q.1)with
  |true=>
   refine .inr ⟨some l,Qbc.2 ⟨(p.1,some l),hm,by dsimp only;rw[hl]⟩,λl' e x hx =>?_⟩;injection e with e;subst e;obtain⟨q,a,_,b⟩:=hR l rfl x hx
   exact⟨q,a,Qas.1 hl q a,b.up hup⟩
  |false=>exact .inr ⟨none,Qbc.2 ⟨(p.1,some l),hm,by dsimp only;rw[hl]⟩,λl hl=>by cases hl⟩
 rcases Qbf.1 hj with rfl|hj
 exact⟨none,Qak,λs hs=>by cases hs⟩;obtain⟨w',hm,hw⟩:=hp.e p hj he;exact⟨none,Qai _ (Qbc.2 ⟨(p.1,w'),hm,rfl⟩),λs hs=>by cases hs⟩
omit hD in
theorem zh5.more{ρ':List Slot}{ts':TS D.T}{rds:Rds}{wrs:Wrs}{prev:List (Nat×Info)}(hp:zh5 (D:=D) ρ ts rds wrs prev)(hl:∀s,kzk ts s=true->kzk ts' s=true)(hup:∀(s:Nat) (sl:Slot),ρ[s]? = some sl->ρ'[s]? = some sl):zh5 (D:=D) ρ' ts' rds wrs prev :=
 ⟨λp hj hq=>(hp.q p hj hq).imp_right λ⟨R,a,b⟩=>⟨R,a,λl e x hx=>by obtain⟨s,c,d,f⟩:=b l e x hx;exact⟨s,c,hl _ d,f.up hup⟩⟩,λp hj he=>by obtain⟨w,a,b⟩:=hp.e p hj he;exact⟨w,a,λs e x hx=>by obtain⟨c,d⟩:=b s e x hx;exact⟨hl _ c,by obtain⟨sl,d1,d2⟩:=d;exact⟨sl,hup _ _ d1,d2⟩⟩⟩⟩
theorem zxs{t:TypeId}{d:Option Nat}{ts':TS D.T}(h:y7t P D t d ts=some ts')(ρ:List Slot):∃z v,zeroV P t=some v∧VRL D ρ F.lv z v.cells∧v.kza=true∧TS.put D (ts.new D (.cells z)) d (.ptr ts.nx 0)=some ts':=by
 unfold y7t at h;split at h;rename_i z hz;split at h;rename_i hs;obtain⟨v,b1,b2⟩:=zbl (ρ:=ρ) (lv:=F.lv) hz;exact⟨z.cells,v,b1,b2.cells hs,b2.kza hs,h⟩;cases h;cases h
theorem ymx{ops:Array Oper}{k b:Nat}{l:List Nat}{rds:Rds}{wrs:Wrs}{prev:List (Nat×Info)}{ts1 ts2:TS D.T}{o ob:Oper}{t u:TypeId}(hR:TRr D F ρ ts σ)(hp:zh5 (D:=D) ρ ts rds wrs prev)(hob:ops[b]? = some ob)(hA:o.op = .alloc t)(hB:ob.op = .alloc u)(gA:o.guard=none)(gB:ob.guard=none)
  (hd:∀d,o.dst=some d->ob.dst≠some d) (hlate:∀j∈l,¬y5l .any ops k j∧¬y5l .any ops b j) (c1:y1f ops.toList k (some ts.nx) rds=true) (c2:zj9 ops.toList k wrs=true) (c3:y1f ops.toList b (some ts.nx) rds=true) (c4:zj9 ops.toList b wrs=true)
  (h1:y7t P D t o.dst ts=some ts1) (h2:y7t P D u ob.dst ts1=some ts2) {K:St->Prop}(hK:∀(ρ':List Slot) (σ':St),TRr D F ρ' ts2 σ'->zh5 (D:=D) ρ' ts2 rds wrs prev->K σ') :
  ∃c,GP .any ops prev k c∧ypm P ops .any (Lvl F) k b l prev σ o c K:=by
 obtain⟨za,va,a1,a2,a3,a4⟩:=zxs hD (F:=F) h1 ρ;obtain⟨zb,vb,b1,b2,b3,b4⟩:=zxs hD (F:=F) h2 ρ
 have hn1:ts1.nx=ts.nx+1:=by
  unfold TS.put at a4;split at a4;injection a4 with a4;subst a4;rfl;split at a4;injection a4 with a4;subst a4;rfl;cases a4
 let n:=σ.H.L.length
 let W:Key->Prop:=λx=>x.1=n∨x.1=n+1
 have hW:∀s,some ts.nx=some s->∀(q:Nat) (x:Key),kzk ts q=true->Keyed ρ q x.1->q≠s->¬W x:=λs _ q x hl hk _ hw=>by
  have:=zhj hR hl hk
  rcases hw with e|e <;> omega
 have oxa:∀(H:kz3) (ev:Operand->V),ox P H ev o.op=some (.ptr H.lv H.L.length 0,H.push (.cells va.cells)):=λH ev=>by rw[hA];simp only[ox,zpx,a1];rw[Qbo a3]
 have oxb:∀(H:kz3) (ev:Operand->V),ox P H ev ob.op=some (.ptr H.lv H.L.length 0,H.push (.cells vb.cells)):=λH ev=>by rw[hB];simp only[ox,zpx,b1];rw[Qbo b3]
 have obsP:∀(H:kz3) (ao:kz8),(H.L.length=n∨H.L.length=n+1)->∀i,¬W i->obs (H.push ao) i=obs H i:=λH ao hn i hi=>ybu (by
  simp only[kz3.push];rw[Qba];split;rfl;rename_i hge;have:i.1≠H.L.length:=λe=>hi (by rcases hn with hn|hn <;> (rw[hn]at e;first|exact .inl e|exact .inr e))
  rw[Qbs (by simp;omega),Qbs (by omega)])
 have mvA:∀(τ:St),Lvl F τ.H->(τ.H.L.length=n∨τ.H.L.length=n+1)->MV P ops (Lvl F) (zyc W) τ o (.ptr τ.H.lv τ.H.L.length 0) (τ.H.push (.cells va.cells)):=λτ hl hn=>
  .inr ⟨by unfold yzg;rw[gA],hl,.inr ⟨rfl,trivial,.inl ⟨by rw[hA];rfl,oxa _ _⟩,hl,obsP _ _ hn⟩⟩
 have mvB:∀(τ:St),Lvl F τ.H->(τ.H.L.length=n∨τ.H.L.length=n+1)->MV P ops (Lvl F) (zyc W) τ ob (.ptr τ.H.lv τ.H.L.length 0) (τ.H.push (.cells vb.cells)):=λτ hl hn=>
  .inr ⟨by unfold yzg;rw[gB],hl,.inr ⟨rfl,trivial,.inl ⟨by rw[hB];rfl,oxb _ _⟩,hl,obsP _ _ hn⟩⟩
 have hlv:Lvl F σ.H:=hR.lv;have len1:∀ao,(σ.H.push ao).L.length=n+1:=λao=>by simp[kz3.push,n]
 have live2:∀s,kzk ts s=true->kzk ts2 s=true:=λs hs=>by
  have e1:=zr6 a4;have e2:=zr6 b4;have h3:=zq9 hR (o:=.cells za) hs;have h4:kzk ts1 s=true:=by unfold kzk at h3 ⊢;rw[e1];exact h3
  unfold kzk at h4 ⊢;rw[e2];simp only[TS.new,kz5]
  rw[Qbp (λe=>by
   obtain⟨o',q1,q2⟩:=zf0 hs;obtain⟨sl,q3,q4⟩:=hR.ob s o' q1;have:=(Qaa.1 q3).1;have:=hR.nx
   omega)]
  exact h4
 refine⟨zyc W,zmw hp c1 c2 hW,rfl,ob,zyc W,hob,zmw hp c3 c4 hW,rfl,hlate,?_,?_⟩
 ·
  refine⟨_,_,_,_,mvA σ hlv (.inl rfl),mvB _ (by rw[zc3];exact hlv) (.inr (by rw[zc3];exact len1 _)),?_⟩;obtain⟨e1,e2⟩:=hR.zlv hD a2;have e3:=e1.put a4 e2;have b2':=b2.more [⟨.any,some σ.H.L.length,[],[]⟩];obtain⟨e4,e5⟩:=e3.zlv hD b2';have e6:=e4.put b4 e5;have key:=hK _ _ e6 (hp.more live2 λs sl h=>lookup_append (lookup_append h));unfold zzt;exact key
 ·
  refine⟨_,_,_,_,mvB σ hlv (.inl rfl),mvA _ (by rw[zc3];exact hlv) (.inr (by rw[zc3];exact len1 _)),?_⟩;rw[zc3]
  let H2:kz3:=(σ.H.push (.cells vb.cells)).push (.cells va.cells)
  have hL2:H2.L=σ.H.L++[some (.cells vb.cells)]++[some (.cells va.cells)]:=rfl
  let sa:Slot:=⟨.any,some (n+1),[],[]⟩
  let sb:Slot:=⟨.any,some n,[],[]⟩
  have f1:TRr D F (ρ++[sa]) (ts.new D (.cells za)) {σ with H:=H2} :=
   hR.new _ sa H2 hR.lv hR.E (by rw[hL2];simp) (λi hi=>by rw[hL2,Qay,Qal hi]) (λi hi=>by injection hi with hi;omega) (by
    simp only[OR]
    exact⟨n+1,va.cells,rfl,by rw[hL2];simp[n],a2.more _⟩)
  have f2:VR D (ρ++[sa]) F.lv (.ptr ts.nx 0) (.ptr σ.H.lv (n+1) 0):=by
   simp only[VR];exact⟨sa,n+1,by rw[<-hR.nx];simp,rfl,by rw[hR.lv]⟩
  have f3:=f1.put a4 f2
  have f4:TRr D F (ρ++[sa]++[sb]) (ts1.new D (.cells zb)) (({σ with H:=H2}:St).put o.dst (.ptr σ.H.lv (n+1) 0)):=by
   refine f3.more _ sb (λi hi =>?_) ?_;injection hi with hi;subst hi;refine⟨λho=>by have:=(hR.out n ho).1;simp only[n]at this;omega,λs o' sl' q1 q2 q3 q4 =>?_⟩;rw[zr6 a4]at q1;simp only[TS.new,kz5]at q1;split at q1;rename_i e;rw[<-e,<-hR.nx]at q3;simp at q3;subst q3;have:=Slot.zj5 rfl q4;simp only[sa]at this;injection this with this;omega;obtain⟨q,r1,r2⟩:=hR.ob s o' q1
   rw[lookup_append r1]at q3;injection q3 with q3;subst q3
   have:=hR.lt q1 q2 r1 q4;simp only[n]at this;omega;simp only[OR];exact⟨n,vb.cells,rfl,by rw[ylc];show H2.L[n]? = _;rw[hL2];simp[n],(b2.more _).more _⟩
  have f5:VR D (ρ++[sa]++[sb]) F.lv (.ptr ts1.nx 0) (.ptr σ.H.lv n 0):=by
   simp only[VR];exact⟨sb,n,by rw[hn1,<-hR.nx];simp,rfl,by rw[hR.lv]⟩
  have f6:=f4.put b4 f5;have key:=hK _ _ f6 (hp.more live2 λs sl h=>lookup_append (lookup_append h));rw[zq7 (B:=σ.H) (λd q=>λq2=>hd d q2 q)];have g1:(σ.H.push (.cells vb.cells)).L.length=n+1:=len1 _;rw[g1];unfold zzt;have g2:∀(x:St) (d:Option Nat) (v:V) (H:kz3),({(x.put d v)with H:=H}:St)=({x with H:=H}:St).put d v:=λx d v H=>by cases d <;> rfl
  rw[g2];exact key
omit hD in
theorem ybm{R:Type}{all:List Oper}{kn:TS D.T->Option R}{kp:TV D.T->TS D.T->Option R}{i:Nat}{l:List Nat}{rds:Rds}{wrs:Wrs}{r:R}(h:zb2 P D tbl all kn kp (i::l) rds wrs ts=some r) :
  (∃b l',l=b::l'∧twoB all i b l'=true∧ybx P D all (zb2 P D tbl all kn kp l' rds wrs) i b rds wrs ts=some r)∨zxl P D tbl all kp (λrds wrs ts=>zb2 P D tbl all kn kp l rds wrs ts) i l rds wrs ts=some r:=by
 cases l with
 |nil=>exact .inr h
 |cons b l=>
  rw[zb2]at h;split at h;rename_i hb;exact .inl ⟨b,l,rfl,hb,h⟩;exact .inr h
theorem zdh{R:Type}{ops:Array Oper}{Q:yza->St->Prop}{kn:TS D.T->Option R}{kp:TV D.T->TS D.T->Option R}{r:R}(htbl:∀e∈tbl,e.Ok P)(hkn:∀ts' σ' ρ',TRr D F ρ' ts' σ'->kn ts'=some r->Q .normal σ')
  (hkp:∀z ts' σ' ρ' v,TRr D F ρ' ts' σ'->VR D ρ' F.lv z v->kp z ts'=some r->Q (.panic v) σ') :
  ∀(l:List Nat) (rds:Rds) (wrs:Wrs) (prev:List (Nat×Info)) {ts:TS D.T}{σ:St}{ρ:List Slot},TRr D F ρ ts σ->zh5 (D:=D) ρ ts rds wrs prev->zb2 P D tbl ops.toList kn kp l rds wrs ts=some r ->
   z95 P ops .any (Lvl F) (KpQ Q) (Q .normal) l prev σ
 |[],rds,wrs,prev,ts,σ,ρ,hR,hp,h=>hkn ts σ ρ hR h
 |k::l,rds,wrs,prev,ts,σ,ρ,hR,hp,h=>by
  rcases ybm h with ⟨b,l',e,htw,hh⟩|hh
  ·subst e;unfold ybx at hh;split at hh
   case h_2=>cases hh
   rename_i o ob ho' hob';split at hh
   case h_2=>cases hh
   rename_i t u hA hB;split at hh
   case h_2=>cases hh
   rename_i ts1 hchk h1;split at hh
   case h_2=>cases hh
   rename_i ts2 h2;simp only[twoB,ho',hob',Qag,Option.isNone_iff_eq_none]at htw;obtain⟨⟨⟨⟨⟨_,gA⟩,gB⟩,_⟩,hdd⟩,hlate⟩:=htw;simp only[Qag]at hchk;obtain⟨⟨⟨c1,c2⟩,c3⟩,c4⟩:=hchk
   obtain⟨c,q1,q2⟩:=ymx hD (l:=l') (K:=z95 P ops .any (Lvl F) (KpQ Q) (Q .normal) l' prev) hR hp (by simpa using hob') hA hB gA gB (λd e e'=>by
    rw[e,e']at hdd
    simp at hdd) (λj hj=>by
    have:=Qas.1 hlate j hj;rw[Qag]at this
    exact⟨zbk this.1,zbk this.2⟩) c1 c2 c3 c4 h1 h2 λρ' σ' t1 t2=>zdh htbl hkn hkp l' rds wrs prev t1 t2 hh
   exact zg1.2 ⟨o,c,by simpa using ho',q1,.inr (.inr ⟨b,l',rfl,q2⟩)⟩
  clear h;have h:=hh;clear hh;unfold zxl at h;split at h;cases h;rename_i o ho';have ho:ops[k]? = some o:=by simpa using ho'
  have one:∀{c:Info}{v:V}{H':kz3}{ts2:TS D.T}{ρ2:List Slot}{rds2:Rds}{wrs2:Wrs},c.call=false->MV P ops (Lvl F) c σ o v H'->GP .any ops prev k c->TRr D F ρ2 ts2 (zzt σ o v H')->zh5 (D:=D) ρ2 ts2 rds2 wrs2 ((k,c)::prev)->zb2 P D tbl ops.toList kn kp l rds2 wrs2 ts2=some r ->
    z95 P ops .any (Lvl F) (KpQ Q) (Q .normal) (k::l) prev σ:=λ{c v H' ts2 ρ2 rds2 wrs2} hcc hm hc hR2 hp2 h2=>
   zg1.2 ⟨o,c,ho,hc,.inl ⟨v,H',hcc,hm,zdh htbl hkn hkp l rds2 wrs2 _ hR2 hp2 h2⟩⟩
  have emp:GP .any ops prev k (zoc ρ []):=λp hj hf=>⟨λh=>(by cases h.2),λ_ h=>(by cases h),λ_ _ x ⟨s,hs,_⟩=>(by cases hs)⟩
  have mH:∀{v:V}{ts2:TS D.T}{ρ2:List Slot},TRr D F ρ2 ts2 (σ.put o.dst v)->TRr D F ρ2 ts2 (zzt σ o v σ.H):=λ{v ts2 ρ2} h=>h
  simp only[pOp]at h;refine zm5 (n:=k) hR h (λts1 ho1 hR1 hw h1 =>?_) λts1 ho1 hR1 hw h1 =>?_
  ·have hp1:zh5 (D:=D) ρ ts1 rds wrs prev:=by
    have hl:∀s,kzk ts1 s=kzk ts s:=λs=>by unfold kzk;rw[ho1]
    exact⟨λp hj hq=>(hp.q p hj hq).imp_right λ⟨R,a,b⟩=>⟨R,a,λl e x hx=>by obtain⟨s,c,d,f⟩:=b l e x hx;exact⟨s,c,by rw[hl];exact d,f⟩⟩,λp hj he=>by obtain⟨w,a,b⟩:=hp.e p hj he;exact⟨w,a,λs e x hx=>by rw[hl];exact b s e x hx⟩⟩
   have hwt:=hw.wanted hR1;have hlv:Lvl F σ.H:=hR1.lv;split at h1
   ·rename_i heff;split at h1
    ·
     split at h1
     case h_2=>cases h1
     rename_i c hc;split at h1
     case h_2=>cases h1
     rename_i s x t u hcal hargs htys;split at h1
     case h_2=>cases h1
     rename_i sv xv hs hx;obtain⟨z,v,a1,a2,a3⟩:=yh6 h1 (hR1.ev hs) (hR1.ev hx);split at a3;rename_i ts2 hput;exact one (c:=zoc ρ []) (v:=v) (H':=σ.H) rfl (.inr ⟨hwt,hlv,.inl ⟨rfl,rfl,λH'' k1 k2=>.inr (.inr (.inr (.inr ⟨c,s,x,t,u,hc,hcal,hargs,htys,a1⟩)))⟩⟩) emp (mH (hR1.put hput (a2 _ _))) (hp1.quiet (R:=[]) rfl (zr6 hput)) a3;cases a3
    split at h1;rename_i hc;rw[Qag]at hc;obtain⟨hc1,hc2⟩:=hc
    have fin:∀{W:Nat->Prop}{v:V}{H':kz3}{z:TV D.T}{ts' ts2:TS D.T}{ρ2:List Slot},ox P σ.H σ.ev o.op=some (v,H')->(∀i,¬W i->H'.L[i]? = σ.H.L[i]?)->TRr D F ρ2 ts' {σ with H:=H'}->VR D ρ2 F.lv z v ->
      (∀s0,wrK ts1 o.op=some s0->(∀s,kzk ts1 s=true->kzk ts' s=true)∧∀(s:Nat) (sl:Slot),ρ[s]? = some sl->ρ2[s]? = some sl)->(∀s,wrK ts1 o.op=some s->∀x,W x->kzk ts' s=true∧Keyed ρ2 s x) ->
      (∀s,y8u ts1 o.op=some s->∀q x,kzk ts1 q=true->Keyed ρ q x->q≠s->¬W x)->ts'.put D o.dst z=some ts2->zb2 P D tbl ops.toList kn kp l (yi0 (wrK ts1 o.op) rds) ((k,wrK ts1 o.op)::y1x (wrK ts1 o.op) wrs) ts2=some r ->
      z95 P ops .any (Lvl F) (KpQ Q) (Q .normal) (k::l) prev σ :=
     λ{W v H' z ts' ts2 ρ2} g1 g2 g3 g4 g5 g6 g7 g8 g9=>by
      have hH:Lvl F H':=g3.lv;have ho2:=zr6 g8;have hl2:∀s,kzk ts2 s=kzk ts' s:=λs=>by unfold kzk;rw[ho2]
      exact one (c:=zyc λx=>W x.1) rfl (.inr ⟨hwt,hlv,.inr ⟨rfl,trivial,.inl ⟨heff,g1⟩,hH,λx hx=>ybu (g2 x.1 hx)⟩⟩) (zmw hp1 hc1 hc2 λs e q x=>g7 s e q x.1) (g3.put g8 g4) (hp1.eff ⟨rfl,rfl⟩ (λs0 e=>⟨λs a=>by rw[hl2];exact(g5 s0 e).1 s a,(g5 s0 e).2⟩) λs e x hx=>by rw[hl2];exact g6 s e x.1 hx) g9
    have push:∀{cs:List (TV D.T)}{vs:List V}{ts2:TS D.T},wrK ts1 o.op=some ts1.nx->VRL D ρ F.lv cs vs->ox P σ.H σ.ev o.op=some (.ptr σ.H.lv σ.H.L.length 0,σ.H.push (.cells vs))->(ts1.new D (.cells cs)).put D o.dst (.ptr ts1.nx 0)=some ts2 ->
      zb2 P D tbl ops.toList kn kp l (yi0 (wrK ts1 o.op) rds) ((k,wrK ts1 o.op)::y1x (wrK ts1 o.op) wrs) ts2=some r ->
      z95 P ops .any (Lvl F) (KpQ Q) (Q .normal) (k::l) prev σ:=λ{cs vs ts2} g0 g1 g2 g3 g4=>by
     obtain⟨h3,h4⟩:=hR1.zlv hD g1;refine fin (W:=λi=>i=σ.H.L.length) g2 (λi hi =>?_) h3 h4 (λs0 _=>⟨λs a=>zq9 hR1 a,λs sl h=>lookup_append h⟩) (λs hs x hx =>?_) (λs hs q x a b c e =>?_) g3 g4;simp only[kz3.push];rw[Qba];split;rfl;rename_i hge;have hi:i≠σ.H.L.length:=hi;rw[Qbs (by simp;omega),Qbs (by omega)]
     rw[g0]at hs;injection hs with hs;subst hs
     refine⟨z82 (o:=.cells cs) (by simp only[TS.new,kz5,if_true]) trivial,⟨.any,some σ.H.L.length,[],[]⟩,by rw[<-hR1.nx];simp,.inl (by rw[hx])⟩;have:=zhj hR1 a b;have e:x=σ.H.L.length:=e;omega
    have other:wrK ts1 o.op=none->tOp P D ts1 o.op (λv ts'=>match ts'.put D o.dst v with|some ts2=>zb2 P D tbl ops.toList kn kp l (yi0 (wrK ts1 o.op) rds) ((k,wrK ts1 o.op)::y1x (wrK ts1 o.op) wrs) ts2|none=>none) (λ_=>none)=some r ->
      z95 P ops .any (Lvl F) (KpQ Q) (Q .normal) (k::l) prev σ:=λg0 hh=>by
     rcases y7o hD hR1 hh with ⟨z,ts',v,H',ρ',a1,a2,a3,a4⟩|⟨s,hs⟩
     split at a4;rename_i ts2 hput;refine fin (W:=λj=>∀s,y8u ts1 o.op=some s->Keyed ρ s j∨j=σ.H.L.length) a1 (λi hi =>?_) a3 a2 (λs0 e=>by rw[g0]at e;cases e) (λs0 e=>by rw[g0]at e;cases e) (λs0 e q x b1 b2 b3 b4 =>?_) hput a4;simp only[Classical.not_forall]at hi;obtain⟨s,hs,hi⟩:=hi;exact yo3 hR1 g0 hs a1 hi;have hlt:=zhj hR1 b1 b2
     rcases b4 s0 e with h|h
     exact b3 (zn5 hR1 b1 (ypw hR1 g0 e h) b2 h);omega;cases a4;cases hs
    cases hop:o.op with
    |alloc t=>
     rw[hop]at h1;simp only[tOp]at h1;split at h1;rename_i z hz;split at h1;rename_i hs;obtain⟨v,b1,b2⟩:=zbl (ρ:=ρ) (lv:=F.lv) hz;split at h1;rename_i ts2 hput;rw[<-hop]at h1;exact push (by rw[hop];rfl) (b2.cells hs) (by rw[hop];simp only[ox,zpx,b1];rw[Qbo (b2.kza hs)]) hput h1;cases h1;cases h1
     cases h1
    |box t x=>
     rw[hop]at h1;simp only[tOp]at h1;split at h1;rename_i v hx;split at h1;rename_i hs;have b2:=hR1.ev hx;split at h1;rename_i ts2 hput;rw[<-hop]at h1;exact push (by rw[hop];rfl) (b2.cells hs) (by rw[hop];simp only[ox,yon];rw[Qbo (b2.kza hs)]) hput h1;cases h1;cases h1
     cases h1
    |store t a x=>
     by_cases hw0:wrK ts1 o.op=none;exact other hw0 h1;rw[hop]at h1;simp only[tOp]at h1;split at h1;rename_i av xv ha hx;rw[hop]at hw0;simp only[wrK,ha]at hw0;split at hw0;rename_i s off heq;injection heq with heq;subst heq;have hwk:wrK ts1 o.op=some s:=by rw[hop];simp only[wrK,ha]
     obtain⟨i,cs,cs',H',b1,b2,b3,b4,b5,b6,b7⟩:=ykx hD hR1 h1 (hR1.ev ha) (hR1.ev hx);split at b7;rename_i ts2 hput;rw[<-hop]at b7
     have lset:∀q,kzk ts1 q=true->kzk (ts1.set D s (.cells cs')) q=true:=λq hq=>by
      obtain⟨o',c1,c2⟩:=zf0 hq;by_cases e:s=q;exact z82 (o:=.cells cs') (by simp only[TS.set,kz5,Qbo e]) trivial;exact z82 (o:=o') (by simp only[TS.set,kz5,Qbp e];exact c1) c2
     have lives:kzk ts1 s=true:=z82 b2 trivial;refine fin (W:=λj=>j=i) (by rw[hop];simp only[ox];exact b3) (λj hj=>b4 j hj) b6 (by simp only[VR]) (λs0 _=>⟨lset,λ_ _ h=>h⟩) (λs0 hs x hx =>?_) (λs0 hs q x a b c e =>?_) hput b7
     rw[hwk]at hs;injection hs with hs;subst hs
     exact⟨lset s lives,by rw[hx];exact b1⟩
     rw[ynf hwk]at hs;injection hs with hs;subst hs
     subst e;exact c (zn5 hR1 a lives b b1);cases b7;exact(hw0 rfl).elim
     cases h1
    |call c=>
     by_cases hw0:wrK ts1 o.op=none;exact other hw0 h1;have h1o:=h1;rw[hop]at h1;simp only[tOp]at h1;rw[hop]at hw0;simp only[wrK]at hw0;split at hw0;rename_i sx xx hcal hargs;split at h1;rename_i s x t u hcal' hargs' htys;rw[hargs]at hargs';injection hargs' with e1 e2;subst e1;have e3:=e2;injection e3 with e3 _;subst e3;split at h1;rename_i hs hx;exact(hw0 (by rw[hx];cases ts1.ev sx <;> rfl)).elim
     rename_i sv xv hnb hs hx;have hap:=ynb hw0;have hno:∀q,sv ≠ .own q:=λq e=>hap.2 q (by rw[hs,e])
     have hwk:wrK ts1 o.op=some ts1.nx:=by
      rw[hop];simp only[wrK,hcal,hargs];exact hap.1
     obtain⟨z,ts',v,H',ρ',a1,a2,a3,a4,a5⟩:=zom hR1 h1 (hR1.ev hs) (hR1.ev hx);obtain⟨sl',o',rfl,rfl,q1,q2,q3⟩:=a5 hno;split at a4;rename_i ts2 hput;refine fin (W:=λi=>sl'.k=some i) (by rw[hop];simp only[ox,hcal,hargs,e2,htys];exact a1) (λi hi=>q3 i hi) a3 a2 (λs0 _=>⟨λs a=>zq9 hR1 a,λs sl h=>lookup_append h⟩) (λs hss x hx =>?_) (λs hss q x a b c e =>?_) hput (by rw[hop];exact a4)
     rw[hwk]at hss;injection hss with hss;subst hss
     exact⟨z82 (o:=o') (by simp only[TS.new,kz5,if_true]) q1,sl',by rw[<-hR1.nx];simp,.inl hx⟩;have:=zhj hR1 a b;have:=q2 x e;omega;cases a4;cases h1;rename_i s x hcal' hargs' htys;rw[hcal]at hcal';cases hcal'
     exfalso;simp[tP,tP1,hcal,FR.of]at h1
     exact(hw0 rfl).elim
    |_=>rw[hop]at heff;cases heff
    cases h1
   ·rename_i heff;split at h1
    ·
     split at h1
     case h_2=>cases h1
     rename_i hc;rw[Qag]at hc;obtain⟨hc1,hc2⟩:=hc;unfold tLit at h1;split at h1
     case h_2=>cases h1
     rename_i t len ps hop;split at h1
     case h_2=>cases h1
     rename_i e qs hu hqs;split at h1
     case h_2=>cases h1
     rename_i τ xs hb;obtain⟨p1,p2⟩:=hR1.parts hqs;obtain⟨v,b1,b2⟩:=zbq hD p1 p2 hb;simp only[VR]at b2;obtain⟨b2,b3,_⟩:=b2;obtain⟨ws,rfl⟩:=b3 (Qbn _)
     cases b2 with
     |sl _ _ _ _ hl hh=>
      have hlen:len≠0:=λe0=>by
       subst e0;unfold zbg at hb
       repeat (split at hb <;> try (first|(cases hb;done)|(injection hb with hb;injection hb with _ _ hb;cases hb;done)))
      have hn:=hR1.new (.acc e τ xs true) ⟨.hs σ.H.lv σ.H.L.length 0 0 ws.length false,some σ.H.L.length,ws,[]⟩ (σ.H.push (.arr 0 e (D.len τ) ws (some ws.length))) hR1.lv hR1.E (by simp[kz3.push]) (λi hi=>by simp only[kz3.push];rw[Qal hi]) (λi hi=>by injection hi with hi;omega) (by
       simp only[OR]
       exact⟨hl,hh,0,some ws.length,by rw[hR1.lv],by simp[kz3.push]⟩)
      dsimp only at h1;split at h1;rename_i ts2 hput;have hput:=hput;have ho2:=zr6 hput;have hl2:∀s,kzk ts2 s=kzk (ts1.new D (.acc e τ xs true)) s:=λs=>by unfold kzk;rw[ho2]
      refine one (c:=zyc λx=>x.1=σ.H.L.length) (v:=.hs σ.H.lv σ.H.L.length 0 0 ws.length false) (H':=σ.H.push (.arr 0 e (D.len τ) ws (some ws.length))) rfl
       (.inr ⟨hwt,hlv,.inr ⟨rfl,trivial,.inr (.inr ⟨t,len,ps,e,D.len τ,ws,hop,b1,hlen,hu,rfl,rfl⟩),hn.lv,λx hx=>ybu (by
          have hx:x.1≠σ.H.L.length:=hx;simp only[kz3.push];rw[Qba];split;rfl
          rw[Qbs (by simp;omega),Qbs (by omega)])⟩⟩)
       (zmw hp1 hc1 hc2 λs hs q x a b c e=>by
         have:=zhj hR1 a b;have e:x.1=σ.H.L.length:=e
         omega)
       (hn.put hput (v:=.hs σ.H.lv σ.H.L.length 0 0 ws.length false) (by
         simp only[VR]
         exact⟨⟨.hs σ.H.lv σ.H.L.length 0 0 ws.length false,some σ.H.L.length,ws,[]⟩,by rw[<-hR1.nx];simp,rfl,rfl⟩))
       (hp1.eff (w:=some ts1.nx) ⟨rfl,rfl⟩ (λs0 _=>⟨λs a=>by rw[hl2];exact zq9 hR1 a,λs sl h=>lookup_append h⟩) λs e x hx =>?_) h1
      injection e with e;subst e;refine⟨by rw[hl2];exact z82 (o:=.acc e τ xs true) (by simp only[TS.new,kz5,if_true]) trivial,⟨.hs σ.H.lv σ.H.L.length 0 0 ws.length false,some σ.H.L.length,ws,[]⟩,by rw[<-hR1.nx];simp,.inl (by rw[show x.1=σ.H.L.length from hx])⟩;cases h1
    split at h1;rename_i R hR0;split at h1;rename_i hc;rw[Qag]at hc;obtain⟨hc1,hc2⟩:=hc
    rcases y00 hD hR1 h1 with ⟨x,v,a1,a2,a3⟩|⟨s,hs⟩
    split at a3;rename_i ts2 hput;refine one (c:=zoc ρ R) (v:=v) (H':=σ.H) rfl (.inr ⟨hwt,hlv,.inl ⟨rfl,rfl,λH'' k1 k2=>.inl ?_⟩⟩) (yfy hR1 hp1 hc1 hc2) (mH (hR1.put hput a2)) (hp1.quiet hc2 (zr6 hput)) a3;rw[yq7 hR1 hR0 k1 k2];exact a1;cases a3;cases hs;cases h1;split at h1;rename_i c hc;split at h1;rename_i x hcal;split at h1;rename_i f a b vs hx hvs;obtain⟨args,t1,t2⟩:=zmv hR1 hcal hx hvs;split at h1
    rcases zds hD hR1 t2 (λe he=>htbl e (List.mem_filter.1 he).1) h1 with ⟨⟨e,he,hne⟩,_⟩|⟨rv,e1,z,ρ',ts',e2,e3,e4,_⟩|⟨s,hs⟩
    have:=(List.mem_filter.1 he).2;rw[hne]at this;cases this;split at e4;rename_i ts2 hput;exact one (c:=zoc ρ []) (v:=rv) (H':=σ.H) rfl (.inr ⟨hwt,hlv,.inl ⟨rfl,rfl,λH'' k1 k2=>.inr (.inl ⟨c,f,args,hc,t1,e1 _⟩)⟩⟩) emp (mH (hR1.put hput (e2 ρ))) (hp1.quiet (R:=[]) rfl (zr6 hput)) e4;cases e4;cases hs;split at h1;rename_i hlat;rw[Qag]at hlat;obtain⟨hlat,hefs⟩:=hlat
    obtain⟨M,kc,Post,m1,m2,m3,m4,m7,m5,m6,m8⟩:=zjg hD hR1 t2 (λe he=>by
     obtain⟨e1,e2⟩:=List.mem_filter.1 he
     exact⟨htbl e e1,by simpa using e2⟩) h1
    have hpairs:=yk5 hR1 hp1 m8 m1 hefs m2;refine zg1.2 ⟨o,yt5 (yt7 M kc ρ σ),ho,hpairs,.inr (.inl ⟨λj hj =>?_,rfl,rfl,hwt,c,f,args,Post,hc,t1,m3,λv H' hpo=>⟨(m4 _ H' hpo).1,λi hi =>?_,?_⟩,λv H' hpo =>?_⟩)⟩;exact zbk (Qas.1 hlat j hj);have hi:¬¬_:=hi
    rcases Classical.not_not.1 hi with ⟨i1,i2⟩|⟨z,s,sl,z1,z2,z3,z4,z5⟩
    exact ybu ((m4 _ H' hpo).2 i.1 i1 i2);unfold obs;rw[z3];exact congrArg (Prod.mk none) (m7 v H' hpo z z1 s sl i.1 z2 z4 z5);obtain⟨z,ts',ρ',k1,k2,k3,k4⟩:=m5 v H' hpo;split at k3;rename_i ts2 hput;exact zdh htbl hkn hkp l _ _ _ (k2.put hput k1) (hp1.call rfl k4) k3;cases k3;obtain⟨z,ts',ρ',k1,k2,k3⟩:=m6 v H' hpo;intro t' ht';refine hkp z _ _ ρ' v ?_ k1 k3
    exact⟨k2.nx,ht'.trans k2.nt,λj x hj=>by simp[fnd]at hj,k2.ob,k2.inj,k2.mine,k2.lv,k2.E,k2.e0,k2.d,k2.out,k2.pin,k2.fpl,k2.g⟩;cases h1;cases h1;cases h1;cases h1
  have hp1:zh5 (D:=D) ρ ts1 rds wrs prev:=by
   have hl:∀s,kzk ts1 s=kzk ts s:=λs=>by unfold kzk;rw[ho1]
   exact⟨λp hj hq=>(hp.q p hj hq).imp_right λ⟨R,a,b⟩=>⟨R,a,λl e x hx=>by obtain⟨s,c,d,f⟩:=b l e x hx;exact⟨s,c,by rw[hl];exact d,f⟩⟩,λp hj he=>by obtain⟨w,a,b⟩:=hp.e p hj he;exact⟨w,a,λs e x hx=>by rw[hl];exact b s e x hx⟩⟩
  split at h1;rename_i ts2 hput;exact one (c:=zoc ρ []) (v:=.tup []) (H':=σ.H) rfl (.inl ⟨hw,rfl,rfl⟩) emp (mH (hR1.put hput (v:=.tup []) (by simp only[VR];exact⟨[],rfl,by simp only[VRL]⟩))) (hp1.quiet (R:=[]) rfl (zr6 hput)) h1;cases h1
theorem zky{R:Type}{ops:List Oper}{r:R}{k:TS D.T->Option R}:∀(n:Nat) {ts:TS D.T}{ρ:List Slot},TRr D F ρ ts σ->yg1 P D ops n ts k=some r->∃ts' ρ',TRr D F ρ' ts' σ∧k ts'=some r
 |0,ts,ρ,hR,h=>⟨ts,ρ,hR,h⟩
 |n+1,ts,ρ,hR,h=>by
  rw[yg1]at h;split at h;obtain⟨ts',ρ',_,_,_,_,_,_,_,g1,g2,_⟩:=y7n hD hR h;exact zky n g2 g1;exact⟨ts,ρ,hR,h⟩
theorem zvo{R:Type}{id:Nat}{ops:Array Oper}{d:Bool}{Q:yza->St->Prop}{kn:TS D.T->Option R}{kp:TV D.T->TS D.T->Option R}{r:R}(htbl:∀e∈tbl,e.Ok P)
  (hkn:∀ts' σ' ρ',TRr D F ρ' ts' σ'->kn ts'=some r->Q .normal σ') (hkp:∀z ts' σ' ρ' v,TRr D F ρ' ts' σ'->VR D ρ' F.lv z v->kp z ts'=some r->Q (.panic v) σ')
  (hR:TRr D F ρ ts σ) (h:zu0 P D tbl ops d ts kn kp=some r):Sat P (.region id ops d) σ Q:=by
 unfold zu0 at h;split at h;rename_i hd;subst hd;simp only at h;split at h;rename_i hm;split at h;split at h;rename_i hB;obtain⟨ans,σ',cl,ts',b1,b2,b3,b4⟩:=z6a hD htbl ops.toList hR h;exact yps hm hB ans σ' cl b1 b2 (hkn ts' σ' ρ b3 b4);cases h;split at h;rename_i hB;obtain⟨ts',ρ',g2,g1⟩:=zky hD 4 hR h;obtain⟨ans,σ',cl,ts',b1,b2,b3,b4⟩:=z6a hD htbl _ g2 g1
 exact yp8 _ hm hB ans σ' cl b1 b2 (zcf hD htbl hkn hkp _ _ (λj=>by simp) b3 b4);split at h;rename_i hB;simp only[Qag]at hB;obtain⟨⟨h1,h2⟩,h3⟩:=hB
 refine ypd hm _ h1 (Qaj h2) (λj hj =>?_) (by
  obtain⟨ts',ρ',g2,g1⟩:=zky hD 4 hR h
  exact zdh hD htbl hkn hkp _ [] [] [] g2 ⟨λp hp=>(by cases hp),λp hp=>(by cases hp)⟩ g1)
 have h4:=Qas.1 h3 j (List.mem_range.2 hj);obtain⟨q,hq,he⟩:=List.any_eq_true.1 h4;rw[Qaj he];exact hq;cases h;cases h;rename_i hd;have hd:d=false:=by simpa using hd
 subst hd;exact yqo (zcf hD htbl hkn hkp ops.toList 0 (λj=>by simp) hR h)
end
section
variable {P : Program}
def znm(P:Program)(c:Code)(σ:St)(Q:yza->St->Prop):Prop :=
 ∀W0 g0 H0 W a g,yqd W0 g0 H0->(σ.e0=H0.E∧Step W0 g0 H0 W g σ.H)->yz7 W a g σ->zq2 P c (y4v W0 g0 H0 Q) a W
theorem znm.sat{c:Code}{σ:St}{Q:yza->St->Prop}(h:znm P c σ Q):Sat P (.loop c) σ Q:=λW0 g0 H0 W a g hB hS hG=>(h W0 g0 H0 W a g hB hS hG).wp
theorem znm.round{c:Code}{σ:St}{Q:yza->St->Prop}(h:Sat P c σ (yza.then (λσ'=>znm P c σ' Q) Q)):znm P c σ Q:=λW0 g0 H0 W a g hB hS hG=>by
 refine zq2.round (zlb (h W0 g0 H0 W a g hB hS hG) λe a w ⟨g,σ,e',h1,h2,h3,h4⟩ =>?_)
 cases h1 with
 |normal=>exact h4 W0 g0 H0 w a g hB h2 h3
 |exit id=>exact⟨g,σ,_,.exit id,h2,h3,h4⟩
 |ret=>exact⟨g,σ,_,.ret,h2,h3,h4⟩
 |panic v c hr=>exact⟨g,σ,_,.panic v c hr,h2,h3,h4⟩
end
section
variable {P : Program} {D : Dat} {F : Fr} {R : Type}
structure KOk(D:Dat)(F:Fr)(K:Ks D.T R)(Q:yza->St->Prop)(r:R):Prop where
 kn:∀ts σ,TR D F ts σ->K.kn ts=some r->Q .normal σ
 kx:∀id k ts σ,fnd K.kx id=some k->TR D F ts σ->k ts=some r->Q (.exit id) σ
 kr:∀ts σ,TR D F ts σ->K.kr ts=some r->Q .ret σ
 kp:∀z ts σ ρ v,TRr D F ρ ts σ->VR D ρ F.lv z v->K.kp z ts=some r->Q (.panic v) σ
def AC.Claim(P:Program)(a:AC)(σ:St)(Q:yza->St->Prop):Prop :=
 match a with
 |.loop b=>znm P b.erase σ Q
 |.rng lf g p a b=>zlh P lf∧(calm a.erase&&calm b.erase)=true∧∀k,zqo P lf g p a.erase b.erase Q k σ
 |a=>Sat P a.erase σ Q
theorem AC.Claim.sat{a:AC}{σ:St}{Q:yza->St->Prop}(h:a.Claim P σ Q):Sat P a.erase σ Q:=by
 cases a <;> first|exact h|exact znm.sat h|exact ys7 h.1 h.2.1 h.2.2
def zqd(P:Program)(φ:Nat->AC->(yza->St->Prop)->Prop):AC->(yza->St->Prop)->Prop
 |.seq a b,Q=>zqd P φ a (yza.then (λσ=>Sat P b.erase σ Q) Q)∧zqd P φ b Q
 |.cond _ a b,Q=>zqd P φ a Q∧zqd P φ b Q
 |.block id a,Q=>zqd P φ a (yza.inBlock id Q)
 |.loop a,Q=>zqd P φ a (yza.then (λσ=>znm P a.erase σ Q) Q)
 |.lab l a,Q=>φ l a Q∧zqd P φ a Q
 |_,_=>True
def AC.site(P:Program)(l:Nat):AC->(yza->St->Prop)->Option (AC×(yza->St->Prop))
 |.seq a b,Q=>match AC.site P l a (yza.then (λσ=>Sat P b.erase σ Q) Q)with
  |some x=>some x
  |none=>AC.site P l b Q
 |.cond _ a b,Q=>match AC.site P l a Q with
  |some x=>some x
  |none=>AC.site P l b Q
 |.block id a,Q=>AC.site P l a (yza.inBlock id Q)
 |.loop a,Q=>AC.site P l a (yza.then (λσ=>znm P a.erase σ Q) Q)
 |.lab l' a,Q=>match Nat.beq l' l with
  |true=>some (a,Q)
  |false=>AC.site P l a Q
 |_,_=>none
theorem z68{l:Nat}:∀{c:AC}{Q:yza->St->Prop}{x:AC×(yza->St->Prop)},c.site P l Q=some x->l∈c.labels
 |.seq a b,Q,x,h=>by
  simp only[AC.site]at h;split at h;rename_i y hy;exact List.mem_append_left _ (z68 hy)
  exact List.mem_append_right _ (z68 h)
 |.cond _ a b,Q,x,h=>by
  simp only[AC.site]at h;split at h;rename_i y hy;exact List.mem_append_left _ (z68 hy)
  exact List.mem_append_right _ (z68 h)
 |.block id a,Q,x,h=>z68 (c:=a) h
 |.loop a,Q,x,h=>z68 (c:=a) h
 |.lab l' a,Q,x,h=>by
  simp only[AC.site]at h;split at h;rename_i e;rw[Qaj e];exact Qak
  exact Qai _ (z68 h)
 |.skip,Q,x,h=>by cases h
 |.region _ _ _,Q,x,h=>by cases h
 |.exit _,Q,x,h=>by cases h
 |.ret,Q,x,h=>by cases h
 |.rng _ _ _ _ _,Q,x,h=>by cases h
 |.other _,Q,x,h=>by cases h
theorem y8p{l:Nat}{c:AC}{Q:yza->St->Prop}(h:l∉c.labels):c.site P l Q=none:=by
 cases hs:c.site P l Q with
 |none=>rfl
 |some x=>exact(h (z68 hs)).elim
theorem zb6{φ:Nat->AC->(yza->St->Prop)->Prop}:∀{c:AC}{Q:yza->St->Prop},c.labels.Nodup->(∀l a Q',c.site P l Q=some (a,Q')->φ l a Q')->zqd P φ c Q
 |.seq a b,Q,hn,h=>by
  simp only[AC.labels]at hn;have hn:=List.nodup_append.1 hn;refine⟨zb6 hn.1 λl x Q' hs=>h l x Q' (by simp only[AC.site,hs]),zb6 hn.2.1 λl x Q' hs=>h l x Q' ?_⟩;have hl:=z68 hs;simp only[AC.site,y8p (P:=P) (Q:=yza.then (λσ=>Sat P b.erase σ Q) Q) (λhm=>hn.2.2 l hm l hl rfl)]
  exact hs
 |.cond _ a b,Q,hn,h=>by
  simp only[AC.labels]at hn;have hn:=List.nodup_append.1 hn;refine⟨zb6 hn.1 λl x Q' hs=>h l x Q' (by simp only[AC.site,hs]),zb6 hn.2.1 λl x Q' hs=>h l x Q' ?_⟩;have hl:=z68 hs;simp only[AC.site,y8p (P:=P) (Q:=Q) (λhm=>hn.2.2 l hm l hl rfl)]
  exact hs
 |.block id a,Q,hn,h=>zb6 (c:=a) hn λl x Q' hs=>h l x Q' hs
 |.loop a,Q,hn,h=>zb6 (c:=a) hn λl x Q' hs=>h l x Q' hs
 |.lab l' a,Q,hn,h=>by
  simp only[AC.labels,List.nodup_cons]at hn;refine⟨h l' a Q (by simp only[AC.site,Nat.beq_refl]),zb6 hn.2 λl x Q' hs=>h l x Q' ?_⟩;have hl:=z68 hs
  have:Nat.beq l' l=false:=by
   cases e:Nat.beq l' l with
   |false=>rfl
   |true=>have:=Qaj e;subst this;exact(hn.1 hl).elim
  simp only[AC.site,this]
  exact hs
 |.skip,Q,hn,h=>trivial
 |.region _ _ _,Q,hn,h=>trivial
 |.exit _,Q,hn,h=>trivial
 |.ret,Q,hn,h=>trivial
 |.rng _ _ _ _ _,Q,hn,h=>trivial
 |.other _,Q,hn,h=>trivial
variable {J : Nat → TS D.T → Option R} {tbl : List (Ent D)} {r : R} (hD : D.Ok P) (htbl : ∀ e ∈ tbl, e.Ok P)
def LOk(P:Program)(D:Dat)(F:Fr)(J:Nat->TS D.T->Option R)(r:R)(l:Nat)(a:AC)(Q:yza->St->Prop):Prop:=∀ts σ,TR D F ts σ->J l ts=some r->a.Claim P σ Q
include hD htbl
theorem z2j:∀{c:AC}{ts:TS D.T}{σ:St}{K:Ks D.T R}{Q:yza->St->Prop},KOk D F K Q r->zqd P (LOk P D F J r) c Q->TR D F ts σ->run P D tbl J c ts K=some r->Sat P c.erase σ Q
 |.skip,ts,σ,K,Q,hK,hL,hT,h=>yr5 (hK.kn ts σ hT h)
 |.region id ops d,ts,σ,K,Q,hK,hL,hT,h=>by
  have h1:∀ts,TR D F ts σ->TR D F (pre1 P D tbl ops ts) σ:=λts hT=>by
   unfold pre1;split;split;exact TR.freeze hD hT ‹_›;exact hT;exact hT
  have hT:TR D F (pre P D tbl ops d ts) σ:=by
   unfold pre;split;exact h1 _ (h1 _ hT);exact hT
  obtain⟨τ,ρ,h1,h2⟩:=hT
  exact yfi h1 (zvo hD htbl (λts' σ' ρ' hR hk=>hK.kn ts' σ' hR.tr hk) (λz ts' σ' ρ' v=>hK.kp z ts' σ' ρ' v) h2 h)
 |.seq a b,ts,σ,K,Q,hK,hL,hT,h=>by
  simp only[run]at h
  exact ysl (z2j (K:={K with kn:=λts=>run P D tbl J b ts K}) (Q:=yza.then (λσ=>Sat P b.erase σ Q) Q) ⟨λts σ hT hk=>z2j hK hL.2 hT hk,hK.kx,hK.kr,hK.kp⟩ hL.1 hT h)
 |.cond c a b,ts,σ,K,Q,hK,hL,hT,h=>by
  simp only[run]at h;obtain⟨τ,ρ,h1,h2⟩:=hT;refine yfi h1 ?_;split at h;rename_i v hv;have he:=h2.ev hv;simp only[VR]at he;split at h;rename_i t;obtain⟨w,e1,e2⟩:=h2.tm t _ hv;simp only[VR]at e2;subst e2;refine yic he (λhb =>?_) λhb =>?_
  subst hb;exact z2j hK hL.1 (h2.tell e1 (by simp only[VR])).tr h;subst hb;exact z2j hK hL.2 (h2.tell e1 (by simp only[VR])).tr h;refine yic he (λhb =>?_) λhb =>?_
  subst hb;exact z2j hK hL.1 h2.tr h;subst hb;exact z2j hK hL.2 h2.tr h
  cases h
 |.block id a,ts,σ,K,Q,hK,hL,hT,h=>by
  simp only[run]at h;refine ymv (z2j (K:={K with kx:=(id,K.kn)::K.kx}) (Q:=yza.inBlock id Q) ⟨λts σ hT hk=>hK.kn ts σ hT hk,λid' k ts σ hf hT hk =>?_,hK.kr,hK.kp⟩ hL hT h);replace hf:fnd ((id,K.kn)::K.kx) id'=some k:=hf;rw[kz5]at hf;show ypc (Nat.beq id' id) (Q .normal σ) (Q (.exit id') σ);split at hf;rename_i e;injection hf with hf;subst hf;subst e;rw[Nat.beq_refl];exact hK.kn ts σ hT hk;rename_i e
  have:Nat.beq id' id=false:=by
   cases e':Nat.beq id' id with
   |false=>rfl
   |true=>exact(e (Qaj e').symm).elim
  rw[this]
  exact hK.kx id' k ts σ hf hT hk
 |.loop a,ts,σ,K,Q,hK,hL,hT,h=>by
  simp only[run]at h;split at h
  case h_2=>cases h
  rename_i hl
  have key:∀(n:Nat) (ts:TS D.T) (σ:St),TR D F ts σ->unrl (λts k=>run P D tbl J a ts {K with kn:=k}) n ts=some r->znm P a.erase σ Q:=λn=>by
   induction n with
   |zero=>intro ts σ _ h;cases h
   |succ n ih=>
    intro ts σ hT h
    exact znm.round (z2j (c:=a) (K:={K with kn:=unrl (λts k=>run P D tbl J a ts {K with kn:=k}) n}) (Q:=yza.then (λσ'=>znm P a.erase σ' Q) Q) ⟨λts σ hT hk=>ih ts σ hT hk,hK.kx,hK.kr,hK.kp⟩
     (zb6 (by rw[hl];exact List.nodup_nil) λl x Q' hs=>by have:=z68 hs;rw[hl]at this;cases this) hT h)
  exact(key 9 ts σ hT h).sat
 |.exit id,ts,σ,K,Q,hK,hL,hT,h=>by
  simp only[run]at h;split at h;rename_i k hk;exact ypl (hK.kx id k ts σ hk hT h)
  cases h
 |.ret,ts,σ,K,Q,hK,hL,hT,h=>ysk (hK.kr ts σ hT h)
 |.lab l a,ts,σ,K,Q,hK,hL,hT,h=>(hL.1 ts σ hT h).sat
 |.rng _ _ _ _ _,ts,σ,K,Q,hK,hL,hT,h=>by simp[run]at h
 |.other c,ts,σ,K,Q,hK,hL,hT,h=>by simp[run]at h
omit hD htbl in
theorem ytg{ρ ρ':List Slot}(h:∀(j:Nat) (sl:Slot),ρ[j]? = some sl->ρ'[j]? = some sl):ρ'=ρ++ρ'.drop ρ.length:=by
 apply List.ext_getElem?;intro j;rw[Qba];split;rename_i hj;rw[Qab hj,h j _ (Qab hj)];rename_i hj;rw[Qbb,show ρ.length+(j-ρ.length)=j by omega]
omit hD htbl in
theorem yd6{ρ:List Slot}{ts ts':TS D.T}{τ σ' τs:St}(hR:TRr D F ρ ts τ)(hT:TR D {F with pin:=ρ} ts' σ'){e:yza}{φ:yza->St->Prop}(he:∀v,e ≠ .panic v)
  (h:∀σ'' e',TRr D F (ρ++e') (ts.back ts') σ''->φ e σ''):RQ τ τs φ e σ':=by
 refine⟨he,λWb gb W g a a3 gB hS hGb hG3 =>?_⟩;obtain⟨τ',ρ',hw,hR'⟩:=hT;obtain⟨g',hS',hG'⟩:=hw Wb gb τs.H W a3 g ⟨gB⟩ hS hG3;have hρ:=ytg (ρ:=ρ) (ρ':=ρ') λj sl hj=>hR'.pin j sl hj
 refine⟨{τ with H:=τ'.H},g',hGb.later hS'.2 hG'.good,⟨?_,hS'.2⟩,h _ (ρ'.drop ρ.length) ?_⟩;show τ.e0=_;rw[hR.e0,<-hS'.1,hR'.e0];rw[<-hρ]
 exact⟨hR'.nx,hR.nt,λj x hj=>(let ⟨v,h1,h2⟩:=hR.tm j x hj;⟨v,h1,by rw[hρ];exact h2.more _⟩),hR'.ob,hR'.inj,hR'.mine,hR'.lv,hR'.E,hR.e0,by rw[hρ];exact hR.d.more _,hR'.out,
  λj sl hj=>hR'.pin j sl (hR.pin j sl hj),hR'.fpl,hR'.g⟩
omit hD htbl in
theorem TRr.mark{ρ:List Slot}{ts:TS D.T}{σ:St}(hR:TRr D F ρ ts σ):TRr D F ρ ts.mark σ.marked :=
 ⟨hR.nx,hR.nt,hR.tm,hR.ob,hR.inj,hR.mine,hR.lv,hR.E,hR.e0,⟨[],σ.d,rfl,by simp only[VRL],hR.d⟩,hR.out,hR.pin,hR.fpl,hR.g⟩
omit hD htbl in
theorem yi6{α β:Type}(f:α->β):∀(l:List (Nat×α)) (i:Nat) {y:β},fnd (l.map λq=>(q.1,f q.2)) i=some y->∃x,fnd l i=some x∧f x=y
 |[],i,y,h=>by simp[fnd]at h
 |q::l,i,y,h=>by
  rw[List.map_cons,kz5]at h;rw[kz5];split at h
  rename_i e;rw[Qbo e];injection h with h;exact⟨q.2,rfl,h⟩
  rename_i e;rw[Qbp e];exact yi6 f l i h
theorem yo9{l lf p:Nat}{g:Operand}{a b:AC}{K:Ks D.T R}{ts:TS D.T}{σ:St}{Q:yza->St->Prop}(hF:F.E=F.e0)(hl:zlh P lf)(hK:KOk D F K Q r)(hJ:LOk P D F J r l (.rng lf g p a b) Q)(hT:TR D F ts σ)
  (h:yjw P D tbl J l lf g p a b K ts=some r):(AC.rng lf g p a b).Claim P σ Q:=by
 unfold yjw at h;split at h
 case h_2=>cases h
 rename_i hla hlb hcalm;refine⟨hl,hcalm,λn =>?_⟩;split at h
 case h_2=>cases h
 rename_i f k hg;split at h
 case h_2=>cases h
 rename_i s hbeq hobj;have hf:=Qaj hbeq;subst hf;obtain⟨_,hcap,h⟩:=yzv h;unfold capS at hcap;split at hcap
 case isFalse=>cases hcap
 rename_i hcap;obtain⟨τ,ρ,hw,hR⟩:=hT;have hev:=hR.ev hg;simp only[VR,VRL]at hev;obtain⟨as,bs,e1,rfl,v,rr,rfl,⟨sl,i,e2,e3,rfl⟩,rfl⟩:=hev;obtain⟨sl',e4,ho⟩:=hR.ob k _ hobj
 rw[e2]at e4;injection e4 with e4;subst e4
 simp only[OR,VRL,VR]at ho;obtain⟨i',vs,e5,e6,v,rr,rfl,rfl,rfl⟩:=ho
 rw[e3]at e5;injection e5 with e5;subst e5
 have hget:∀{υ:St}{i:Nat}{o:kz8},υ.H.L[i]? = some (some o)->υ.H.get υ.H.lv i=some o:=λ{υ i o} h=>by
  unfold kz3.get;rw[Qbo rfl,h];rfl
 unfold zqo;refine⟨τ,i,s,hw,by rw[hR.e0,hR.E,hF],by rw[e1,hR.lv],hget e6,by assumption,λhs =>?_,λhs hlen =>?_⟩;rw[ypb.2 hs]at h;exact hK.kn _ _ hR.mark.tr h
 ·have hns:noS s=false:=by
   cases hq:noS s with
   |false=>rfl
   |true=>exact(hs (ypb.1 hq)).elim
  rw[hns]at h;simp only[pIf]at h
  cases n with
  |zero=>exact hs (Qao (by omega))
  |succ n=>
  split at h
  case h_2=>cases h
  rename_i ts1 hput
  have hR0:TRr D {F with pin:=ρ} ρ {ts with d:=[]} {τ with d:=[]} :=
   ⟨hR.nx,hR.nt,hR.tm,hR.ob,hR.inj,hR.mine,hR.lv,hR.E,hR.e0,rfl,hR.out,λj sl hj=>hj,hR.fpl,hR.g⟩
  have hR1:=hR0.put hput (v:=.str (lnA s)) (by simp only[VR])
  have ho1:fnd ts1.o k=some (.cells [.str s]):=by
   simp only[TS.put]at hput;split at hput;injection hput with hput;subst hput;exact hobj;cases hput
  have hR2:=hR1.upd ho1 trivial e2 e3 (.cells [.str (lnB s)]) (.cells [.str (lnB s)]) (by
   simp only[OR,VRL,VR]
   exact⟨i,[.str (lnB s)],e3,Qap (Qaa.1 e6).1,_,_,rfl,rfl,rfl⟩)
  have hst:(τ.begin p i s)={({τ with d:=[]}:St).put (some p) (.str (lnA s))with H:={τ.H with L:=τ.H.L.set i (some (.cells [.str (lnB s)]))}}:=by
   show St.mk _ _ _ _=St.mk _ _ _ _
   congr 1
   unfold kz3.set;rw[Qbo rfl]
  rw[hst]
  have labs0:∀{c:AC}{Q:yza->St->Prop},c.labels=[]->zqd P (LOk P D {F with pin:=ρ} J r) c Q:=λ{c Q} hc=>zb6 (by rw[hc];exact .nil) λl' x Q' hs=>by
   have:=z68 hs;rw[hc]at this;cases this
  refine z2j hD htbl (F:={F with pin:=ρ}) (c:=a) ⟨λts2 σ2 hT2 hk2 =>?_,λid k' ts' σ' hk'=>(by simp[fnd]at hk'),λts' σ' _ hk'=>(by cases hk'),λz ts' σ' ρ' v _ _ hk'=>(by cases hk')⟩ (labs0 hla) hR2.tr h;refine z2j hD htbl (F:={F with pin:=ρ}) (c:=b) ⟨λts' σ' hT' hk' =>?_,λid k' ts' σ' hk' hT' hr' =>?_,λts' σ' hT' hk' =>?_,λz ts' σ' ρ' v _ _ hk'=>(by cases hk')⟩ (labs0 hlb) hT2 hk2
  ·refine yd6 hR hT' (λv e=>by cases e) λσ'' e' hR'' =>?_
   dsimp only at hk';split at hk'
   case h_2=>cases hk'
   rename_i s' hs';obtain⟨_,hq,hj⟩:=yzv hk';unfold yt2 at hq;split at hq
   case isFalse=>cases hq
   rename_i heq;subst heq;obtain⟨sl3,w1,w2⟩:=hR''.ob k _ hs';rw[Qal (Qaa.1 e2).1,e2]at w1;injection w1 with w1;subst w1;simp only[OR,VRL,VR]at w2;obtain⟨i',vs,w3,w4,v,rr,rfl,rfl,rfl⟩:=w2
   rw[e3]at w3;injection w3 with w3;subst w3
   refine⟨?_,(hJ _ _ hR''.tr hj).2.2 n⟩;have:=hget w4;rw[hR''.lv]at this;rw[hR.lv];exact this
  dsimp only at hk';obtain⟨k0,h1,h2⟩:=yi6 (λk (ts':TS D.T)=>k (ts.back ts').mark) K.kx id hk';refine yd6 hR hT' (λv e=>by cases e) λσ'' e' hR'' =>?_
  subst h2;exact hK.kx id k0 _ _ h1 hR''.mark.tr hr';refine yd6 hR hT' (λv e=>by cases e) λσ'' e' hR'' =>?_
  exact hK.kr _ _ hR''.mark.tr hk'
omit hD htbl in
theorem zex{l:Nat}:∀{c:AC}{K:Ks D.T R}{kl:TS D.T->Option R}{Q:yza->St->Prop},AC.at P D tbl J l c K kl=none->c.site P l Q=none
 |.seq a b,K,kl,Q,h=>by
  simp only[AC.at]at h;split at h;cases h;rename_i hn;simp only[AC.site];rw[zex hn]
  exact zex h
 |.cond _ a b,K,kl,Q,h=>by
  simp only[AC.at]at h;split at h;cases h;rename_i hn;simp only[AC.site];rw[zex hn]
  exact zex h
 |.block id a,K,kl,Q,h=>zex (c:=a) (K:={K with kx:=(id,K.kn)::K.kx}) (kl:=λ_=>none) h
 |.loop a,K,kl,Q,h=>zex (c:=a) (K:={K with kn:=kl}) (kl:=λ_=>none) h
 |.lab l' a,K,kl,Q,h=>by
  simp only[AC.at]at h;split at h;cases h;rename_i e;simp only[AC.site,e]
  exact zex (c:=a) h
 |.skip,K,kl,Q,h=>rfl
 |.region _ _ _,K,kl,Q,h=>rfl
 |.exit _,K,kl,Q,h=>rfl
 |.ret,K,kl,Q,h=>rfl
 |.rng _ _ _ _ _,K,kl,Q,h=>rfl
 |.other _,K,kl,Q,h=>rfl
theorem zdr{l:Nat}:∀{c:AC}{K:Ks D.T R}{kl:TS D.T->Option R}{Q:yza->St->Prop}{f:TS D.T->Option R},F.E=F.e0->(∀q∈c.zfz,zlh P q)->KOk D F K Q r->(∀b,c = .loop b->∀ts σ,TR D F ts σ->kl ts=some r->znm P b.erase σ Q)->zqd P (LOk P D F J r) c Q->AC.at P D tbl J l c K kl=some f ->
  ∃a Q',c.site P l Q=some (a,Q')∧∀ts σ,TR D F ts σ->f ts=some r->a.Claim P σ Q'
 |.seq a b,K,kl,Q,f,hF,hr,hK,hkl,hL,h=>by
  simp only[AC.at]at h;split at h;rename_i g hg;injection h with h;subst h;obtain⟨x,Q',h1,h2⟩:=zdr (c:=a) (K:={K with kn:=λts=>run P D tbl J b ts K}) (Q:=yza.then (λσ=>Sat P b.erase σ Q) Q) hF (λq hq=>hr q (List.mem_append_left _ hq)) ⟨λts σ hT hk=>z2j hD htbl hK hL.2 hT hk,hK.kx,hK.kr,hK.kp⟩ (λ_ _ ts σ _ hk=>by cases hk) hL.1 hg;exact⟨x,Q',by simp only[AC.site,h1],h2⟩;rename_i hn
  obtain⟨x,Q',h1,h2⟩:=zdr (c:=b) hF (λq hq=>hr q (List.mem_append_right _ hq)) hK (λ_ _ ts σ _ hk=>by cases hk) hL.2 h;refine⟨x,Q',?_,h2⟩;simp only[AC.site];rw[zex hn]
  exact h1
 |.cond _ a b,K,kl,Q,f,hF,hr,hK,hkl,hL,h=>by
  simp only[AC.at]at h;split at h;rename_i g hg;injection h with h;subst h;obtain⟨x,Q',h1,h2⟩:=zdr (c:=a) hF (λq hq=>hr q (List.mem_append_left _ hq)) hK (λ_ _ ts σ _ hk=>by cases hk) hL.1 hg;exact⟨x,Q',by simp only[AC.site,h1],h2⟩;rename_i hn;obtain⟨x,Q',h1,h2⟩:=zdr (c:=b) hF (λq hq=>hr q (List.mem_append_right _ hq)) hK (λ_ _ ts σ _ hk=>by cases hk) hL.2 h;refine⟨x,Q',?_,h2⟩;simp only[AC.site];rw[zex hn]
  exact h1
 |.block id a,K,kl,Q,f,hF,hr,hK,hkl,hL,h=>by
  simp only[AC.at]at h;refine zdr (c:=a) hF hr (K:={K with kx:=(id,K.kn)::K.kx}) (Q:=yza.inBlock id Q) ⟨λts σ hT hk=>hK.kn ts σ hT hk,λid' k ts σ hf hT hk =>?_,hK.kr,hK.kp⟩ (λ_ _ ts σ _ hk=>by cases hk) hL h;replace hf:fnd ((id,K.kn)::K.kx) id'=some k:=hf;rw[kz5]at hf;show ypc (Nat.beq id' id) (Q .normal σ) (Q (.exit id') σ);split at hf;rename_i e;injection hf with hf;subst hf;subst e;rw[Nat.beq_refl]
  exact hK.kn ts σ hT hk;rename_i e
  have:Nat.beq id' id=false:=by
   cases e':Nat.beq id' id with
   |false=>rfl
   |true=>exact(e (Qaj e').symm).elim
  rw[this]
  exact hK.kx id' k ts σ hf hT hk
 |.loop a,K,kl,Q,f,hF,hr,hK,hkl,hL,h=>by
  simp only[AC.at]at h
  exact zdr (c:=a) hF hr (K:={K with kn:=kl}) (Q:=yza.then (λσ=>znm P a.erase σ Q) Q) ⟨λts σ hT hk=>hkl a rfl ts σ hT hk,hK.kx,hK.kr,hK.kp⟩ (λ_ _ ts σ _ hk=>by cases hk) hL h
 |.lab l' a,K,kl,Q,f,hF,hr,hK,hkl,hL,h=>by
  simp only[AC.at]at h;split at h;rename_i e;have e:=Qaj e;subst e;injection h with h;subst h;refine⟨a,Q,by simp only[AC.site,Nat.beq_refl],λts σ hT hf =>?_⟩;unfold yq0 at hf;split at hf;rename_i b;exact znm.round (z2j hD htbl (K:={K with kn:=J l'}) (Q:=yza.then (λσ=>znm P b.erase σ Q) Q) ⟨λts σ hT hk=>hL.1 ts σ hT hk,hK.kx,hK.kr,hK.kp⟩ hL.2 hT hf);rename_i lf g p x y
  exact yo9 hD htbl hF (hr lf (.head _)) hK hL.1 hT hf;rename_i h1 h2;have:=z2j hD htbl hK hL.2 hT hf
  cases a <;> first|exact this|exact(h1 _ rfl).elim|exact(h2 _ _ _ _ _ rfl).elim
  rename_i e;obtain⟨x,Q',h1,h2⟩:=zdr (c:=a) hF hr hK (λb hb ts σ hT hk=>by subst hb;exact hL.1 ts σ hT hk) hL.2 h
  exact⟨x,Q',by simp only[AC.site,e];exact h1,h2⟩
 |.skip,K,kl,Q,f,hF,hr,hK,hkl,hL,h=>by cases h
 |.region _ _ _,K,kl,Q,f,hF,hr,hK,hkl,hL,h=>by cases h
 |.exit _,K,kl,Q,f,hF,hr,hK,hkl,hL,h=>by cases h
 |.ret,K,kl,Q,f,hF,hr,hK,hkl,hL,h=>by cases h
 |.rng _ _ _ _ _,K,kl,Q,f,hF,hr,hK,hkl,hL,h=>by cases h
 |.other _,K,kl,Q,f,hF,hr,hK,hkl,hL,h=>by cases h
end
end Go.Ab
