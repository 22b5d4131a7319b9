/-
  DEEP OWN MEMORY: loads that open; own memory that is lent.
-/
import Derived.Test.YthlmhmebajjkbaaGreatDoorLib6
import Derived.Test.YthlmhmebajjkbaaGreatDoorLib4
set_option linter.defProp false
set_option linter.unusedSectionVars false
set_option linter.unusedSimpArgs false
set_option linter.unusedVariables false
namespace Go.Ab
open Go
section
variable {P:Program}{D:Dat}{F:Fr}{ρ:List Slot}{ts:TS D.T}{σ:St}{lv:Nat}{L:List (Option yz5)}
def ynm{R:Type}(hD:D.Ok P)(g:TRr D F ρ ts σ){t s E:Nat}{i:Int}{k:TV D.T->TS D.T->Option R}{kf:Nat->Option R}{r:R}{va:V}(h:yup D P ts t s i E k kf=some r)(N:VR D ρ F.lv (.dp s i E) va) :
  (∃z v b ρ',ze4 P σ.H t va=some v∧VR D ρ' F.lv z v∧TRr D F ρ' b σ∧k z b=some r)∨∃s,kf s=some r:=by
 unfold yup at h;split at h
 ·rename_i ty q xs hh ho;split at h
  ·have⟨z,v,U,Q,O⟩:=zgw g (ρ':=ρ) (λf v _ _ _ e=>by cases e) h N;exact .inl ⟨z,v,ts,ρ,U,Q,g,O⟩
  ·rename_i f fs hf;split at h
   ·have⟨b,ρ',hg,q',j,he,cp,m,u,U,Q,O,⟨h9,h4,h5⟩,A,h7⟩:=yxo hD g h
    have⟨z,v,W,Z,Y⟩:=zgw g (ρ':=ρ') (λl v sl w I e d K x=>by
     cases e
     rw[h4]at d;cases d
     have⟨sl',C,B⟩:=g.ob s _ ho
     rw[h4]at C;cases C
     simp only[OR]at B;have⟨c1,a⟩:=B
     cases y:h9.k with
     |none=>
      rw[y]at a;have:=a.2.1;rw[h5]at this
      rcases this with q|q <;> cases q
     |some j'=>
      rw[y]at a;have⟨G,hd,fps,d1,d2,_⟩:=a
      rw[h5]at d1;injection d1 with _ X g2 _ g3 _
      subst X;subst g2
      rw[O]at d2;injection d2 with d2;injection d2 with d2;injection d2 with _ _ _ d2 _
      subst d2;rw[K]at A;replace A:w.cells[f]? = some u:=A
      rw[x]at A;cases A
      exact h7) U N
    exact .inl ⟨z,v,b,ρ',W,Z,Q,Y⟩
   ·rename_i p;have⟨n,l,c⟩:=p;split at h
    ·rename_i o;have o:l=f:=Qaj o;subst o;have⟨_,M,h⟩:=z3h h
     have hb:n=i:=by
      unfold yjp at M;split at M
      ·rename_i e;exact e
      ·cases M
     subst hb
     have⟨z,v,W,Z,Y⟩:=zgw g (ρ':=ρ) (λf2 v sl w I e d K x=>by
      cases e;have⟨sl',C,B⟩:=g.ob s _ ho
      rw[d]at C;cases C
      simp only[OR]at B;have⟨c1,a⟩:=B
      cases y:sl.k with
      |none=>rw[y]at a;cases a.2.2.2
      |some j'=>
       rw[y]at a;have⟨G,hd,fps,d1,d2,d3,d4,d5,d6,d7⟩:=a;have hc:=(d7 _ _ _ rfl).2;have⟨vs,cs,X,g2,g3,g4,g5⟩:=d6 n.toNat _ w _ (Qab hc) K (Qab (show n.toNat<fps.length by omega));subst X;replace x:vs[l]? = some I:=x;have hi:=(Qaa.1 x).1;have⟨p,hp,_⟩:=HL.zmb (D.fl q) (D.get q xs[n.toNat]) l (by omega)
       have:=g5 l p I _ hp x (Qab (show l<cs.length by omega));rw[show z2a (some (n,l,c)) n.toNat l=some c by simp[z2a]]at this;have⟨_,_,a3,h8,a4,a5⟩:=this;simp only[VR]
       exact⟨h8,a4,a5,a3⟩) h N
     exact .inl ⟨z,v,ts,ρ,W,Z,g,Y⟩
    ·exact .inr ⟨s,h⟩
 ·cases h
def VR.plk(hD:D.Ok P){x:TV D.T}{v:V}(h:VR D ρ lv x v)(b:x.pl=true)(Dm:Nat->Nat->Prop):V.kin Dm v∧∀ρ' a,VR D ρ' a x v:=by
 cases x <;> simp only[TV.pl,Bool.false_eq_true]at b
 case sl t xs d=>
  simp only[VR]at h ⊢;exact⟨h.1.kin hD Dm,λ_ _=>h⟩
 all_goals (simp only[VR]at h ⊢;subst h;exact⟨by simp[V.kin],λ_ _=>rfl⟩)
def VRL.plk(hD:D.Ok P):∀{xs:List (TV D.T)}{vs:List V},VRL D ρ lv xs vs->xs.all TV.pl=true->∀(Dm:Nat->Nat->Prop),V.zb1 Dm vs∧∀ρ' a,VRL D ρ' a xs vs
 |[],vs,h,_,Dm=>by simp only[VRL]at h ⊢;subst h;exact⟨by simp[V.zb1],λ_ _=>rfl⟩
 |x::xs,vs,h,b,Dm=>by
  simp only[VRL]at h ⊢;obtain⟨v,r,rfl,g,d⟩:=h;simp only[List.all_cons,Qag]at b;have⟨l,k⟩:=g.plk hD b.1 Dm;have⟨j,i⟩:=VRL.plk hD d b.2 Dm;exact⟨by simp only[V.zb1];exact⟨l,j⟩,λρ' a=>⟨v,r,rfl,k _ _,i _ _⟩⟩
def z04g(hD:D.Ok P)(y:TRr D F ρ ts σ){s:Nat}{v:V}(h:VR D ρ F.lv (.own s) v):∃u,VS σ.H (λ_ _=>False) v u∧∀ρ' I,VR D ρ' I (TV.see D ts (.own s)) u:=by
 have O:=zto σ.H y.lv y.E;simp only[VR]at h;obtain⟨sl,Q,rfl,Y⟩:=h;unfold TV.see;split
 ·rename_i ty t xs w C;obtain⟨sl',g,z⟩:=y.ob s _ C
  rw[Q]at g;injection g with g;subst g
  simp only[OR]at z;obtain⟨B,A,p⟩:=z;have K:DR D (.sl t) xs (.sl (D.len t) sl.ws false):=.sl t xs sl.ws false B A
  cases M:sl.k with
  |none=>
   rw[M]at p
   rcases p with ⟨l,m⟩|⟨⟨l,_⟩,_⟩
   ·rw[l];have:xs=[]:=Qao (by rw[<-B,m];rfl);subst this;exact⟨.nils,.keep _ (by simp[V.kin]),λ_ _=>by simp only[VR];exact⟨.nil t,by omega,by omega⟩⟩
   ·rw[l];have j:DR D (.sl t) xs (.sl (D.len t) sl.ws true):=.sl t xs sl.ws true B A
    exact⟨_,.keep _ (j.kin hD _),λ_ _=>by simp only[VR];exact⟨j,by omega,by omega⟩⟩
  |some i=>
   rw[M]at p;obtain⟨G,U,l,m⟩:=p;rw[l];refine⟨.sl (D.len t) sl.ws false,?_,λ_ _=>by simp only[VR];exact⟨K,by omega,by omega⟩⟩;rw[O];refine .hs _ i G ty (D.len t) 0 _ false sl.ws sl.ws U rfl ?_ rfl (λn w u d o =>?_) λn w u c a b d o N x =>?_
   ·show(if F.lv=F.lv then (σ.H.L[i]?).join else _)=_;rw[Qbx rfl,m];rfl
   ·rw[Nat.zero_add,o]at d;injection d with d;subst d;rfl
   ·rw[Nat.zero_add,o]at d;injection d with d;subst d
    rw[N]at x;injection x with x;subst x
    have X:=(Qaa.1 o).1;exact .keep _ (zbe (zt0 ((A n _ u (Qab (show n<xs.length by omega)) o).kin hD _)) c a N)
 ·rename_i ty q xs C;obtain⟨sl',g,z⟩:=y.ob s _ C
  rw[Q]at g;injection g with g;subst g
  obtain⟨u,l,m⟩:=(you z).see (E:=F.E) hD;rw[<-O]at m;exact⟨u,m,λ_ _=>by simp only[VR];exact⟨l,by omega,by omega⟩⟩
 ·exact⟨.any,.any _,λ_ _=>by simp only[VR]⟩
mutual
def ywu(hD:D.Ok P)(m:TRr D F ρ ts σ):∀{x:TV D.T}{v:V},VR D ρ F.lv x v->∃u,VS σ.H (λ_ _=>False) v u∧∀ρ' d,VR D ρ' d (TV.see D ts x) u
 |.own s,v,h=>z04g hD m h
 |.agg cs,v,h=>by
  simp only[VR]at h;obtain⟨vs,rfl,h⟩:=h;have⟨l,g,j⟩:=y2x hD m h
  exact⟨.agg l,.agg _ _ g.length g.get,λρ' d=>by simp only[TV.see,VR];exact⟨l,rfl,j _ _⟩⟩
 |.fn f a b,v,h=>by
  unfold TV.see;split
  ·rename_i i;simp only[Qag]at i;simp only[VR]at h;obtain⟨q,bs,rfl,g,j⟩:=h;have⟨y,w⟩:=g.plk hD i.1 (λ_ _=>False);have⟨p,o⟩:=j.plk hD i.2 (λ_ _=>False);exact⟨_,.keep _ (by simp only[V.kin];exact⟨y,p⟩),λ_ _=>by simp only[VR];exact⟨q,bs,rfl,w _ _,o _ _⟩⟩
  ·exact⟨.any,.any _,λ_ _=>by simp only[VR]⟩
 |.sl t xs z,v,h=>by
  simp only[VR]at h
  exact⟨v,.keep _ (h.1.kin hD _),λ_ _=>by simp only[TV.see,VR];exact⟨h.1,by omega,by omega⟩⟩
 |.bool b,v,h=>⟨v,.keep _ (h.plk hD rfl _).1,λ_ _=>by simpa only[TV.see]using(h.plk hD rfl (λ_ _=>False)).2 _ _⟩
 |.int k n,v,h=>⟨v,.keep _ (h.plk hD rfl _).1,λ_ _=>by simpa only[TV.see]using(h.plk hD rfl (λ_ _=>False)).2 _ _⟩
 |.str b,v,h=>⟨v,.keep _ (h.plk hD rfl _).1,λ_ _=>by simpa only[TV.see]using(h.plk hD rfl (λ_ _=>False)).2 _ _⟩
 |.nilp,v,h=>⟨v,.keep _ (h.plk hD rfl _).1,λ_ _=>by simpa only[TV.see]using(h.plk hD rfl (λ_ _=>False)).2 _ _⟩
 |.nils,v,h=>⟨v,.keep _ (h.plk hD rfl _).1,λ_ _=>by simpa only[TV.see]using(h.plk hD rfl (λ_ _=>False)).2 _ _⟩
 |.mapn,v,h=>⟨v,.keep _ (h.plk hD rfl _).1,λ_ _=>by simpa only[TV.see]using(h.plk hD rfl (λ_ _=>False)).2 _ _⟩
 |.nilf,v,h=>⟨v,.keep _ (h.plk hD rfl _).1,λ_ _=>by simpa only[TV.see]using(h.plk hD rfl (λ_ _=>False)).2 _ _⟩
 |.nili,v,h=>⟨v,.keep _ (h.plk hD rfl _).1,λ_ _=>by simpa only[TV.see]using(h.plk hD rfl (λ_ _=>False)).2 _ _⟩
 |.any,v,h=>⟨.any,.any _,λ_ _=>by simp only[TV.see,VR]⟩
 |.osl _ _,v,h=>⟨.any,.any _,λ_ _=>by simp only[TV.see,VR]⟩
 |.ptr _ _,v,h=>⟨.any,.any _,λ_ _=>by simp only[TV.see,VR]⟩
 |.bp _ _,v,h=>⟨.any,.any _,λ_ _=>by simp only[TV.see,VR]⟩
 |.ref _ _,v,h=>⟨.any,.any _,λ_ _=>by simp only[TV.see,VR]⟩
 |.ap _ _ _ _ _,v,h=>⟨.any,.any _,λ_ _=>by simp only[TV.see,VR]⟩
 |.map _,v,h=>⟨.any,.any _,λ_ _=>by simp only[TV.see,VR]⟩
 |.mc _ _,v,h=>⟨.any,.any _,λ_ _=>by simp only[TV.see,VR]⟩
 |.iface _ _,v,h=>⟨.any,.any _,λ_ _=>by simp only[TV.see,VR]⟩
 |.tup _,v,h=>⟨.any,.any _,λ_ _=>by simp only[TV.see,VR]⟩
 |.dp _ _ _,v,h=>⟨.any,.any _,λ_ _=>by simp only[TV.see,VR]⟩
 |.bsl _ _,v,h=>⟨.any,.any _,λ_ _=>by simp only[TV.see,VR]⟩
def y2x(hD:D.Ok P)(d:TRr D F ρ ts σ):∀{xs:List (TV D.T)}{vs:List V},VRL D ρ F.lv xs vs->∃a,VSL σ.H (λ_ _=>False) vs a∧∀ρ' b,VRL D ρ' b (TV.yxf D ts xs) a
 |[],vs,h=>by
  simp only[VRL]at h;subst h
  exact⟨[],.nil,λ_ _=>by simp only[TV.yxf,VRL]⟩
 |x::xs,vs,h=>by
  simp only[VRL]at h;obtain⟨v,r,rfl,i,g⟩:=h;have⟨u,m,l⟩:=ywu hD d i;have⟨a,k,j⟩:=y2x hD d g;exact⟨u::a,.cons m k,λρ' b=>by simp only[TV.yxf,VRL];exact⟨u,a,rfl,l _ _,j _ _⟩⟩
end
def z04d{t:DTy}(h:t.flat=true){x:t.S D.T}{v:V}(a:VR D ρ lv (D.tv t x) v):VFl v:=by
 cases t <;> simp only[DTy.flat,Bool.false_eq_true]at h
 ·simp only[Dat.tv,VR]at a;subst a;exact .bool _
 ·simp only[Dat.tv,VR]at a;subst a;exact .int _ _
 ·simp only[Dat.tv,VR]at a;subst a;exact .str _
def yp0:∀(l:List Sh) {y:HL D.T (Sh.z45 l)}{vs:List V},l.all Sh.z00e=true->VRL D ρ lv (z41 D (λk=>k) l y) vs->∀v∈vs,VFl v
 |[],y,vs,_,h,v,hm=>by
  replace h:VRL D ρ lv [] vs:=h
  simp only[VRL]at h;subst h;cases hm
 |sh::l,y,vs,a,h,v,hm=>by
  simp only[List.all_cons,Qag]at a;replace h:VRL D ρ lv (zmd D (λk=>k) sh (HL.fst _ y)::z41 D (λk=>k) l (HL.snd _ y)) vs:=h;simp only[VRL]at h;obtain⟨u,r,rfl,b,g⟩:=h
  rcases Qbl.1 hm with rfl|hm
  ·cases sh <;> simp only[Sh.z00e,Bool.false_eq_true]at a <;> first|exact a.1.elim|skip
   case d t=>
    replace b:VR D ρ lv (D.tv t (HL.fst _ y).1) v:=b;exact z04d a.1 b
  ·exact yp0 l a.2 g v hm
def z00f{vs:List V}(h:∀v∈vs,VFl v):VFl (ze6 vs):=by
 unfold ze6;split
 ·exact h _ (Qbc.2 rfl)
 ·exact .tup _ λj v a=>h v (Qax a)
def zvf{R:Type}(hD:D.Ok P)(d:TRr D F ρ ts σ){f:Nat}{vs:List (TV D.T)}{vargs:List V}{k:TV D.T->TS D.T->Option R}{n:Option R}{r:R}(g:VRL D ρ F.lv vs vargs):∀{tbl:List (Ent D)},(∀e∈tbl,e.Ok P)->yyc D f vs ts k n tbl=some r ->
  (∃m z,y4b P f vargs σ.H m σ.H∧VR D ρ F.lv z m∧k z ts=some r)∨n=some r
 |[],_,h=>.inr h
 |e::tbl,htbl,h=>by
  simp only[yyc]at h;split at h
  ·rename_i o;simp only[Qag]at o;have⟨⟨j,C⟩,B⟩:=o;have j:=Qaj j;subst j;split at h
   ·rename_i s b;have⟨M,x⟩:=s;have a:=htbl e Qak _ _ _ _ _ h;rw[C]at a;have⟨y,u,A,K,I,w⟩:=a;have⟨q,G,E⟩:=y2x hD d g;have⟨_,p,d1,d2,d3,d4,d5⟩:=Ent.zni hD d (E ρ F.lv) b;have l:p=[]:=Qao (by rw[d1,A];rfl);rw[l]at d4;have⟨ws,f1,f2⟩:=w F.lv q d4
    refine .inl ⟨ze6 ws,_,yn8 f2 G (z00f (yp0 e.outs B (f1 [] F.lv))),VR.ye1 hD (f1 _ _),u⟩
   ·exact zvf hD d g (λe i=>htbl e (Qai _ i)) h
  ·exact zvf hD d g (λe i=>htbl e (Qai _ i)) h
end
section
variable {P:Program}{D:Dat}{F:Fr}{ρ:List Slot}{ts:TS D.T}{σ:St}{lv:Nat}
variable (hD:D.Ok P)
include hD
omit hD in
theorem yxc{T:Nat->Type}{nx:Nat}{a b:Option (TV T)}(h:¬appW nx a b=none):appW nx a b=some nx∧∀q,a≠some (.own q):=by
 unfold appW at h ⊢;split at h
 ·exact(h rfl).elim
 ·exact⟨rfl,λq e=>by cases e⟩
 ·exact⟨rfl,λq e=>by cases e⟩
 ·exact(h rfl).elim
omit hD in
theorem yxu{ops:Array Oper}{k:Nat}{σ τ:St}{Q:kze->St->Prop}(d:zwk σ τ)(h:zfh P ops k τ Q):zfh P ops k σ Q:=λW0 g0 H0 W a g b i j=>by
 have⟨g',m,l⟩:=d W0 g0 H0 W a g b i j;exact h W0 g0 H0 W a g' b m l
omit hD in
theorem zla{ops:Array Oper}{k:Nat}{o:Oper}(b:ops[k]? = some o):(ops.toList.drop k).take 1=[o]:=by
 have g:k<ops.size:=by
  rcases Nat.lt_or_ge k ops.size with q|q
  ·exact q
  ·rw[Array.getElem?_eq_none q]at b;cases b
 have a:k<ops.toList.length:=by simpa using g
 rw[<-Qah (h:=a)]
 have:ops.toList[k]=o:=by
  have d:ops.toList[k]? = some o:=by simpa using b
  rw[Qab a]at d;injection d
 simp[this]
omit hD in
theorem yml{ops:Array Oper}{k:Nat}{σ:St}{Q:kze->St->Prop}{o:Oper}{v:V}{H':Heap}(d:ops[k]? = some o)(b:z08 ops σ o=some true)(a:ox P σ.H σ.ev o.op=some (v,H'))(h:zfh P ops (k+1) ({σ with H:=H'}.put o.dst v) Q):zfh P ops k σ Q :=
 zyw 1 [] ({σ with H:=H'}.put o.dst v) [] (by rw[zla d];simp[y2f,b,a]) zvm h
omit hD in
theorem yx2{ops:Array Oper}{k:Nat}{σ:St}{Q:kze->St->Prop}{o:Oper}(b:ops[k]? = some o)(a:z08 ops σ o=some false)(h:zfh P ops (k+1) (σ.put o.dst (.tup [])) Q):zfh P ops k σ Q :=
 zyw 1 [] (σ.put o.dst (.tup [])) [] (by rw[zla b];simp[y2f,a]) zvm h
omit hD in
theorem ysy{ops:Array Oper}{k:Nat}{σ:St}{Q:kze->St->Prop}{o:Oper}{c:Call}{f:Nat}{args:List V}{v:V}(l:ops[k]? = some o)(i:z08 ops σ o=some true)(a:o.op = .call c)(d:∃x,c.callee = .value x)(j:target σ.ev c=some (f,args))(m:y4b P f args σ.H v σ.H)
  (h:zfh P ops (k+1) (σ.put o.dst v) Q):zfh P ops k σ Q:=by
 refine zyw 1 [(v,none)] (σ.put o.dst v) [⟨f,args,σ.H,v,σ.H⟩] ?_ (zpx m zvm) h;have⟨x,g⟩:=d;have b:ox P σ.H σ.ev o.op=none:=by rw[a];simp only[ox,g,zcx,Option.map_none]
 rw[zla l];rw[a]at b;simp only[y2f,i,if_true,a,b,j,Option.getD_none]
omit hD in
theorem yuv{ops:Array Oper}{k:Nat}{σ:St}{Q:kze->St->Prop}{o:Oper}{c:Call}{f:Nat}{args:List V}{v:V}(l:ops[k]? = some o)(i:z08 ops σ o=some true)(a:o.op = .call c)(d:∃x,c.callee = .value x)(j:target σ.ev c=some (f,args))(m:zw3 P f args v)
  (h:zfh P ops (k+1) (σ.put o.dst v) Q):zfh P ops k σ Q:=by
 refine zyw 1 [(v,none)] (σ.put o.dst v) [⟨f,args,σ.H,v,σ.H⟩] ?_ (zpx (m σ.H) zvm) h;have⟨x,g⟩:=d;have b:ox P σ.H σ.ev o.op=none:=by rw[a];simp only[ox,g,zcx,Option.map_none]
 rw[zla l];rw[a]at b;simp only[y2f,i,if_true,a,b,j,Option.getD_none]
omit hD in
def zxe(ops:Array Oper)(ts:TS D.T)(o:Oper):Prop:=o.guard=none∨∃j want d,o.guard=some (j,want)∧(ops[j]?).bind (·.dst)=some d∧fnd ts.t d=some (.bool want)
omit hD in
theorem TRr.tmp(a:TRr D F ρ ts σ){d:Nat}{x:TV D.T}(h:fnd ts.t d=some x):VR D ρ F.lv x (σ.t.getD d .any):=a.ev (o:=.tmp d) h
omit hD in
theorem zxe.wanted(a:TRr D F ρ ts σ){ops:Array Oper}{o:Oper}(h:zxe ops ts o):z08 ops σ o=some true:=by
 unfold z08
 rcases h with h|⟨j,want,d,i,g,b⟩
 ·rw[h]
 ·have:=a.tmp b;simp only[VR]at this;rw[i];simp only[g,this,beq_self_eq_true]
omit hD in
theorem zxe.freeze{ops:Array Oper}{o:Oper}(h:zxe ops ts o){s:Nat}{b:TS D.T}(a:ts.freeze D s=some b):zxe ops b o:=by
 rcases h with h|⟨j,want,d,l,k,g⟩
 ·exact .inl h
 ·refine .inr ⟨j,want,d,l,k,?_⟩;unfold TS.freeze at a;split at a
  ·rename_i ty t xs w _ i;cases a;simp only[TS.zeb];rw[znf (TV.frz D s false (.sl t xs 0)),g];rfl
  ·rename_i ty q xs _ i;cases a;simp only[TS.zeb];rw[znf (TV.frz D s false (.sl (.st q) xs 0)),g];rfl
  ·rename_i ty t es _ i;split at a
   case isFalse=>cases a
   cases a;simp only[TS.zeb];rw[znf (TV.frz D s true (.mc t es)),g];rfl
  ·cases a
omit hD in
theorem zxe.ren{ops:Array Oper}{o:Oper}{a:TS D.T}(h:zxe ops ts o){s b:Nat}(g:a.t=ts.t.map λp=>(p.1,TV.ren D s b p.2)):zxe ops a o:=by
 rcases h with h|⟨j,want,d,l,k,i⟩
 ·exact .inl h
 ·refine .inr ⟨j,want,d,l,k,?_⟩;rw[g,znf (TV.ren D s b),i];rfl
omit hD in
theorem y0a(g:TRr D F ρ ts σ){c:Call}{x:Operand}{f:Nat}{a b vs:List (TV D.T)}(h:c.callee = .value x)(j:ts.ev x=some (.fn f a b))(i:ts.evs c.args.toList=some vs):∃args,target σ.ev c=some (f,args)∧VRL D ρ F.lv (a++vs++b) args:=by
 have d:=g.ev j;simp only[VR]at d;have⟨n,bs,m,l,k⟩:=d;exact⟨n++c.args.toList.map σ.ev++bs,by simp only[target,h,m],(l.append (g.evs i)).append k⟩
variable {tbl:List (Ent D)}
omit hD in
theorem ydg{W:World}{a:Act}{g:Gh}{c:Call}{f:Nat}{args:List V}{ty:TypeId}(j:∀x,Rel W g σ.H (σ.ev x) (a.eval x))(h:target σ.ev c=some (f,args)) :
  ∃b l,zlt W g σ.H args (l++b)∧∀w:World,(resolve a.eval c ty).run P w = .ok ⟨.fn (.func f) b,l⟩ w:=by
 unfold target at h;split at h
 ·rename_i k s;split at h
  ·rename_i z first b q;cases h;have d:=j k;rw[q]at d;generalize i:a.eval k=y at d
   cases d with
   |fn _ _ _ u cs p o n m=>
    refine⟨cs,u++c.args.map a.eval,zq6 (zq6 ⟨p,n⟩ (zws j c.args)) ⟨o,m⟩,λw =>?_⟩;simp[resolve,s,i,Deferred.ofValue]
  ·cases h
 ·cases h
omit hD in
theorem yp9{ops:Array Oper}{k:Nat}{σ:St}{Q:kze->St->Prop}{o:Oper}{c:Call}{f:Nat}{args:List V}(l:ops[k]? = some o)(z:z08 ops σ o=some true)(p:o.op = .defer c)(A:target σ.ev c=some (f,args))
  (h:zfh P ops (k+1) ({σ with d:=(f,args)::σ.d}.put o.dst .any) Q):zfh P ops k σ Q:=λW0 g0 H0 W a g G C i=>by
 have K:k<ops.size:=by
  rcases Nat.lt_or_ge k ops.size with q|q
  ·exact q
  ·rw[Array.getElem?_eq_none q]at l;cases l
 rw[show ops.size-k=(ops.size-(k+1))+1 by omega,List.range'_succ];simp only[wpOps,l];rw[z0z i z,Qbx rfl];left;unfold Oper.wp;have⟨b,n,y,x⟩:=ydg (P:=P) (ty:=o.type) i.ev A
 have s:(execOp a.eval o).run P W = .ok (.defer ⟨.fn (.func f) b,n⟩) W:=by
  unfold execOp;rw[p];simp[x W]
 rw[s]
 have w:kzu W {a with defers:=⟨.fn (.func f) b,n⟩::a.defers} g {σ with d:=(f,args)::σ.d}:=by
  refine⟨i.good,i.size,i.tmps,by simp[i.dlen],λj I vs m =>?_⟩
  cases j with
  |zero=>simp at m;obtain⟨rfl,rfl⟩:=m;exact⟨b,n,rfl,y⟩
  |succ j=>exact i.defs j I vs (by simpa using m)
 have u:=w.next (.refl _ _ _) i.good (.any undef) o.dst;have E:({σ with d:=(f,args)::σ.d}.put o.dst .any).H=σ.H:=by cases o.dst <;> rfl
 have B:({σ with d:=(f,args)::σ.d}.put o.dst .any).e0=σ.e0:=by cases o.dst <;> rfl
 exact h W0 g0 H0 W _ g G (by rw[E,B];exact C) u
omit hD in
theorem zl6{ops:Array Oper}{k:Nat}{σ:St}{Q:kze->St->Prop}{o:Oper}{v:V}{H':Heap}(i:ops[k]? = some o)(m:z08 ops σ o=some true)
  (n:∀W a g,kzu W a g σ->z9v P W g σ.H (execOp a.eval o) v H') (h:zfh P ops (k+1) ({σ with H:=H'}.put o.dst v) Q):zfh P ops k σ Q:=λW0 g0 H0 W a g w l j=>by
 have z:k<ops.size:=by
  rcases Nat.lt_or_ge k ops.size with q|q
  ·exact q
  ·rw[Array.getElem?_eq_none q]at i;cases i
 rw[show ops.size-k=(ops.size-(k+1))+1 by omega,List.range'_succ];simp only[wpOps,i];rw[z0z j m,Qbx rfl];left;unfold Oper.wp;have⟨c,W',g',b,h2,y,x⟩:=n W a g j;have p:=j.next h2 y x o.dst;have u:({σ with H:=H'}.put o.dst v).H=H':=by cases o.dst <;> rfl
 have s:({σ with H:=H'}.put o.dst v).e0=σ.e0:=by cases o.dst <;> rfl
 have d:=h W0 g0 H0 W' (a.put o.dst c) g' w (by rw[u,s];exact⟨l.1,l.2.trans h2⟩) p
 rcases b with b|⟨b,rfl⟩
 ·rw[b];exact d
 ·rw[b];exact d
omit hD in
theorem TRr.defer(a:TRr D F ρ ts σ){f:Nat}{xs:List (TV D.T)}{args:List V}(h:VRL D ρ F.lv xs args):TRr D F ρ {ts with d:=(f,xs)::ts.d} {σ with d:=(f,args)::σ.d} :=
 ⟨a.nx,a.nt,a.tm,a.ob,a.inj,a.mine,a.lv,a.E,a.e0,⟨args,σ.d,rfl,h,a.d⟩,a.out,a.pin,a.fpl,a.g⟩
omit hD in
theorem yjz:∀(xs:List Int) (ws:List V),ws.length=xs.length->(∀(j:Nat) (x:Int) (w:V),xs[j]? = some x->ws[j]? = some w->DR D (.int .u8) x w)->zx4 ws=ysl xs
 |[],ws,a,h=>by obtain rfl:ws=[]:=Qao a;rfl
 |x::xs,[],a,h=>by simp at a
 |x::xs,w::ws,a,h=>by
  have i:=h 0 x w rfl rfl;have b:=yjz xs ws (by simpa using a) λj y u d g=>h (j+1) y u (by simpa using d) (by simpa using g)
  cases i;simp only[zx4,ysl,b]
  cases x with
  |ofNat m=>cases ysl xs <;> rfl
  |negSucc m=>cases ysl xs <;> rfl
omit hD in
theorem yy0{α:Type}(es:List α):es.Perm (((List.range es.length).filter λq => !([]:List Nat).contains q).filterMap λq=>es[q]?):=by
 have k:((List.range es.length).filter λq => !([]:List Nat).contains q)=List.range es.length:=by simp
 rw[k]
 have j:(List.range es.length).filterMap (λq=>es[q]?)=es:=by
  apply List.ext_getElem?;intro n
  have:∀(l:List Nat),(∀q∈l,q<es.length)->(l.filterMap λq=>es[q]?)[n]? = (l[n]?).bind λq=>es[q]? := by
   intro l
   induction l generalizing n with
   |nil=>simp
   |cons a l h=>
    intro d;have g:=d a (by simp);rw[List.filterMap_cons,Qab g]
    cases n with
    |zero=>simp[g]
    |succ n=>simpa using h n λq i=>d q (by simp[i])
  rw[this _ (by simp)];by_cases b:n<es.length
  ·simp[b]
  ·simp[b]
 rw[j]
omit hD in
theorem yxt{α:Type}{es b:List α}{a:List Nat}{j:Nat}{p:α}(h:es.Perm (((List.range b.length).filter λq => !a.contains q).filterMap λq=>b[q]?))(u:b[j]? = some p)(w:j∉a) :
  ∃m:Nat,es[m]? = some p∧(es.eraseIdx m).Perm (((List.range b.length).filter λq => !(a++[j]).contains q).filterMap λq=>b[q]?):=by
 have o:=(Qaa.1 u).1;have k:j∈(List.range b.length).filter λq => !a.contains q:=by simp[o,w]
 have n:((List.range b.length).filter λq => !a.contains q).Nodup:=List.nodup_range.filter _
 have x:((List.range b.length).filter λq => !(a++[j]).contains q)=((List.range b.length).filter λq => !a.contains q).erase j:=by
  rw[n.erase_eq_filter,List.filter_filter];refine List.filter_congr λq _ =>?_
  by_cases e:q=j
  ·subst e;simp
  ·simp[e,bne]
 have s:=(List.perm_cons_erase k).filterMap λq=>b[q]?
 rw[List.filterMap_cons,u]at s;have g:=h.trans s;have d:p∈es:=g.mem_iff.2 (by simp);have⟨m,d⟩:=List.mem_iff_getElem?.1 d;refine⟨m,d,?_⟩;rw[x];have i:=(Qaa.1 d).1
 have z:es.Perm (p::es.eraseIdx m):=by
  have l:es[m]=p:=by have:=d;rw[Qab i]at this;injection this
  have y:es=es.take m++p::es.drop (m+1):=by
   conv=>lhs;rw[<-List.take_append_drop m es]
   rw[List.drop_eq_getElem_cons i,l]
  rw[List.eraseIdx_eq_take_drop_succ]
  conv=>lhs;rw[y]
  exact List.perm_middle
 exact(List.perm_cons p).1 (z.symm.trans g)
omit hD in
theorem ywg{α R:Type}{es:List (B8×α)}{f:B8->α->List (B8×α)->Option R}{g:Option R}{r:R}(h:y82 es f g=some r)(a:es=[]):g=some r:=by
 subst a;exact h
omit hD in
theorem yw3{α R:Type}{es:List (B8×α)}{f:B8->α->List (B8×α)->Option R}{g:Option R}{r:R}(h:y82 es f g=some r)(m:Nat)(p:B8×α)(a:es[m]? = some p):f p.1 p.2 (es.eraseIdx m)=some r:=by
 cases es with
 |nil=>simp at a
 |cons e l=>
  simp only[y82]at h;split at h
  ·rename_i b;injection h with h;rw[<-h];exact b.choose_spec m p a
  ·cases h
omit hD in
theorem z02v{α R:Type}{es:List (B8×α)}{f:B8->α->List (B8×α)->Option R}{g:Option R}{r:R}(h:es=[]->g=some r)(d:∀(m:Nat) (p:B8×α),es[m]? = some p->f p.1 p.2 (es.eraseIdx m)=some r):y82 es f g=some r:=by
 cases es with
 |nil=>exact h rfl
 |cons e l=>
  have b:∃z,∀i p,(e::l)[i]? = some p->f p.1 p.2 ((e::l).eraseIdx i)=some z:=⟨r,d⟩;simp only[y82];rw[dif_pos b];have a:=b.choose_spec 0 e rfl;rw[d 0 e rfl]at a;exact a.symm
omit hD in
theorem VR.z00c{t:DTy}(a:t.flat=true)(x:t.S D.T):VR D ρ lv (D.leaf t x) (ya6 t x).v:=by
 cases t <;> first|(cases a;done)|(simp only[Dat.leaf,VR];rfl)
theorem zvl{R:Type}{ops:Array Oper}{n:Nat}{o:Oper}{Q:kze->St->Prop}{k kp:TV D.T->TS D.T->Option R}{r:R}(X:ops[n]? = some o)(htbl:∀e∈tbl,e.Ok P)
  (Y:∀z w σ' ρ' v,TRr D F ρ' w σ'->VR D ρ' F.lv z v->k z w=some r->zfh P ops (n+1) (σ'.put o.dst v) Q)
  (h8:∀z w σ' ρ' v,TRr D F ρ' w σ'->VR D ρ' F.lv z v->kp z w=some r->Q (.panic v) σ'):∀(fuel:Nat) {ts:TS D.T}{σ:St}{ρ:List Slot},TRr D F ρ ts σ->zxe ops ts o->yfo P D tbl o.op k kp fuel ts=some r->zfh P ops n σ Q
 |0,ts,σ,ρ,l,M,h=>by simp[yfo]at h
 |fuel+1,ts,σ,ρ,l,M,h=>by
  have A:∀s,(match isHole ts s with|true=>ts.fold D (yb6 9 ts s) (λw=>yfo P D tbl o.op k kp fuel w)|false=>(match ts.freeze D s with|some w=>yfo P D tbl o.op k kp fuel w|none=>none))=some r->zfh P ops n σ Q:=λs C=>by
   cases h6:isHole ts s with
   |true=>
    rw[h6]at C;have⟨w,ρ',O,N,h3,_⟩:=yd6 hD l C
    exact zvl X htbl Y h8 fuel O (M.ren h3) N
   |false=>
   rw[h6]at C
   cases hf:ts.freeze D s with
   |none=>rw[hf]at C;cases C
   |some w=>
    rw[hf]at C;have⟨τ,O,N⟩:=y4w hD l hf;exact yxu O (zvl X htbl Y h8 fuel N (M.freeze hf) C)
  have I:∀{kf:Nat->Option R},(∀s,kf s=some r->zfh P ops n σ Q)->tOp P D ts o.op k kf=some r->zfh P ops n σ Q:=λ{kf} A h=>by
   rcases yko hD l h with ⟨z,w,v,H',ρ',O,N,h3,h4⟩|⟨s,C⟩
   ·exact yml X (M.wanted l) O (Y z w _ ρ' v h3 N h4)
   ·exact A s C
  unfold yfo at h;simp only at h;split at h
  ·rename_i t a B;split at h
   ·rename_i s i ke ha
    rcases ynm hD l h (l.ev ha)with ⟨z,v,w,ρ',O,N,h3,h4⟩|⟨s,C⟩
    ·exact yml X (M.wanted l) (by rw[B];exact ypw (op:=.load t a) O) (Y z w σ ρ' v h3 N h4)
    ·exact A s C
   ·exact I A h
  ·rename_i c B;split at h
   ·rename_i x K;split at h
    ·rename_i f a b vs U h9;have⟨args,t1,t2⟩:=y0a l K U h9
     have h7:zw2 D f (a++vs++b) ts k kp _ tbl=some r->zfh P ops n σ Q:=λh=>by
      rcases zlq hD l t2 htbl h with ⟨_,kd,O,N,h3⟩|⟨rv,O,z,ρ',w,N,h3,h4,_⟩|⟨s,C⟩
      ·refine yyd X (M.wanted l) B t1 O (λrv H' hp =>?_) λv H' hp =>?_
       ·have⟨z,w,ρ',k1,k2,k3⟩:=N rv H' hp;exact Y z w _ ρ' rv k2 k1 k3
       ·have⟨z,w,ρ',k1,k2,k3⟩:=h3 v H' hp;exact h8 z w _ ρ' v k2 k1 k3
      ·exact yuv X (M.wanted l) B ⟨x,K⟩ t1 O (Y z w σ ρ' rv h3 (N _) h4)
      ·exact A s C
     split at h
     ·split at h
      ·rename_i s _;exact A s h
      ·rcases zvf hD l t2 htbl h with ⟨rv,z,O,N,h3⟩|h
       ·exact ysy X (M.wanted l) B ⟨x,K⟩ t1 O (Y z ts σ ρ rv l N h3)
       ·exact h7 h
     ·exact h7 h
    ·cases h
   ·exact I A h
  ·rename_i x B;split at h
   ·rename_i t v U;have G:=l.ev U;simp only[VR]at G;have⟨u,e1,e2⟩:=G;exact ytj X (M.wanted l) B e1 (h8 _ ts σ ρ _ l (by simp only[VR];exact⟨u,rfl,e2⟩) h)
   ·cases h
  ·rename_i c B;split at h
   ·rename_i x K;split at h
    ·rename_i f a b vs U h9;have⟨args,t1,t2⟩:=y0a l K U h9;exact yp9 X (M.wanted l) B t1 (Y .any _ _ ρ .any (l.defer t2) (by simp only[VR]) h)
    ·cases h
   ·cases h
  ·rename_i bo t x y ty B;split at h
   ·rename_i U hy;split at h
    ·rename_i hi hu;have O:=l.ev U;have N:=l.ev hy;simp only[VR]at O N
     have zha:∀{b:Bool},y6e P bo t x y .nili .nili=some (.bool b)->k (.bool b) ts=some r->zfh P ops n σ Q:=λ{b} hb ka=>by
      refine zl6 X (M.wanted l) (λW a g hG=>zw0 hG.good hG.ev (v:=.bool b) (H':=σ.H) ?_) (Y (.bool b) ts _ ρ (.bool b) l (by simp only[VR]) ka);rw[B];simp only[zsg,hEq2,O,N,hb,Qbr]
     split at h
     ·exact zha (by simp only[y6e,hi,hu]) h
     ·exact zha (by simp only[y6e,hi,hu]) h
     ·cases h
    ·cases h
   ·exact I A h
  ·rename_i t B;split at h
   ·rename_i i hz hi;split at h
    ·rename_i hb;simp only[Qag]at hb;have k6:i.size=2:=Qaj hb.2
     have hm:zsg P σ.H σ.ev o.op=some (.ap σ.H.lv σ.H.L.length 0 0 0,σ.H.push (.arr 0 t 2 [.agg [.nilp,.nils]] (some 1))):=by
      rw[B];simp only[zsg,hb.1,yb9,hz,hi,k6];rfl
     refine zl6 X (M.wanted l) (λW a g hG=>zw0 hG.good hG.ev hm) (Y (.bp ts.nx 0) _ _ (ρ++[⟨.any,some σ.H.L.length,[],[]⟩]) _ ?_ ?_ h)
     ·refine l.new _ _ _ l.lv l.E (by simp[Heap.push]) (λi hi=>by simp only[Heap.push];rw[Qal hi]) (λi hi=>by injection hi with hi;omega) ?_;simp only[OR];exact⟨σ.H.L.length,.nilp,.nils,rfl,by simp[Heap.push],.inl rfl,by simp only[yng,VR]⟩
     ·simp only[VR];exact⟨⟨.any,some σ.H.L.length,[],[]⟩,σ.H.L.length,by rw[<-l.nx];simp,rfl,by rw[l.lv]⟩
    ·exact I A h
   ·exact I A h
  ·rename_i s d x B;split at h
   ·rename_i xs fl U;split at h
    ·rename_i e hr k5;split at h
     ·rename_i k4;have⟨y,hy,h⟩:=z3h h;have G:=l.ev U;simp only[VR]at G
      have C:hStr P s d (σ.ev x)=some (.str y):=by
       unfold hStr;rw[hr,k5];simp only[k4];have⟨G,_⟩:=G;generalize σ.ev x=u at G
       cases G with
       |nil=>simp only[ysl,Qbu]at hy;subst hy;rfl
       |sl _ _ ws full hl hh=>
        simp only[Dat.len];rw[yjz xs ws hl hh,hy];rfl
      refine zl6 X (M.wanted l) (λW a g hG =>?_) (Y (.str y) ts _ ρ (.str y) l (by simp only[VR]) h);have h5:=hG.ev x;unfold execOp;rw[B];exact ydz hG.good C h5
     ·cases h
    ·cases h
   ·exact I A h
  ·rename_i t x B;split at h
   ·exact A _ h
   ·rename_i τ es U;split at h
    ·rename_i kt vt ht;have G:=l.ev U;unfold VR at G;have⟨kb,G⟩:=G;refine zl6 (v:=.ptr σ.H.lv σ.H.L.length 0) (H':=σ.H.push (.mit (es.map λp=>(.str p.1,ya6 τ p.2)) [])) X (M.wanted l) (λW a g hG =>?_) (Y (.ptr ts.nx 0) _ _ (ρ++[⟨.any,some σ.H.L.length,[],[]⟩]) _ ?_ ?_ h)
     rotate_left
     ·refine l.new _ _ _ l.lv l.E (by simp[Heap.push]) (λi hi=>by simp only[Heap.push];rw[Qal hi]) (λi hi=>by injection hi with hi;omega) ?_;simp only[OR];refine⟨σ.H.L.length,es,[],rfl,kb,by simp[Heap.push],by simp,?_,λp hp=>by cases hp⟩;exact yy0 es
     ·simp only[VR];exact⟨⟨.any,some σ.H.L.length,[],[]⟩,σ.H.L.length,by rw[<-l.nx];simp,rfl,by rw[l.lv]⟩
     ·have h5:=hG.ev x;rw[G]at h5;unfold execOp;rw[B];exact yqh hG.good ht h5
    ·cases h
   ·exact I A h
  ·rename_i x B;split at h
   ·rename_i s U;split at h
    ·rename_i τ last es C;have G:=l.ev U;simp only[VR]at G;have⟨sl,i,e1,e2,e3⟩:=G;have⟨sl',k1,k2⟩:=l.ob s _ C
     rw[e1]at k1;cases k1
     have kg:=k2;simp only[OR]at k2;have⟨i',fs,Z,q1,q2,q3,q4,q5,_⟩:=k2
     rw[e2]at q1;cases q1
     have k9:=(Qaa.1 q3).1;refine yx4 X (M.wanted l) B e3 (l.get q3) (λq hq=>by simpa using q4 q hq) (λhn =>?_) λj p hj k7 =>?_
     ·have hg:es=[]:=by
       have:(List.filter (λq => !Z.contains q) (List.range fs.length))=[]:=List.filter_eq_nil_iff.2 λq hq=>by
        have:=hn q (by simpa using hq);simpa using this
       rw[this]at q5;simpa using q5
      exact Y (.tup [.bool false]) ts σ ρ _ l (by simp[VR,VRL]) (ywg h hg)
     ·rw[Qan,Qaf]at hj;obtain⟨p',hd,rfl⟩:=hj;have⟨m,hm,he⟩:=yxt q5 hd k7;have h':=yw3 h m p' hm;refine Y _ _ _ ρ _ ?_ ?_ h'
      ·have k8:σ.H.set F.lv i (yz5.mit (fs.map λp=>(.str p.1,ya6 τ p.2)) (Z++[j]))={σ.H with L:=σ.H.L.set i (some (.mit (fs.map λp=>(.str p.1,ya6 τ p.2)) (Z++[j])))}:=by
        unfold Heap.set;rw[Qbx l.lv.symm]
       rw[k8]
       exact l.upd C trivial e1 e2 (.mit τ (some (p'.1,p'.2)) (es.eraseIdx m)) (.mit (fs.map λp=>(.str p.1,ya6 τ p.2)) (Z++[j])) (by
        simp only[OR];refine⟨i,fs,Z++[j],e2,q2,by simp[k9],λq hq =>?_,he,λp hp=>⟨Z,j,rfl,by injection hp with hp;rw[hd,<-hp]⟩⟩
        rcases Qbb.1 hq with hq|hq
        ·exact q4 q hq
        ·simp at hq;subst hq;exact(Qaa.1 hd).1)
      ·simp only[VR,VRL];exact⟨_,rfl,_,_,rfl,rfl,_,_,rfl,rfl,_,_,rfl,VR.z00c q2 _,rfl⟩
    ·cases h
   ·cases h
  ·rename_i x B;split at h
   ·rename_i s U;split at h
    ·rename_i τ p es C;have G:=l.ev U;simp only[VR]at G;have⟨sl,i,e1,e2,e3⟩:=G;have⟨sl',k1,k2⟩:=l.ob s _ C
     rw[e1]at k1;cases k1
     simp only[OR]at k2;have⟨i',fs,Z,q1,q2,q3,q4,q5,q6⟩:=k2
     rw[e2]at q1;cases q1
     obtain⟨kc,j,rfl,hj⟩:=q6 p rfl;refine zl6 (v:=.tup [.str p.1,(ya6 τ p.2).v]) (H':=σ.H) X (M.wanted l) (λW a g hG =>?_) (Y _ ts _ ρ _ l ?_ h)
     rotate_left
     ·simp only[VR,VRL];exact⟨_,rfl,_,_,rfl,rfl,_,_,rfl,VR.z00c q2 _,rfl⟩
     ·have h5:=hG.ev x;rw[e3]at h5;unfold execOp;rw[B];exact yov hG.good (l.get q3) (by rw[Qan,hj];rfl) h5
    ·cases h
   ·cases h
  ·exact I A h
omit hD in
theorem zy4{R:Type}{ops:Array Oper}{n:Nat}{o:Oper}{go skip:TS D.T->Option R}{r:R}{G:Prop}(m:TRr D F ρ ts σ)(h:yef D ops.toList o ts go skip=some r)
  (w:∀g,g.o=ts.o->TRr D F ρ g σ->zxe ops g o->go g=some r->G) (u:∀g,g.o=ts.o->TRr D F ρ g σ->z08 ops σ o=some false->skip g=some r->G):G:=by
 unfold yef at h;split at h
 ·rename_i k;exact w ts rfl m (.inl k) h
 ·rename_i j want k;have B:ops.toList[j]? = ops[j]? := by simp
  rw[B]at h;split at h
  ·cases h
  ·rename_i d p
   have tell:∀b:Bool,fnd ts.t d=some (.bool b)->TRr D F ρ {ts with t:=(d,.bool b)::ts.t} σ∧fnd ({ts with t:=(d,.bool b)::ts.t}:TS D.T).t d=some (.bool b)∧σ.t.getD d .any = .bool b:=λb l=>by
    have⟨v,s,q⟩:=m.tm d _ l;refine⟨m.tell s q,by simp only[yzc,if_true],?_⟩;simp only[VR]at q;rw[Qba,s,q];rfl
   simp only[yb4]at h;split at h
   ·rename_i b l
    have wf:∀x:Bool,x=b->(x==want)=false->z08 ops σ o=some false:=λx e y=>by
     unfold z08;rw[k];simp only[p,(tell b l).2.2];rw[<-e,y]
    split at h
    ·rename_i z;subst z;have⟨t1,t2,t3⟩:=tell true l;split at h
     ·rename_i a;subst a;exact w _ (by rfl) t1 (.inr ⟨j,true,d,k,p,t2⟩) h
     ·rename_i a;exact u _ (by rfl) t1 (wf true rfl (by simpa using a)) h
    ·rename_i i;have i:b=false:=by simpa using i
     subst i;have⟨t1,t2,t3⟩:=tell false l;split at h
     ·rename_i a;subst a;exact u _ (by rfl) t1 (wf false rfl rfl) h
     ·rename_i a;have a:want=false:=by simpa using a
      subst a;exact w _ (by rfl) t1 (.inr ⟨j,false,d,k,p,t2⟩) h
   ·rename_i vs A;have:=m.tmp A;simp only[VR]at this;have⟨C,s,q⟩:=this;exact u ts rfl m (by unfold z08;rw[k];simp only[p,s]) h
   ·cases h
theorem ys6{R:Type}{ops:Array Oper}{n:Nat}{o:Oper}{Q:kze->St->Prop}{k C:TV D.T->TS D.T->Option R}{r:R}(w:ops[n]? = some o)(htbl:∀e∈tbl,e.Ok P)
  (y:∀z m σ' ρ' v,TRr D F ρ' m σ'->VR D ρ' F.lv z v->k z m=some r->zfh P ops (n+1) (σ'.put o.dst v) Q) (s:∀z m σ' ρ' v,TRr D F ρ' m σ'->VR D ρ' F.lv z v->C z m=some r->Q (.panic v) σ') {ts:TS D.T}{σ:St}{ρ:List Slot}
  (j:TRr D F ρ ts σ) (u:zxe ops ts o) (h:z00a P D tbl ops.toList o k C ts=some r):zfh P ops n σ Q:=by
 unfold z00a at h;split at h
 ·rename_i t x lo b;split at h
  ·rename_i cx h5 Z I
   rcases ycl j h (j.ev Z) (j.ev I)with ⟨z,v,h1,h2,h3⟩|h
   ·refine yml (H':=σ.H) w (u.wanted j) ?_ (y z ts _ ρ v j h2 h3);unfold cpB at b;split at b
    ·rename_i t' x' h4 d q M;split at b
     ·injection b with b;injection b with e1 b;injection b with e2 e3;subst e1;subst e2;subst e3;rw[q];simp only[ox,pv,Qbr,Option.map_none,h1]
     ·cases b
    ·cases b
   ·exact zvl hD w htbl y s 9 j u h
  ·cases h
 ·have l:yfo P D tbl o.op k C 9 ts=some r->zfh P ops n σ Q:=zvl hD w htbl y s 9 j u;split at h
  ·unfold tLit at h;split at h
   ·rename_i t len U q;split at h
    ·rename_i e qs hu G;split at h
     ·rename_i τ xs p;have⟨Y,X⟩:=j.parts G;have⟨v,b1,B⟩:=zpz hD Y X p;simp only[VR]at B;have⟨B,b3,_⟩:=B;obtain⟨ws,rfl⟩:=b3 (Qbw _)
      cases B with
      |sl _ _ _ _ hl hh=>
       have hlen:len≠0:=λe0=>by
        subst e0;unfold zly at p
        repeat (split at p <;> try (first|(cases p;done)|(injection p with p;injection p with _ _ p;cases p;done)))
       refine zl6 (v:=.hs σ.H.lv σ.H.L.length 0 0 ws.length false) (H':=σ.H.push (.arr 0 e (D.len τ) ws (some ws.length))) w (u.wanted j) (λW a g K =>?_) (y (.own ts.nx) _ _ (ρ++[⟨.hs σ.H.lv σ.H.L.length 0 0 ws.length false,some σ.H.L.length,ws,[]⟩]) _ ?_ ?_ h)
       ·unfold execOp;rw[q];have⟨O,N⟩:=ztn K.ev U;exact yfd K.good b1 hlen hu O N
       ·refine j.new _ _ _ j.lv j.E (by simp[Heap.push]) (λi A=>by simp only[Heap.push];rw[Qal A]) (λi A=>by injection A with A;omega) ?_;simp only[OR];exact⟨hl,hh,0,some ws.length,by rw[j.lv],by simp[Heap.push]⟩
       ·simp only[VR];exact⟨⟨.hs σ.H.lv σ.H.L.length 0 0 ws.length false,some σ.H.L.length,ws,[]⟩,by rw[<-j.nx];simp,rfl,rfl⟩
     ·exact l h
    ·exact l h
   ·exact l h
  ·exact l h
theorem znb{R:Type}{ops:Array Oper}{Q:kze->St->Prop}{A:TS D.T->Option R}{y:TV D.T->TS D.T->Option R}{r:R}(htbl:∀e∈tbl,e.Ok P)
  (d:∀a σ' ρ',TRr D F ρ' a σ'->A a=some r->Q .normal σ') (b:∀z a σ' ρ' v,TRr D F ρ' a σ'->VR D ρ' F.lv z v->y z a=some r->Q (.panic v) σ') :
  ∀(l:List Oper) (n:Nat) {ts:TS D.T}{σ:St}{ρ:List Slot},(∀j,l[j]? = ops[n+j]?)->TRr D F ρ ts σ->y2b P D tbl ops.toList A y l ts=some r->zfh P ops n σ Q
 |[],n,ts,σ,ρ,m,s,h=>by
  simp only[y2b]at h
  exact z03a (by have:=m 0;simp at this;exact this) (d ts σ ρ s h)
 |o::l,n,ts,σ,ρ,m,s,h=>by
  have B:ops[n]? = some o:=by simpa using(m 0).symm
  have k:∀j,l[j]? = ops[n+1+j]? := λj=>by have:=m (j+1);simpa[Nat.add_assoc,Nat.add_comm 1 j]using this
  simp only[y2b,pOp]at h;refine zy4 (n:=n) s h (λx _ g p i =>?_) λx _ g p i =>?_
  ·refine ys6 hD B htbl (λz a σ' ρ' v E C u =>?_) b g p i;split at u
   ·rename_i w q;exact znb htbl d b l (n+1) k (E.put q C) u
   ·cases u
  ·split at i
   ·rename_i w q;exact yx2 B p (znb htbl d b l (n+1) k (g.put q (by simp only[VR];exact⟨[],rfl,by simp only[VRL]⟩)) i)
   ·cases i
theorem zbx{R:Type}{ops:Array Oper}{N:TS D.T->Option R}{r:R}(htbl:∀e∈tbl,e.Ok P) :
  ∀(l:List Oper) {ts:TS D.T}{σ:St},TRr D F ρ ts σ->zhy P D tbl ops.toList N l ts=some r->∃i σ' cl g,zn4 P ops l i σ=some (σ',[],cl)∧(∀c∈cl,c.ok P)∧TRr D F ρ g σ'∧N g=some r
 |[],ts,σ,hR,h=>⟨[],σ,[],ts,rfl,by simp,hR,h⟩
 |o::l,ts,σ,hR,h=>by
  simp only[zhy,pOp]at h;refine zy4 (ops:=ops) (n:=0) hR h (λm _ j W h1 =>?_) λm _ j W h1 =>?_
  ·have G:=W.wanted j
   have K:∀{op:Op},op=o.op->tP P D m op (λv=>match m.put D o.dst v with|some ts=>zhy P D tbl ops.toList N l ts|none=>none) (λ_=>none)=some r->∃i σ' cl g,zn4 P ops (o::l) i σ=some (σ',[],cl)∧(∀c∈cl,c.ok P)∧TRr D F ρ g σ'∧N g=some r:=λ{op} Q hh=>by
    subst Q
    rcases yc6 hD j hh with ⟨x,v,a1,a2,C⟩|⟨s,hs⟩
    ·cases p:m.put D o.dst x with
     |none=>rw[p]at C;cases C
     |some E=>
      rw[p]at C;have⟨i,σ',cl,g,B,A,y,w⟩:=zbx htbl l (j.put p a2) C;exact⟨i,σ',cl,g,by simp only[zn4,G,if_true,a1];exact B,A,y,w⟩
    ·cases hs
   split at h1
   ·rename_i c hc;split at h1
    ·rename_i x q;split at h1
     ·rename_i f a b vs Z h2;have⟨args,t1,t2⟩:=y0a j q Z h2
      have u:zw2 D f (a++vs++b) m (λv _=>match m.put D o.dst v with|some ts=>zhy P D tbl ops.toList N l ts|none=>none) (λ_ _=>none) (λ_=>none) (tbl.filter (·.pure))=some r->∃i σ' cl g,zn4 P ops (o::l) i σ=some (σ',[],cl)∧(∀c∈cl,c.ok P)∧TRr D F ρ g σ'∧N g=some r:=λh1=>by
       rcases zlq hD j t2 (λe Q=>htbl e (List.mem_filter.1 Q).1) h1 with ⟨⟨e,Q,h4⟩,_⟩|⟨O,X,z,ρ',g,U,e3,I,_⟩|⟨s,hs⟩
       ·have:=(List.mem_filter.1 Q).2;rw[h4]at this;cases this
       ·split at I
        ·rename_i E p;have⟨i,σ',cl,g,B,A,y,w⟩:=zbx htbl l (j.put p (U ρ)) I;refine⟨O::i,σ',⟨f,args,σ.H,O,σ.H⟩::cl,g,?_,zpx (X σ.H) A,y,w⟩;have M:pv P σ.H σ.ev (.call c)=none:=by simp[pv,zcx,q]
         simp only[zn4,G,if_true,hc,M,t1,B]
        ·cases I
       ·cases hs
      split at h1
      ·rcases zvf hD j t2 htbl h1 with ⟨O,z,X,U,I⟩|h1
       ·split at I
        ·rename_i E p;have⟨i,σ',cl,g,B,A,y,w⟩:=zbx htbl l (j.put p U) I;refine⟨O::i,σ',⟨f,args,σ.H,O,σ.H⟩::cl,g,?_,zpx X A,y,w⟩;have M:pv P σ.H σ.ev (.call c)=none:=by simp[pv,zcx,q]
         simp only[zn4,G,if_true,hc,M,t1,B]
        ·cases I
       ·exact u h1
      ·exact u h1
     ·cases h1
    ·exact K rfl h1
   ·unfold tPC at h1;split at h1
    ·rename_i t x lo k;split at h1
     ·rename_i cx h8 Z h5
      rcases ycl j h1 (j.ev Z) (j.ev h5)with ⟨z,v,a1,a2,C⟩|h1
      ·cases p:m.put D o.dst z with
       |none=>rw[p]at C;cases C
       |some E=>
        rw[p]at C;have⟨i,σ',cl,g,B,A,y,w⟩:=zbx htbl l (j.put p a2) C;refine⟨i,σ',cl,g,?_,A,y,w⟩
        have Y:pv P σ.H σ.ev o.op=some v:=by
         unfold cpB at k;split at k
         ·rename_i t' x' h7 d h3 h6;split at k
          ·injection k with k;injection k with X k;injection k with U e3;subst X;subst U;subst e3;rw[h3];simp only[pv,Qbr,Option.map_none,a1]
          ·cases k
         ·cases k
        simp only[zn4,G,if_true,Y];exact B
      ·exact K rfl h1
     ·cases h1
    ·exact K rfl h1
  ·split at h1
   ·rename_i E p;have⟨i,σ',cl,g,B,A,y,w⟩:=zbx htbl l (j.put p (v:=.tup []) (by simp only[VR];exact⟨[],rfl,by simp only[VRL]⟩)) h1;exact⟨i,σ',cl,g,by simp only[zn4,W];simpa using B,A,y,w⟩
   ·cases h1
def Keyed(ρ:List Slot)(s i:Nat):Prop:=∃sl,ρ[s]? = some sl∧sl.has i
omit hD in
theorem zuo{ts:TS D.T}{s:Nat}(h:z6k ts s=true):∃o,fnd ts.o s=some o∧o.live:=by
 unfold z6k at h;split at h
 ·cases h
 ·rename_i o a b;exact⟨o,b,by cases o <;> first|trivial|exact(a b).elim⟩
 ·cases h
omit hD in
theorem zl1{ts:TS D.T}{s:Nat}{o:TO D.T}(h:fnd ts.o s=some o)(a:o.live):z6k ts s=true:=by
 unfold z6k;rw[h];cases o <;> first|rfl|exact a.elim
omit hD in
theorem ye0(d:TRr D F ρ ts σ){s i:Nat}(a:z6k ts s=true)(b:Keyed ρ s i):i<σ.H.L.length:=by
 have⟨o,k,j⟩:=zuo a;have⟨sl,h,g⟩:=b;exact d.lt k j h g
omit hD in
theorem y6t(n:TRr D F ρ ts σ){s a i:Nat}(l:z6k ts s=true)(b:z6k ts a=true)(m:Keyed ρ s i)(d:Keyed ρ a i):s=a:=by
 have⟨o,w,u⟩:=zuo l;have⟨sl,q,p⟩:=m;have⟨o',k,j⟩:=zuo b;have⟨sl',h,g⟩:=d;exact n.inj s a o o' sl sl' i w k u j q h p g
structure y70(ρ:List Slot)(ts:TS D.T)(rds:Rds)(wrs:Wrs)(prev:List (Nat×Info)):Prop where
 q:∀p∈prev,p.2.eff=false->(∀x,¬p.2.K x)∨∃R,(p.1,R)∈rds∧∀l,R=some l->∀x,p.2.K x->∃s∈l,z6k ts s=true∧Keyed ρ s x
 e:∀p∈prev,p.2.eff=true->∃w,(p.1,w)∈wrs∧∀s,w=some s->∀x,p.2.W x->z6k ts s=true∧Keyed ρ s x
def y1l(ρ:List Slot)(R:List Nat):Info:=⟨false,λi=>∃s∈R,Keyed ρ s i,λ_=>False,false⟩
def z05k(W:Nat->Prop):Info:=⟨true,λ_=>False,W,false⟩
def z057(W:Nat->Prop):Info:=⟨true,λ_=>False,W,true⟩
omit hD in
theorem yv4{q s:Nat}(h:(!Nat.beq q s)=true):q≠s:=λe=>by subst e;rw[Nat.beq_refl]at h;cases h
omit hD in
theorem yql(E:TRr D F ρ ts σ){ops:Array Oper}{k:Nat}{i:Rds}{d:Wrs}{prev:List (Nat×Info)}(u:y70 (D:=D) ρ ts i d prev){R:List Nat}(l:rdOk ops.toList k R d=true)(b:R.all (z6k ts)=true):GP .any ops prev k (y1l ρ R):=λp A B=>by
 refine⟨λh=>(by cases h.2),λ_ h=>(by cases h),λ_ C x ⟨s,g,z⟩ q =>?_⟩;have⟨w,y,j⟩:=u.e p A C;have h1:=Qat.1 l (p.1,w) y;rw[Bool.or_eq_true]at h1
 rcases h1 with h1|h1
 ·exact znk h1 B
 ·cases w with
  |none=>cases R with
   |nil=>cases g
   |cons a r=>cases h1
  |some m=>
   cases R with
   |nil=>cases g
   |cons a r=>
    have G:=yv4 (Qat.1 h1 s g);have⟨o,n⟩:=j m rfl x q;exact G (y6t E (Qat.1 b s g) o z n)
omit hD in
theorem yxg{ops:Array Oper}{k:Nat}{d:Rds}{b:Wrs}{prev:List (Nat×Info)}(o:y70 (D:=D) ρ ts d b prev){w:Option Nat}{W:Nat->Prop}(i:z055 ops.toList k w d=true)(j:yll ops.toList k b=true)
  (I:∀s,w=some s->∀q x,z6k ts q=true->Keyed ρ q x->q≠s->¬W x):GP .any ops prev k (z05k W):=λp u y=>by
 refine⟨λ⟨h,_⟩ =>?_,λG _ x m E =>?_,λh=>(by cases h)⟩
 ·have⟨z,g,_⟩:=o.e p u h;exact znk (Qat.1 j (p.1,z) g) y
 ·rcases o.q p u G with h|⟨R,g,K⟩
  ·exact h x m
  ·have h1:=Qat.1 i (p.1,R) g;rw[Bool.or_eq_true]at h1
   rcases h1 with h1|h1
   ·exact znk h1 y
   ·cases R with
    |none=>cases w <;> cases h1
    |some l=>
     have⟨s,n,C,B⟩:=K l rfl x m
     cases l with
     |nil=>cases n
     |cons a r=>
      cases w with
      |none=>cases h1
      |some A=>exact I A rfl s x C B (yv4 (Qat.1 h1 s n)) E
omit hD in
theorem y70.quiet{ρ:List Slot}{ts g:TS D.T}{k:Nat}{m:Rds}{j:Wrs}{prev:List (Nat×Info)}(A:y70 (D:=D) ρ ts m j prev){R:List Nat}(i:R.all (z6k ts)=true)(G:g.o=ts.o) :
  y70 (D:=D) ρ g ((k,some R)::m) j ((k,y1l ρ R)::prev):=by
 have z:∀s,z6k g s=z6k ts s:=λs=>by unfold z6k;rw[G]
 refine⟨λp hj E =>?_,λp hj B =>?_⟩
 ·rcases Qbl.1 hj with rfl|hj
  ·exact .inr ⟨some R,Qak,λl d x ⟨s,n,I⟩=>by injection d with d;subst d;exact⟨s,n,by rw[z];exact Qat.1 i s n,I⟩⟩
  ·rcases A.q p hj E with h|⟨R,y,K⟩
   ·exact .inl h
   ·exact .inr ⟨R,Qai _ y,λl d x u=>by have⟨s,a,b,c⟩:=K l d x u;exact⟨s,a,by rw[z];exact b,c⟩⟩
 ·rcases Qbl.1 hj with rfl|hj
  ·cases B
  ·have⟨w,y,C⟩:=A.e p hj B;exact⟨w,y,λs n x u=>by rw[z];exact C s n x u⟩
omit hD in
theorem y70.eff{ρ ρ':List Slot}{ts g:TS D.T}{k:Nat}{o:Rds}{n:Wrs}{prev:List (Nat×Info)}(G:y70 (D:=D) ρ ts o n prev){w:Option Nat}{W:Nat->Prop}{c:Info}(N:c.eff=true∧c.W=W)
  (hold:∀i,w=some i->∀s x,z6k ts s=true->Keyed ρ s x->z6k g s=true∧Keyed ρ' s x) (u:∀s,w=some s->∀x,W x->z6k g s=true∧Keyed ρ' s x) :
  y70 (D:=D) ρ' g (ykg w o) ((k,w)::ykf w n) ((k,c)::prev):=by
 have⟨B,C⟩:=N;refine⟨λp hj z =>?_,λp hj M =>?_⟩
 ·rcases Qbl.1 hj with rfl|hj
  ·rw[B]at z;cases z
  ·rcases G.q p hj z with h|⟨R,m,I⟩
   ·exact .inl h
   ·cases w with
    |some i=>exact .inr ⟨R,m,λl A x j=>by have⟨s,a,b,c⟩:=I l A x j;exact⟨s,a,hold i rfl s x b c⟩⟩
    |none=>
     by_cases d:R=some []
     ·subst d;exact .inl λx j=>by have⟨s,a,_⟩:=I [] rfl x j;cases a
     ·refine .inr ⟨none,Qbg.2 ⟨(p.1,R),m,?_⟩,λl A=>by cases A⟩
      cases R with
      |none=>rfl
      |some l=>cases l with
       |nil=>exact(d rfl).elim
       |cons a r=>rfl
 ·rcases Qbl.1 hj with rfl|hj
  ·rw[C];exact⟨w,Qak,u⟩
  ·have⟨E,m,K⟩:=G.e p hj M
   cases w with
   |some i=>exact⟨E,Qai _ m,λs y x j=>by have⟨a,b⟩:=K s y x j;exact hold i rfl s x a b⟩
   |none=>exact⟨none,Qai _ (Qbg.2 ⟨(p.1,E),m,rfl⟩),λs y=>by cases y⟩
def Lvl(F:Fr)(H:Heap):Prop:=H.lv=F.lv
omit hD in
theorem z02d{ρ:List Slot}{lv:Nat}{x:TV D.T}{v:V}(h:VR D ρ lv x v)(l:x.yuu=true):v.plain=true:=by
 cases x <;> simp only[TV.yuu,Bool.false_eq_true]at l
 case sl t xs A=>simp only[VR]at h;have⟨h,_⟩:=h;cases h <;> rfl
 case ap s t i x d=>
  simp only[VR]at h;have⟨sl,w,z,u,p,o,g⟩:=h;split at g
  ·subst g;rfl
  ·have⟨k,n,_,g⟩:=g;subst g;rfl
 case fn f a b=>simp only[VR]at h;obtain⟨B,bs,rfl,_⟩:=h;rfl
 case iface t x=>simp only[VR]at h;obtain⟨y,rfl,_⟩:=h;rfl
 case ref cs d=>simp only[VR]at h;obtain⟨y,rfl,_⟩:=h;rfl
 case ptr s d=>simp only[VR]at h;obtain⟨y,i,_,_,rfl⟩:=h;rfl
 case agg cs=>simp only[VR]at h;obtain⟨y,rfl,_⟩:=h;rfl
 case tup cs=>simp only[VR]at h;obtain⟨y,rfl,_⟩:=h;rfl
 case mc t es=>simp only[VR]at h;obtain⟨_,rfl⟩:=h;rfl
 case dp s i d=>simp only[VR]at h;obtain⟨sl,j,k,m,_,_,_,_,rfl⟩:=h;rfl
 case bsl q cs=>simp only[VR]at h;obtain⟨vs,rfl,_⟩:=h;rfl
 all_goals (simp only[VR]at h;subst h;rfl)
omit hD in
theorem yr9(d:TRr D F ρ ts σ){x:Operand}{R:List Nat}(h:plainO ts x=some R):(σ.ev x).plain=true∧R=[]:=by
 unfold plainO at h;split at h
 ·rename_i v a;split at h
  ·rename_i b;injection h with h;exact⟨z02d (d.ev a) b,h.symm⟩
  ·cases h
 ·cases h
omit hD in
theorem y7l(h:TRr D F ρ ts σ){s i:Nat}{R:List Nat}(g:Keyed ρ s i)(b:s∈R){H:Heap}(a:Lvl F H)(d:y0l (y1l ρ R).K σ.H H):H.get F.lv i=σ.H.get F.lv i:=by
 unfold Heap.get;have a:H.lv=F.lv:=a;rw[a,h.lv,Qbx rfl,Qbx rfl,d i ⟨s,b,g⟩]
omit hD in
theorem yk4(d:TRr D F ρ ts σ){x:Operand}{R:List Nat}(h:ownO ts x=some R){H:Heap}(E:Lvl F H)(C:y0l (y1l ρ R).K σ.H H) :
  (σ.ev x).plain=true∨∃l i g A n full,σ.ev x = .hs l i g A n full∧H.get l i=σ.H.get l i:=by
 unfold ownO at h;split at h
 ·rename_i s B;split at h
  ·rename_i ty t xs w u;cases h;have o:=d.ev B;simp only[VR]at o;have⟨sl,p,y,I⟩:=o;have⟨sl',m,j⟩:=d.ob s _ u
   rw[p]at m;cases m
   rw[y];simp only[OR]at j;have⟨G,O,a⟩:=j
   cases b:sl.k with
   |none=>
    rw[b]at a
    rcases a with ⟨e,_⟩|⟨⟨e,_⟩,_⟩ <;> (left;rw[e];rfl)
   |some i=>
    rw[b]at a;have⟨g,N,z,M⟩:=a;right;exact⟨_,_,_,_,_,_,z,y7l d ⟨sl,p,.inl b⟩ (by simp) E C⟩
  ·rename_i ty q xs w u;cases h;have o:=d.ev B;simp only[VR]at o;have⟨sl,p,y,I⟩:=o;have⟨sl',m,j⟩:=d.ob s _ u
   rw[p]at m;cases m
   rw[y];simp only[OR]at j;have⟨G,a⟩:=j
   cases b:sl.k with
   |none=>
    rw[b]at a
    obtain⟨_,e|e,_⟩:=a <;> (left;rw[e];rfl)
   |some i=>
    rw[b]at a;have⟨g,N,fps,z,M,_⟩:=a;right;exact⟨_,_,_,_,_,_,z,y7l d ⟨sl,p,.inl b⟩ (by simp) E C⟩
  ·cases h
 ·exact .inl (yr9 d h).1
omit hD in
theorem z027(o:TRr D F ρ ts σ){op:Op}{R:List Nat}(h:rdK ts op=some R){H:Heap}(q:Lvl F H)(A:y0l (y1l ρ R).K σ.H H):pv P H σ.ev op=pv P σ.H σ.ev op:=by
 cases op <;> simp only[rdK]at h <;> first|(cases h;done)|skip
 case load t a=>
  split at h
  ·rename_i s d p;cases h;have g:=o.ev p;simp only[VR]at g;have⟨sl,i,I,M,C⟩:=g;simp only[pv,C];refine ye4 ?_;unfold Heap.get;have q:H.lv=F.lv:=q;rw[q,o.lv,Qbx rfl,Qbx rfl,A i ⟨s,by simp,sl,I,.inl M⟩]
  ·rename_i s τ n y d p;cases h;have g:=o.ev p;simp only[VR]at g;have⟨sl,w,I,M,C,W,B⟩:=g
   cases E:sl.k with
   |none=>rw[E]at B;simp only[pv,B];exact zxs
   |some j=>
    rw[E]at B;have⟨z,m,e1,O⟩:=B;simp only[pv,O];exact yhu (y7l o ⟨sl,I,.inl E⟩ (by simp) q A)
  ·rename_i cs d p;have g:=o.ev p;simp only[VR]at g;have⟨vs,C,_⟩:=g;simp only[pv,C];exact zxs
  ·cases h
 case indexAddr t x i=>
  simp only[pv]
  rcases yk4 o h q A with h|⟨l,j,z,d,n,full,h,G⟩
  ·exact y6g h
  ·rw[h];exact y2k G
 case slice t x X Z U=>simp only[pv];exact ylm (yr9 o h).1
 case call c=>
  simp only[pv,zcx];split at h
  ·rename_i x u p;simp only[u,p];split
   ·rename_i Q t N Y;cases N
    rcases yk4 o h q A with h|⟨l,j,z,d,n,full,h,G⟩
    ·exact yus h
    ·rw[h];exact yoj G
   ·rfl
  ·rename_i u;simp only[u]
  ·rename_i u;simp only[u]
  ·cases h
 case makeFunc fn a b=>cases fn <;> rfl
 all_goals rfl
theorem ytq{R:Type}(d:TRr D F ρ ts σ){t s b:Nat}{x:TV D.T}{y l:V}{k:TV D.T->TS D.T->Option R}{N:Nat->Option R}{r:R}(h:ydo P D ts t (.ptr s b) x k N=some r)(K:VR D ρ F.lv (.ptr s b) y)(G:VR D ρ F.lv x l) :
  ∃i cs m H',Keyed ρ s i∧fnd ts.o s=some (.cells cs)∧zh5 P σ.H t y l=some (.any,H')∧(∀j,j≠i->H'.L[j]? = σ.H.L[j]?)∧H'.lv=F.lv∧TRr D F ρ (ts.set D s (.cells m)) {σ with H:=H'}∧k .any (ts.set D s (.cells m))=some r:=by
 unfold ydo at h;split at h
 ·rename_i I;simp only[Qag,Qbm]at I;have⟨⟨M,U⟩,Q⟩:=I;have a:=G.cells M
  have g:(l.kzl&&(P.info? t).isSome&&l.cells.length==P.cellsOf t)=true:=by
   simp only[Qag,Qbm];exact⟨⟨G.kzl M,U⟩,by rw[<-a.length];exact Q⟩
  simp only[VR]at K;obtain⟨sl,i,u,p,rfl⟩:=K;simp only at h;split at h
  ·rename_i cs q;split at h
   ·rename_i n;have⟨sl',E,C⟩:=d.ob s _ q
    rw[u]at E;cases E
    simp only[OR]at C;have⟨X,vs,B,A,z⟩:=C
    rw[p]at B;cases B
    have w:=(Qaa.1 A).1;refine⟨i,cs,_,σ.H.set F.lv i (.cells (z02 vs b l.cells)),⟨sl,u,.inl p⟩,q,?_,λj O =>?_,?_,?_,h⟩
    ·unfold zh5;rw[Qbx g];simp only[d.get A];rw[Qbx (by rw[<-a.length,<-z.length];exact n)]
    ·rw[d.y7p];exact Qam (Ne.symm O)
    ·rw[d.y7p];exact d.lv
    ·rw[d.y7p];exact d.upd q trivial u p _ _ (by simp only[OR];exact⟨i,_,p,by simp[w],z.z02 a b⟩)
   ·cases h
  ·cases h
 ·cases h
omit hD in
theorem yq0{ts a:TS D.T}{b:Option Nat}{v:TV D.T}(h:ts.put D b v=some a):a.o=ts.o:=by
 unfold TS.put at h;split at h
 ·cases h;rfl
 ·split at h
  ·cases h;rfl
  ·cases h
omit hD in
theorem ype(a:TRr D F ρ ts σ){o:TO D.T}{s:Nat}(h:z6k ts s=true):z6k (ts.new D o) s=true:=by
 have⟨o',b,g⟩:=zuo h;have⟨sl,d,_⟩:=a.ob s o' b;have i:=(Qaa.1 d).1;refine zl1 (o:=o') ?_ g;simp only[TS.new,yzc];rw[Qby (by rw[<-a.nx];omega)];exact b
omit hD in
theorem yfq{s x:Nat}(e:List Slot)(h:Keyed ρ s x):Keyed (ρ++e) s x:=by
 have⟨sl,b,a⟩:=h;exact⟨sl,lookup_append b,a⟩
def KpQ(Q:kze->St->Prop)(v:V)(σ:St):Prop:=∀a,a.length=σ.t.length->Q (.panic v) {σ with t:=a}
omit hD in
theorem yv3(G:TRr D F ρ ts σ){ops:Array Oper}{k:Nat}{d:Rds}{b:Wrs}{prev:List (Nat×Info)}(B:y70 (D:=D) ρ ts d b prev){M:z6i D.T}(n:z00x ops.toList k d M=true)(u:yll ops.toList k b=true)(a:∀k s,(k,Src.slot s)∈M->∃o',fnd ts.o s=some o'∧o'.live) :
  GP .any ops prev k (z057 λi=>¬(i<σ.H.L.length∧∀k s sl,(k,Src.slot s)∈M->ρ[s]? = some sl->¬sl.has i)):=λp C E=>by
 refine⟨λ⟨h,_⟩ =>?_,λU _ x A O =>?_,λh=>(by cases h)⟩
 ·have⟨I,j,_⟩:=B.e p C h;exact znk (Qat.1 u (p.1,I) j) E
 ·rcases B.q p C U with h|⟨R,j,w⟩
  ·exact h x A
  ·have h1:=Qat.1 n (p.1,R) j;rw[Bool.or_eq_true]at h1
   rcases h1 with h1|h1
   ·exact znk h1 E
   ·cases R with
    |none=>cases h1
    |some l=>
     have⟨s,Q,z,y⟩:=w l rfl x A;refine O ⟨ye0 G z y,λN K sl g m X =>?_⟩;have Y:=Qat.1 (Qat.1 h1 s Q) _ g;have⟨o',W,Z⟩:=a N K g;exact yv4 Y (y6t G z (zl1 W Z) y ⟨sl,m,X⟩)
omit hD in
theorem yrr{R:Type}{t u:Nat}{s x:TV D.T}{vs A:V}{k:TV D.T->Option R}{r:R}(h:z010 P D t u s x k=some r)(w:VR D ρ lv s vs)(l:VR D ρ lv x A) :
  ∃z v,zwq P t u vs A=some v∧(∀ρ' m,VR D ρ' m z v)∧k z=some r:=by
 unfold z010 at h;split at h
 case h_2=>cases h
 rename_i b xs M;split at h
 case h_2=>cases h
 rename_i d
 have q:1<=M:=by
  unfold fl12 at d;split at d <;> first|omega|cases d
 split at h
 case h_2=>cases h
 rename_i e du U Q;split at h
 case h_2=>cases h
 rename_i i τ X hτ;split at h
 case h_2=>cases h
 rename_i z O;split at h
 case h_2=>cases h
 rename_i K;split at h
 case h_2=>cases h
 rename_i h3 N G a;have⟨zs,E,h⟩:=z3h h;obtain⟨g,rfl⟩:=y5g E;obtain⟨rfl,rfl⟩:=z90 G;simp only[Qag,Qbm,Qar]at K;have⟨⟨⟨⟨c1,c2⟩,c3⟩,c4⟩,C⟩:=K;have C:=Qaj C
 have p:∃j,zmk yeb (D.len b) A=some j∧DRL D b N j:=by
  unfold z05a at a;split at a
  ·cases a;simp only[VR]at l;subst l;exact⟨[],rfl,DRL.nil _⟩
  ·rename_i t2 ws M;obtain⟨rfl,rfl⟩:=z90 a;simp only[VR]at l;have⟨l,_⟩:=l
   cases l with
   |nil=>exact⟨[],rfl,DRL.nil _⟩
   |sl _ _ ws full y B=>exact⟨ws,by simp[zmk,zdp],y,B⟩
  ·cases a
 have⟨j,I,n⟩:=p;simp only[VR]at w;have⟨w,Y,_⟩:=w;obtain⟨ws,rfl⟩:=Y q
 cases w with
 |sl _ _ _ _ y B=>
  have o:=DRL.append (D:=D) ⟨y,B⟩ n;refine⟨_,.sl (D.len b) (ws++j) false,?_,λρ' m =>?_,h⟩
  ·unfold zwq;simp only[U,Q,X,O];rw[<-C,I];simp only
   have Z:(zx9 du&&decide (0<D.len b)&&decide (i.bytes<=524288)&&z.cells.size==D.len b&&Nat.beq (D.len b) (D.len b)&&Nat.ble (ws.length+j.length) zin)=true:=by
    have W:Nat.beq (D.len b) (D.len b)=true:=Nat.beq_refl _;have H:Nat.ble (ws.length+j.length) zin=true:=by rw[Nat.ble_eq,y,n.1];exact g
    simp only[Qag,Qbm,Qar];exact⟨⟨⟨⟨⟨c1,by omega⟩,c3⟩,by omega⟩,W⟩,H⟩
   rw[Z]
  ·simp only[VR];exact⟨.sl _ _ _ _ o.1 o.2,λh=>by omega,λh=>by cases h⟩
theorem zrp{R:Type}{ops:Array Oper}{Q:kze->St->Prop}{kn:TS D.T->Option R}{kp:TV D.T->TS D.T->Option R}{r:R}(htbl:∀e∈tbl,e.Ok P)(ka:∀G σ' ρ',TRr D F ρ' G σ'->kn G=some r->Q .normal σ')
  (k9:∀z G σ' ρ' v,TRr D F ρ' G σ'->VR D ρ' F.lv z v->kp z G=some r->Q (.panic v) σ') :
  ∀(l:List Nat) (h6:Rds) (h5:Wrs) (prev:List (Nat×Info)) {ts:TS D.T}{σ:St}{ρ:List Slot},TRr D F ρ ts σ->y70 (D:=D) ρ ts h6 h5 prev->zgf P D tbl ops.toList kn kp l h6 h5 ts=some r ->
   zrz P ops .any (Lvl F) (KpQ Q) (Q .normal) l prev σ
 |[],h6,h5,prev,ts,σ,ρ,hR,hp,h=>ka ts σ ρ hR h
 |k::l,h6,h5,prev,ts,σ,ρ,hR,hp,h=>by
  simp only[zgf]at h;split at h
  ·cases h
  rename_i o ko;have ho:ops[k]? = some o:=by simpa using ko
  have one:∀{c:Info}{v:V}{H':Heap}{C:TS D.T}{ρ2:List Slot}{hb:Rds}{h9:Wrs},c.call=false->MV P ops (Lvl F) c σ o v H'->GP .any ops prev k c->TRr D F ρ2 C (z8j σ o v H')->y70 (D:=D) ρ2 C hb h9 ((k,c)::prev)->zgf P D tbl ops.toList kn kp l hb h9 C=some r ->
    zrz P ops .any (Lvl F) (KpQ Q) (Q .normal) (k::l) prev σ:=λ{c v H' C ρ2 hb h9} kt hm hc ku kl h2=>
   ⟨o,c,ho,hc,.inl ⟨v,H',kt,hm,zrp htbl ka k9 l hb h9 _ ku kl h2⟩⟩
  have kc:GP .any ops prev k (y1l ρ []):=λp hj hf=>⟨λh=>(by cases h.2),λ_ h=>(by cases h),λ_ _ x ⟨s,K,_⟩=>(by cases K)⟩
  have mH:∀{v:V}{C:TS D.T}{ρ2:List Slot},TRr D F ρ2 C (σ.put o.dst v)->TRr D F ρ2 C (z8j σ o v σ.H):=λ{v C ρ2} h=>h
  simp only[pOp]at h;refine zy4 (n:=k) hR h (λy k8 B hw A =>?_) λy k8 B hw A =>?_
  ·have Y:y70 (D:=D) ρ y h6 h5 prev:=by
    have hl:∀s,z6k y s=z6k ts s:=λs=>by unfold z6k;rw[k8]
    exact⟨λp hj hq=>(hp.q p hj hq).imp_right λ⟨R,a,b⟩=>⟨R,a,λl e x N=>by have⟨s,c,d,f⟩:=b l e x N;exact⟨s,c,by rw[hl];exact d,f⟩⟩,λp hj he=>by have⟨w,a,b⟩:=hp.e p hj he;exact⟨w,a,λs e x N=>by rw[hl];exact b s e x N⟩⟩
   have hn:=hw.wanted B;have hv:Lvl F σ.H:=B.lv;split at A
   ·rename_i hk;split at A
    ·
     split at A
     case h_2=>cases A
     rename_i c hc;split at A
     case h_2=>cases A
     rename_i s x t u U X hd;split at A
     case h_2=>cases A
     rename_i sv xv K N;have⟨z,v,a1,a2,a3⟩:=yrr A (B.ev K) (B.ev N);split at a3
     ·rename_i C m;exact one (c:=y1l ρ []) (v:=v) (H':=σ.H) rfl (.inr ⟨hn,hv,.inl ⟨rfl,rfl,λkg k1 Z=>.inr (.inr (.inr (.inr ⟨c,s,x,t,u,hc,U,X,hd,a1⟩)))⟩⟩) kc (mH (B.put m (a2 _ _))) (Y.quiet (R:=[]) rfl (yq0 m)) a3
     ·cases a3
    split at A
    ·rename_i hc;rw[Qag]at hc;have⟨kb,hy⟩:=hc
     have k4:∀{W:Nat->Prop}{v:V}{H':Heap}{z:TV D.T}{G C:TS D.T}{ρ2:List Slot},ox P σ.H σ.ev o.op=some (v,H')->(∀i,¬W i->H'.L[i]? = σ.H.L[i]?)->TRr D F ρ2 G {σ with H:=H'}->VR D ρ2 F.lv z v ->
       (∀s0,wrK y o.op=some s0->∀s x,z6k y s=true->Keyed ρ s x->z6k G s=true∧Keyed ρ2 s x)->(∀s,wrK y o.op=some s->∀x,W x->z6k G s=true∧Keyed ρ2 s x) ->
       (∀s,wrK y o.op=some s->∀q x,z6k y q=true->Keyed ρ q x->q≠s->¬W x)->G.put D o.dst z=some C->zgf P D tbl ops.toList kn kp l (ykg (wrK y o.op) h6) ((k,wrK y o.op)::ykf (wrK y o.op) h5) C=some r ->
       zrz P ops .any (Lvl F) (KpQ Q) (Q .normal) (k::l) prev σ :=
      λ{W v H' z G C ρ2} g1 g2 g3 g4 g5 g6 g7 g8 g9=>by
       have hH:Lvl F H':=g3.lv;have km:=yq0 g8;have kd:∀s,z6k C s=z6k G s:=λs=>by unfold z6k;rw[km]
       exact one (c:=z05k W) rfl (.inr ⟨hn,hv,.inr ⟨rfl,hk,.inl g1,hH,g2⟩⟩) (yxg Y kb hy g7) (g3.put g8 g4) (Y.eff ⟨rfl,rfl⟩ (λs0 e s x a b=>by rw[kd];exact g5 s0 e s x a b) λs e x N=>by rw[kd];exact g6 s e x N) g9
     have push:∀{cs:List (TV D.T)}{vs:List V}{C:TS D.T},wrK y o.op=some y.nx->VRL D ρ F.lv cs vs->ox P σ.H σ.ev o.op=some (.ptr σ.H.lv σ.H.L.length 0,σ.H.push (.cells vs))->(y.new D (.cells cs)).put D o.dst (.ptr y.nx 0)=some C ->
       zgf P D tbl ops.toList kn kp l (ykg (wrK y o.op) h6) ((k,wrK y o.op)::ykf (wrK y o.op) h5) C=some r ->
       zrz P ops .any (Lvl F) (KpQ Q) (Q .normal) (k::l) prev σ:=λ{cs vs C} g0 g1 g2 g3 g4=>by
      have⟨h3,h4⟩:=B.ycd hD g1;refine k4 (W:=λi=>i=σ.H.L.length) g2 (λi hi =>?_) h3 h4 (λs0 _ s x a b=>⟨ype B a,yfq _ b⟩) (λs K x N =>?_) (λs K q x a b c e =>?_) g3 g4
      ·simp only[Heap.push];rw[Qbe];split
       ·rfl
       ·rename_i ky;have hi:i≠σ.H.L.length:=hi;rw[Qcf (by simp;omega),Qcf (by omega)]
      ·rw[g0]at K;cases K
       refine⟨zl1 (o:=.cells cs) (by simp only[TS.new,yzc,if_true]) trivial,⟨.any,some σ.H.L.length,[],[]⟩,by rw[<-B.nx];simp,.inl (by rw[N])⟩
      ·have:=ye0 B a b;omega
     have other:wrK y o.op=none->tOp P D y o.op (λv G=>match G.put D o.dst v with|some C=>zgf P D tbl ops.toList kn kp l (ykg (wrK y o.op) h6) ((k,wrK y o.op)::ykf (wrK y o.op) h5) C|none=>none) (λ_=>none)=some r ->
       zrz P ops .any (Lvl F) (KpQ Q) (Q .normal) (k::l) prev σ:=λg0 hh=>by
      rcases yko hD B hh with ⟨z,G,v,H',ρ',a1,a2,a3,a4⟩|⟨s,K⟩
      ·split at a4
       ·rename_i C m;exact k4 (W:=λ_=>True) a1 (λi hi=>(hi trivial).elim) a3 a2 (λs0 e=>by rw[g0]at e;cases e) (λs0 e=>by rw[g0]at e;cases e) (λs0 e=>by rw[g0]at e;cases e) m a4
       ·cases a4
      ·cases K
     cases I:o.op with
     |alloc t=>
      rw[I]at A;simp only[tOp]at A;split at A
      ·rename_i z hz;split at A
       ·rename_i K;have⟨v,b1,b2⟩:=zlw (ρ:=ρ) (lv:=F.lv) hz;split at A
        ·rename_i C m;rw[<-I]at A;exact push (by rw[I];rfl) (b2.cells K) (by rw[I];simp only[ox,ycs,b1];rw[Qbx (b2.kzl K)]) m A
        ·cases A
       ·cases A
      ·cases A
     |box t x=>
      rw[I]at A;simp only[tOp]at A;split at A
      ·rename_i v N;split at A
       ·rename_i K;have b2:=B.ev N;split at A
        ·rename_i C m;rw[<-I]at A;exact push (by rw[I];rfl) (b2.cells K) (by rw[I];simp only[ox,hBox];rw[Qbx (b2.kzl K)]) m A
        ·cases A
       ·cases A
      ·cases A
     |store t a x=>
      by_cases O:wrK y o.op=none
      ·exact other O A
      ·rw[I]at A;simp only[tOp]at A;split at A
       ·rename_i av xv ha N;rw[I]at O;simp only[wrK,ha]at O;split at O
        ·rename_i s kw ks;cases ks;have hu:wrK y o.op=some s:=by rw[I];simp only[wrK,ha]
         have⟨i,cs,kf,H',b1,b2,b3,b4,b5,b6,b7⟩:=ytq hD B A (B.ev ha) (B.ev N);split at b7
         ·rename_i C m;rw[<-I]at b7
          have k6:∀q,z6k y q=true->z6k (y.set D s (.cells kf)) q=true:=λq hq=>by
           have⟨o',c1,c2⟩:=zuo hq;by_cases e:s=q
           ·exact zl1 (o:=.cells kf) (by simp only[TS.set,yzc,Qbx e]) trivial
           ·exact zl1 (o:=o') (by simp only[TS.set,yzc,Qby e];exact c1) c2
          have ht:z6k y s=true:=zl1 b2 trivial;refine k4 (W:=λj=>j=i) (by rw[I];simp only[ox];exact b3) (λj hj=>b4 j hj) b6 (by simp only[VR]) (λs0 _ q x a b=>⟨k6 q a,b⟩) (λs0 K x N =>?_) (λs0 K q x a b c e =>?_) m b7
          ·rw[hu]at K;cases K
           exact⟨k6 s ht,by rw[N];exact b1⟩
          ·rw[hu]at K;cases K
           subst e;exact c (y6t B a ht b b1)
         ·cases b7
        ·exact(O rfl).elim
       ·cases A
     |call c=>
      by_cases O:wrK y o.op=none
      ·exact other O A
      ·have kz:=A;rw[I]at A;simp only[tOp]at A;rw[I]at O;simp only[wrK]at O;split at O
       ·rename_i sx xx U X;split at A
        ·rename_i s x t u h8 h7 hd;rw[X]at h7;injection h7 with e1 e2;subst e1;have e3:=e2;injection e3 with e3 _;subst e3;split at A
         ·rename_i K N;exact(O (by rw[N];cases y.ev sx <;> rfl)).elim
         ·rename_i sv xv kx K N;have ke:=yxc O;have kq:∀q,sv ≠ .own q:=λq e=>ke.2 q (by rw[K,e])
          have hu:wrK y o.op=some y.nx:=by
           rw[I];simp only[wrK,U,X];exact ke.1
          have⟨z,G,v,H',ρ',a1,a2,a3,a4,a5⟩:=y0u B A (B.ev K) (B.ev N);obtain⟨sl',o',rfl,rfl,q1,q2,q3⟩:=a5 kq;split at a4
          ·rename_i C m;refine k4 (W:=λi=>sl'.k=some i) (by rw[I];simp only[ox,U,X,e2,hd];exact a1) (λi hi=>q3 i hi) a3 a2 (λs0 _ s x a b=>⟨ype B a,yfq _ b⟩) (λs k7 x N =>?_) (λs k7 q x a b c e =>?_) m (by rw[I];exact a4)
           ·rw[hu]at k7;cases k7
            exact⟨zl1 (o:=o') (by simp only[TS.new,yzc,if_true]) q1,sl',by rw[<-B.nx];simp,.inl N⟩
           ·have:=ye0 B a b;have:=q2 x e;omega
          ·cases a4
         ·cases A
        ·rename_i s x h8 h7 hd;rw[U]at h8;cases h8
        ·exfalso;simp[tP,tP1,U,FR.of]at A
       ·exact(O rfl).elim
     |_=>rw[I]at hk;cases hk
    ·cases A
   ·rename_i hk;split at A
    ·rename_i R kv;split at A
     ·rename_i hc;rw[Qag]at hc;have⟨kb,hy⟩:=hc
      rcases yc6 hD B A with ⟨x,v,a1,a2,a3⟩|⟨s,K⟩
      ·split at a3
       ·rename_i C m;refine one (c:=y1l ρ R) (v:=v) (H':=σ.H) rfl (.inr ⟨hn,hv,.inl ⟨rfl,rfl,λkg k1 Z=>.inl ?_⟩⟩) (yql B Y kb hy) (mH (B.put m a2)) (Y.quiet hy (yq0 m)) a3;rw[z027 B kv k1 Z];exact a1
       ·cases a3
      ·cases K
     ·cases A
    ·split at A
     ·rename_i c hc;split at A
      ·rename_i x U;split at A
       ·rename_i f a b vs N kj;have⟨args,t1,t2⟩:=y0a B U N kj;split at A
        ·rcases zlq hD B t2 (λe he=>htbl e (List.mem_filter.1 he).1) A with ⟨⟨e,he,kr⟩,_⟩|⟨rv,e1,z,ρ',G,e2,e3,e4,_⟩|⟨s,K⟩
         ·have:=(List.mem_filter.1 he).2;rw[kr]at this;cases this
         ·split at e4
          ·rename_i C m;exact one (c:=y1l ρ []) (v:=rv) (H':=σ.H) rfl (.inr ⟨hn,hv,.inl ⟨rfl,rfl,λkg k1 Z=>.inr (.inl ⟨c,f,args,hc,t1,e1 _⟩)⟩⟩) kc (mH (B.put m (e2 ρ))) (Y.quiet (R:=[]) rfl (yq0 m)) e4
          ·cases e4
         ·cases K
        ·split at A
         ·rename_i hg;rw[Qag]at hg;have⟨hg,kh⟩:=hg
          have⟨M,ki,m1,m2,m3,m4,m5,m6⟩:=zv0 hD B t2 (λe he=>by
           have⟨e1,e2⟩:=List.mem_filter.1 he
           exact⟨htbl e e1,by simpa using e2⟩) A
          let W:Nat->Prop:=λi=>¬(i<σ.H.L.length∧∀k s sl,(k,Src.slot s)∈M->ρ[s]? = some sl->¬sl.has i)
          have k5:=yv3 B Y m1 kh m2;refine⟨o,z057 W,ho,k5,.inr ⟨λj hj =>?_,rfl,rfl,hn,c,f,args,ki,hc,t1,m3,λv H' hr=>⟨(m4 _ H' hr).1,λi hi =>?_,?_⟩,λv H' hr =>?_⟩⟩
          ·exact znk (Qat.1 hg j hj)
          ·have hi:¬¬_:=hi;have⟨i1,i2⟩:=Classical.not_not.1 hi;exact(m4 _ H' hr).2 i i1 i2
          ·have⟨z,G,ρ',k1,Z,k3⟩:=m5 v H' hr;split at k3
           ·rename_i C m;exact zrp htbl ka k9 l _ _ _ (Z.put m k1) (Y.eff ⟨rfl,rfl⟩ (λs0 e=>by cases e) (λs e=>by cases e)) k3
           ·cases k3
          ·have⟨z,G,ρ',k1,Z,k3⟩:=m6 v H' hr;intro t' kk;refine k9 z _ _ ρ' v ?_ k1 k3;exact⟨Z.nx,kk.trans Z.nt,λj x hj=>by simp[fnd]at hj,Z.ob,Z.inj,Z.mine,Z.lv,Z.E,Z.e0,Z.d,Z.out,Z.pin,Z.fpl,Z.g⟩
         ·cases A
       ·cases A
      ·cases A
     ·cases A
  ·have Y:y70 (D:=D) ρ y h6 h5 prev:=by
    have hl:∀s,z6k y s=z6k ts s:=λs=>by unfold z6k;rw[k8]
    exact⟨λp hj hq=>(hp.q p hj hq).imp_right λ⟨R,a,b⟩=>⟨R,a,λl e x N=>by have⟨s,c,d,f⟩:=b l e x N;exact⟨s,c,by rw[hl];exact d,f⟩⟩,λp hj he=>by have⟨w,a,b⟩:=hp.e p hj he;exact⟨w,a,λs e x N=>by rw[hl];exact b s e x N⟩⟩
   split at A
   ·rename_i C m;exact one (c:=y1l ρ []) (v:=.tup []) (H':=σ.H) rfl (.inl ⟨hw,rfl,rfl⟩) kc (mH (B.put m (v:=.tup []) (by simp only[VR];exact⟨[],rfl,by simp only[VRL]⟩))) (Y.quiet (R:=[]) rfl (yq0 m)) A
   ·cases A
theorem y9r{R:Type}{id:Nat}{ops:Array Oper}{d:Bool}{Q:kze->St->Prop}{A:TS D.T->Option R}{y:TV D.T->TS D.T->Option R}{r:R}(htbl:∀e∈tbl,e.Ok P)
  (b:∀a σ' ρ',TRr D F ρ' a σ'->A a=some r->Q .normal σ') (g:∀z a σ' ρ' v,TRr D F ρ' a σ'->VR D ρ' F.lv z v->y z a=some r->Q (.panic v) σ')
  (m:TRr D F ρ ts σ) (h:y6r P D tbl ops d ts A y=some r):Sat P (.region id ops d) σ Q:=by
 unfold y6r at h;split at h
 ·rename_i l;subst l;simp only at h;split at h
  ·rename_i o;split at h
   ·split at h
    ·rename_i k;have⟨i,σ',cl,a,x,w,u,s⟩:=zbx hD htbl ops.toList m h;exact z03o o k i σ' cl x w (b a σ' ρ u s)
    ·cases h
   ·split at h
    ·rename_i k;have⟨i,σ',cl,a,x,w,u,s⟩:=zbx hD htbl _ m h;exact z016 _ o k i σ' cl x w (znb hD htbl b g _ _ (λj=>by simp) u s)
    ·split at h
     ·rename_i k;simp only[Qag]at k;have⟨⟨M,K⟩,I⟩:=k;refine z023 o _ M (Qaj K) (λj C =>?_) (zrp hD htbl b g _ [] [] [] m ⟨λp n=>(by cases n),λp n=>(by cases n)⟩ h);have G:=Qat.1 I j (List.mem_range.2 C);have⟨q,B,E⟩:=List.any_eq_true.1 G;rw[Qaj E];exact B
     ·cases h
  ·cases h
 ·rename_i l;have l:d=false:=by simpa using l
  subst l;exact z004 (znb hD htbl b g ops.toList 0 (λj=>by simp) m h)
end
section
variable {P:Program}
def y71(P:Program)(c:Code)(σ:St)(Q:kze->St->Prop):Prop :=
 ∀W0 g0 H0 W a g,Base W0 g0 H0->(σ.e0=H0.E∧Step W0 g0 H0 W g σ.H)->kzu W a g σ->y2h P c (yjl W0 g0 H0 Q) a W
def y71.sat{c:Code}{σ:St}{Q:kze->St->Prop}(h:y71 P c σ Q):Sat P (.loop c) σ Q:=λW0 g0 H0 W a g i b d=>(h W0 g0 H0 W a g i b d).wp
def y71.round{c:Code}{σ:St}{Q:kze->St->Prop}(h:Sat P c σ (kze.then (λσ'=>y71 P c σ' Q) Q)):y71 P c σ Q:=λW0 g0 H0 W a g j l m=>by
 refine y2h.round (zwu (h W0 g0 H0 W a g j l m) λe a w ⟨g,σ,o,n,i,d,b⟩ =>?_)
 cases n with
 |normal=>exact b W0 g0 H0 w a g j i d
 |exit id=>exact⟨g,σ,_,.exit id,i,d,b⟩
 |ret=>exact⟨g,σ,_,.ret,i,d,b⟩
 |panic v c k=>exact⟨g,σ,_,.panic v c k,i,d,b⟩
end
section
variable {P:Program}{D:Dat}{F:Fr}{R:Type}
structure KOk(D:Dat)(F:Fr)(K:Ks D.T R)(Q:kze->St->Prop)(r:R):Prop where
 kn:∀ts σ,TR D F ts σ->K.kn ts=some r->Q .normal σ
 kx:∀id k ts σ,fnd K.kx id=some k->TR D F ts σ->k ts=some r->Q (.exit id) σ
 kr:∀ts σ,TR D F ts σ->K.kr ts=some r->Q .ret σ
 kp:∀z ts σ ρ v,TRr D F ρ ts σ->VR D ρ F.lv z v->K.kp z ts=some r->Q (.panic v) σ
def AC.Claim(P:Program)(a:AC)(σ:St)(Q:kze->St->Prop):Prop :=
 match a with
 |.loop b=>y71 P b.erase σ Q
 |a=>Sat P a.erase σ Q
def AC.Claim.sat{a:AC}{σ:St}{Q:kze->St->Prop}(h:a.Claim P σ Q):Sat P a.erase σ Q:=by
 cases a <;> first|exact h|exact y71.sat h
def y9o(P:Program)(φ:Nat->AC->(kze->St->Prop)->Prop):AC->(kze->St->Prop)->Prop
 |.seq a b,Q=>y9o P φ a (kze.then (λσ=>Sat P b.erase σ Q) Q)∧y9o P φ b Q
 |.cond _ a b,Q=>y9o P φ a Q∧y9o P φ b Q
 |.block id a,Q=>y9o P φ a (kze.inBlock id Q)
 |.loop a,Q=>y9o P φ a (kze.then (λσ=>y71 P a.erase σ Q) Q)
 |.lab l a,Q=>φ l a Q∧y9o P φ a Q
 |_,_=>True
def AC.site(P:Program)(l:Nat):AC->(kze->St->Prop)->Option (AC×(kze->St->Prop))
 |.seq a b,Q=>match AC.site P l a (kze.then (λσ=>Sat P b.erase σ Q) Q)with
  |some x=>some x
  |none=>AC.site P l b Q
 |.cond _ a b,Q=>match AC.site P l a Q with
  |some x=>some x
  |none=>AC.site P l b Q
 |.block id a,Q=>AC.site P l a (kze.inBlock id Q)
 |.loop a,Q=>AC.site P l a (kze.then (λσ=>y71 P a.erase σ Q) Q)
 |.lab d a,Q=>match Nat.beq d l with
  |true=>some (a,Q)
  |false=>AC.site P l a Q
 |_,_=>none
def AC.labels:AC->List Nat
 |.seq a b=>a.labels++b.labels
 |.cond _ a b=>a.labels++b.labels
 |.block _ a=>a.labels
 |.loop a=>a.labels
 |.lab l a=>l::a.labels
 |_=>[]
def zfz{l:Nat}:∀{c:AC}{Q:kze->St->Prop}{x:AC×(kze->St->Prop)},c.site P l Q=some x->l∈c.labels
 |.seq a b,Q,x,h=>by
  simp only[AC.site]at h;split at h
  ·rename_i y d;exact List.mem_append_left _ (zfz d)
  ·exact List.mem_append_right _ (zfz h)
 |.cond _ a b,Q,x,h=>by
  simp only[AC.site]at h;split at h
  ·rename_i y d;exact List.mem_append_left _ (zfz d)
  ·exact List.mem_append_right _ (zfz h)
 |.block id a,Q,x,h=>zfz (c:=a) h
 |.loop a,Q,x,h=>zfz (c:=a) h
 |.lab g a,Q,x,h=>by
  simp only[AC.site]at h;split at h
  ·rename_i e;rw[Qaj e];exact Qak
  ·exact Qai _ (zfz h)
 |.skip,Q,x,h=>by cases h
 |.region _ _ _,Q,x,h=>by cases h
 |.exit _,Q,x,h=>by cases h
 |.ret,Q,x,h=>by cases h
 |.other _,Q,x,h=>by cases h
def yjs{l:Nat}{c:AC}{Q:kze->St->Prop}(h:l∉c.labels):c.site P l Q=none:=by
 cases a:c.site P l Q with
 |none=>rfl
 |some x=>exact(h (zfz a)).elim
def zn2{φ:Nat->AC->(kze->St->Prop)->Prop}:∀{c:AC}{Q:kze->St->Prop},c.labels.Nodup->(∀l a Q',c.site P l Q=some (a,Q')->φ l a Q')->y9o P φ c Q
 |.seq a b,Q,d,h=>by
  simp only[AC.labels]at d;have d:=List.nodup_append.1 d;refine⟨zn2 d.1 λl x Q' g=>h l x Q' (by simp only[AC.site,g]),zn2 d.2.1 λl x Q' g=>h l x Q' ?_⟩;have i:=zfz g;simp only[AC.site,yjs (P:=P) (Q:=kze.then (λσ=>Sat P b.erase σ Q) Q) (λk=>d.2.2 l k l i rfl)]
  exact g
 |.cond _ a b,Q,d,h=>by
  simp only[AC.labels]at d;have d:=List.nodup_append.1 d;refine⟨zn2 d.1 λl x Q' g=>h l x Q' (by simp only[AC.site,g]),zn2 d.2.1 λl x Q' g=>h l x Q' ?_⟩;have i:=zfz g;simp only[AC.site,yjs (P:=P) (Q:=Q) (λk=>d.2.2 l k l i rfl)]
  exact g
 |.block id a,Q,d,h=>zn2 (c:=a) d λl x Q' g=>h l x Q' g
 |.loop a,Q,d,h=>zn2 (c:=a) d λl x Q' g=>h l x Q' g
 |.lab j a,Q,d,h=>by
  simp only[AC.labels,List.nodup_cons]at d;refine⟨h j a Q (by simp only[AC.site,Nat.beq_refl]),zn2 d.2 λl x Q' g=>h l x Q' ?_⟩;have i:=zfz g
  have:Nat.beq j l=false:=by
   cases e:Nat.beq j l with
   |false=>rfl
   |true=>have:=Qaj e;subst this;exact(d.1 i).elim
  simp only[AC.site,this]
  exact g
 |.skip,Q,d,h=>trivial
 |.region _ _ _,Q,d,h=>trivial
 |.exit _,Q,d,h=>trivial
 |.ret,Q,d,h=>trivial
 |.other _,Q,d,h=>trivial
variable {J:Nat → TS D.T → Option R}{tbl:List (Ent D)}{r:R}(hD:D.Ok P)(htbl:∀ e ∈ tbl, e.Ok P)
def LOk(P:Program)(D:Dat)(F:Fr)(J:Nat->TS D.T->Option R)(r:R)(l:Nat)(a:AC)(Q:kze->St->Prop):Prop:=∀ts σ,TR D F ts σ->J l ts=some r->a.Claim P σ Q
include hD htbl
theorem zd9:∀{c:AC}{ts:TS D.T}{σ:St}{K:Ks D.T R}{Q:kze->St->Prop},KOk D F K Q r->y9o P (LOk P D F J r) c Q->TR D F ts σ->run P D tbl J c ts K=some r->Sat P c.erase σ Q
 |.skip,ts,σ,K,Q,i,j,g,h=>z008 (i.kn ts σ g h)
 |.region id ops d,ts,σ,K,Q,i,j,g,h=>by
  have g:TR D F (pre P D ops d ts) σ:=by
   unfold pre;split
   ·split
    ·split
     ·exact TR.freeze hD g ‹_›
     ·exact g
    ·exact g
   ·exact g
  have⟨τ,ρ,x,o⟩:=g
  exact ypz x (y9r hD htbl (λq σ' ρ' C n=>i.kn q σ' C.tr n) (λz q σ' ρ' v=>i.kp z q σ' ρ' v) o h)
 |.seq a b,ts,σ,K,Q,i,j,g,h=>by
  simp only[run]at h
  exact z04x (zd9 (K:={K with kn:=λts=>run P D tbl J b ts K}) (Q:=kze.then (λσ=>Sat P b.erase σ Q) Q) ⟨λts σ g n=>zd9 i j.2 g n,i.kx,i.kr,i.kp⟩ j.1 g h)
 |.cond c a b,ts,σ,K,Q,i,j,g,h=>by
  simp only[run]at h;have⟨τ,ρ,x,o⟩:=g;refine ypz x ?_;split at h
  ·rename_i v y;have u:=o.ev y;simp only[VR]at u;split at h
   ·rename_i t;have⟨w,B,A⟩:=o.tm t _ y;simp only[VR]at A;subst A;refine yq7 u (λp =>?_) λp =>?_
    ·subst p;exact zd9 i j.1 (o.tell B (by simp only[VR])).tr h
    ·subst p;exact zd9 i j.2 (o.tell B (by simp only[VR])).tr h
   ·refine yq7 u (λp =>?_) λp =>?_
    ·subst p;exact zd9 i j.1 o.tr h
    ·subst p;exact zd9 i j.2 o.tr h
  ·cases h
 |.block id a,ts,σ,K,Q,i,j,g,h=>by
  simp only[run]at h;refine yxs (zd9 (K:={K with kx:=(id,K.kn)::K.kx}) (Q:=kze.inBlock id Q) ⟨λts σ g n=>i.kn ts σ g n,λm k ts σ s g n =>?_,i.kr,i.kp⟩ j g h);replace s:fnd ((id,K.kn)::K.kx) m=some k:=s;rw[yzc]at s;show z00g (Nat.beq m id) (Q .normal σ) (Q (.exit m) σ);split at s
  ·rename_i e;cases s;subst e;rw[Nat.beq_refl];exact i.kn ts σ g n
  ·rename_i e
   have:Nat.beq m id=false:=by
    cases E:Nat.beq m id with
    |false=>rfl
    |true=>exact(e (Qaj E).symm).elim
   rw[this]
   exact i.kx m k ts σ s g n
 |.loop a,ts,σ,K,Q,i,j,g,h=>by simp[run]at h
 |.exit id,ts,σ,K,Q,i,j,g,h=>by
  simp only[run]at h;split at h
  ·rename_i k n;exact z02q (i.kx id k ts σ n g h)
  ·cases h
 |.ret,ts,σ,K,Q,i,j,g,h=>z050 (i.kr ts σ g h)
 |.lab l a,ts,σ,K,Q,i,j,g,h=>(j.1 ts σ g h).sat
 |.other c,ts,σ,K,Q,i,j,g,h=>by simp[run]at h
omit hD htbl in
theorem zmz{l:Nat}:∀{c:AC}{K:Ks D.T R}{kl:TS D.T->Option R}{Q:kze->St->Prop},AC.at P D tbl J l c K kl=none->c.site P l Q=none
 |.seq a b,K,kl,Q,h=>by
  simp only[AC.at]at h;split at h
  ·cases h
  ·rename_i d;simp only[AC.site];rw[zmz d]
   exact zmz h
 |.cond _ a b,K,kl,Q,h=>by
  simp only[AC.at]at h;split at h
  ·cases h
  ·rename_i d;simp only[AC.site];rw[zmz d]
   exact zmz h
 |.block id a,K,kl,Q,h=>zmz (c:=a) (K:={K with kx:=(id,K.kn)::K.kx}) (kl:=λ_=>none) h
 |.loop a,K,kl,Q,h=>zmz (c:=a) (K:={K with kn:=kl}) (kl:=λ_=>none) h
 |.lab g a,K,kl,Q,h=>by
  simp only[AC.at]at h;split at h
  ·cases h
  ·rename_i e;simp only[AC.site,e]
   exact zmz (c:=a) h
 |.skip,K,kl,Q,h=>rfl
 |.region _ _ _,K,kl,Q,h=>rfl
 |.exit _,K,kl,Q,h=>rfl
 |.ret,K,kl,Q,h=>rfl
 |.other _,K,kl,Q,h=>rfl
theorem zll{l:Nat}:∀{c:AC}{K:Ks D.T R}{kl:TS D.T->Option R}{Q:kze->St->Prop}{f:TS D.T->Option R},KOk D F K Q r->(∀b,c = .loop b->∀ts σ,TR D F ts σ->kl ts=some r->y71 P b.erase σ Q)->y9o P (LOk P D F J r) c Q->AC.at P D tbl J l c K kl=some f ->
  ∃a Q',c.site P l Q=some (a,Q')∧∀ts σ,TR D F ts σ->f ts=some r->a.Claim P σ Q'
 |.seq a b,K,kl,Q,f,d,m,j,h=>by
  simp only[AC.at]at h;split at h
  ·rename_i g w;cases h;have⟨x,Q',s,q⟩:=zll (c:=a) (K:={K with kn:=λts=>run P D tbl J b ts K}) (Q:=kze.then (λσ=>Sat P b.erase σ Q) Q) ⟨λts σ n i=>zd9 hD htbl d j.2 n i,d.kx,d.kr,d.kp⟩ (λ_ _ ts σ _ i=>by cases i) j.1 w;exact⟨x,Q',by simp only[AC.site,s],q⟩
  ·rename_i u;have⟨x,Q',s,q⟩:=zll (c:=b) d (λ_ _ ts σ _ i=>by cases i) j.2 h;refine⟨x,Q',?_,q⟩;simp only[AC.site];rw[zmz u]
   exact s
 |.cond _ a b,K,kl,Q,f,d,m,j,h=>by
  simp only[AC.at]at h;split at h
  ·rename_i g w;cases h;have⟨x,Q',s,q⟩:=zll (c:=a) d (λ_ _ ts σ _ i=>by cases i) j.1 w;exact⟨x,Q',by simp only[AC.site,s],q⟩
  ·rename_i u;have⟨x,Q',s,q⟩:=zll (c:=b) d (λ_ _ ts σ _ i=>by cases i) j.2 h;refine⟨x,Q',?_,q⟩;simp only[AC.site];rw[zmz u]
   exact s
 |.block id a,K,kl,Q,f,d,m,j,h=>by
  simp only[AC.at]at h;refine zll (c:=a) (K:={K with kx:=(id,K.kn)::K.kx}) (Q:=kze.inBlock id Q) ⟨λts σ n i=>d.kn ts σ n i,λo k ts σ p n i =>?_,d.kr,d.kp⟩ (λ_ _ ts σ _ i=>by cases i) j h;replace p:fnd ((id,K.kn)::K.kx) o=some k:=p;rw[yzc]at p;show z00g (Nat.beq o id) (Q .normal σ) (Q (.exit o) σ);split at p
  ·rename_i e;cases p;subst e;rw[Nat.beq_refl];exact d.kn ts σ n i
  ·rename_i e
   have:Nat.beq o id=false:=by
    cases B:Nat.beq o id with
    |false=>rfl
    |true=>exact(e (Qaj B).symm).elim
   rw[this]
   exact d.kx o k ts σ p n i
 |.loop a,K,kl,Q,f,d,m,j,h=>by
  simp only[AC.at]at h
  exact zll (c:=a) (K:={K with kn:=kl}) (Q:=kze.then (λσ=>y71 P a.erase σ Q) Q) ⟨λts σ n i=>m a rfl ts σ n i,d.kx,d.kr,d.kp⟩ (λ_ _ ts σ _ i=>by cases i) j h
 |.lab z a,K,kl,Q,f,d,m,j,h=>by
  simp only[AC.at]at h;split at h
  ·rename_i e;have e:=Qaj e;subst e;cases h;refine⟨a,Q,by simp only[AC.site,Nat.beq_refl],λts σ n p =>?_⟩;unfold z02g at p;split at p
   ·rename_i b;exact y71.round (zd9 hD htbl (K:={K with kn:=J z}) (Q:=kze.then (λσ=>y71 P b.erase σ Q) Q) ⟨λts σ n i=>j.1 ts σ n i,d.kx,d.kr,d.kp⟩ j.2 n p)
   ·rename_i y;have:=zd9 hD htbl d j.2 n p
    cases a <;> first|exact this|exact(y _ rfl).elim
  ·rename_i e;have⟨x,Q',s,q⟩:=zll (c:=a) d (λb A ts σ n i=>by subst A;exact j.1 ts σ n i) j.2 h
   exact⟨x,Q',by simp only[AC.site,e];exact s,q⟩
 |.skip,K,kl,Q,f,d,m,j,h=>by cases h
 |.region _ _ _,K,kl,Q,f,d,m,j,h=>by cases h
 |.exit _,K,kl,Q,f,d,m,j,h=>by cases h
 |.ret,K,kl,Q,f,d,m,j,h=>by cases h
 |.other _,K,kl,Q,f,d,m,j,h=>by cases h
end
section
variable {P:Program}{D:Dat}{F:Fr}{ρ:List Slot}{ts:TS D.T}{σ:St}{lv:Nat}{R:Type}
def yrg{α:Type}:∀(l:List α) (k j:Nat) (a:α),fnd (ywp l k) j=some a->k<=j∧l[j-k]? = some a
 |[],k,j,a,h=>by simp[ywp,fnd]at h
 |b::l,k,j,a,h=>by
  simp only[ywp,yzc]at h;split at h
  ·rename_i e;cases h;subst e;simp
  ·have⟨g,d⟩:=yrg l (k+1) j a h;refine⟨by omega,?_⟩;rw[show j-k=(j-(k+1))+1 by omega];simpa using d
def y68:∀(a:List OSh) {k:Nat}{x:HL D.T (z19 a)}{j:Nat},k<=j->j<k+a.length->∃o,fnd (z86 D (λk=>k) a k x) j=some o∧o.live
 |[],k,x,j,d,b=>by simp at b;omega
 |o::a,k,x,j,d,b=>by
  show ∃o',fnd ((k,zn0 D (λk=>k) o (HL.fst _ x))::z86 D (λk=>k) a (k+1) (HL.snd _ x)) j=some o'∧o'.live;rw[yzc];split
  ·exact⟨_,rfl,ykk⟩
  ·exact y68 a (by omega) (by simp only[List.length_cons]at b;omega)
def y76:∀(a:List OSh) {k:Nat}{x:HL D.T (z19 a)}{j:Nat}{o:TO D.T},(j,o)∈z86 D (λk=>k) a k x->fnd (z86 D (λk=>k) a k x) j=some o
 |[],k,x,j,o,h=>by cases h
 |osh::a,k,x,j,o,h=>by
  replace h:(j,o)∈(k,zn0 D (λk=>k) osh (HL.fst _ x))::z86 D (λk=>k) a (k+1) (HL.snd _ x):=h;show fnd ((k,zn0 D (λk=>k) osh (HL.fst _ x))::z86 D (λk=>k) a (k+1) (HL.snd _ x)) j=some o;rw[yzc]
  rcases Qbl.1 h with h|h
  ·injection h with b d;subst b;subst d;rw[Qbx rfl]
  ·have⟨g,b,_,i,_⟩:=zyb a h;rw[Qby (by omega)];exact y76 a h
def zp1(hD:D.Ok P)(d:TRr D F ρ ts σ):∀{g:List ResultVar}{cs:List (TV D.T)},y7d P D ts g=some cs->∃vs,yn3 P σ g=some vs∧VRL D ρ F.lv cs vs
 |[],cs,h=>by simp only[y7d,Qbu]at h;subst h;exact⟨[],rfl,by simp only[VRL]⟩
 |.tmp t::g,cs,h=>by
  simp only[y7d]at h;split at h
  ·rename_i v vs j b;cases h;have⟨i,l,k⟩:=zp1 hD d b;exact⟨σ.t.getD t .any::i,by simp only[yn3,resV,l],by simp only[VRL];exact⟨_,_,rfl,d.tmp j,k⟩⟩
  ·cases h
 |.cell a t::g,cs,h=>by
  simp only[y7d]at h;split at h
  ·rename_i p m;split at h
   ·rename_i v vs j b;cases h;have⟨i,l,k⟩:=zp1 hD d b;have⟨u,o,n⟩:=y85 hD d j (d.tmp m);exact⟨u::i,by simp only[yn3,resV,o,l],by simp only[VRL];exact⟨_,_,rfl,n,k⟩⟩
   ·cases h
  ·cases h
def yp3{c:Code}{σ:St}{Q:kze->St->Prop}(h:Sat P c σ λe σ=>∃τ,zwk σ τ∧(∀v,e ≠ .panic v)∧Q e τ):Sat P c σ Q:=λW0 g0 H0 W a g b j k=>by
 refine zwu (h W0 g0 H0 W a g b j k) λe a w ⟨g,σ,s,q,p,o,τ,n,m,l⟩ =>?_
 have⟨g',i,d⟩:=n W0 g0 H0 w a g b p o;refine⟨g',τ,s,?_,i,d,l⟩
 cases q with
 |normal=>exact .normal
 |exit id=>exact .exit id
 |ret=>exact .ret
 |panic v c u=>exact(m v rfl).elim
def EndQ(D:Dat)(F:Fr)(l:LSh)(pack:HL D.T l.tys->R)(r:R)(e:kze)(σ:St):Prop :=
 match e with
 |.normal| .ret=>∃x,pack x=r∧TR D F (l.bld D x) σ
 |_=>False
def yvo(hD:D.Ok P){l:LSh}(i:F.pin.length<=l.pin)(b:l.pin<=l.os.length){pack:HL D.T l.tys->R}{r:R}:KOk D F (yan D l pack) (EndQ D F l pack r) r:=by
 refine⟨λts σ d h =>?_,λid k ts σ h=>by simp[yan,fnd]at h,λts σ d h =>?_,λz ts σ ρ v _ _ h=>by simp[yan]at h⟩
 ·have⟨x,a,g⟩:=LSh.zg5 hD i b d h;injection a with a;exact⟨x,a,g⟩
 ·have⟨x,a,g⟩:=LSh.zg5 hD i b d h;injection a with a;exact⟨x,a,g⟩
def yxa(P:Program)(D:Dat)(c:Code)(p:Nat)(args:List Sh)(a:List OSh)(b:Nat)(gs:List Nat)(K:Ks D.T R)(go:HL D.T (Sh.z45 args++z19 a)->Option R):Prop :=
 ∀F Q r,F.pin.length<=p->KOk D F K Q r->∀x σ,TR D F (entry D args a b gs x) σ->go x=some r->Sat P c σ Q
def zx0{args:List V}{n:Nat}(cs:List (TV D.T))(h:VRL D ρ lv cs args):∀(j:Nat) (x:TV D.T),fnd (ywp cs 0) j=some x->∃v,(args++List.replicate n V.any)[j]? = some v∧VR D ρ lv x v:=λj x b=>by
 have⟨_,g⟩:=yrg cs 0 j x b;have⟨v,a,d⟩:=h.get j x (by simpa using g);exact⟨v,by rw[Qal (Qaa.1 a).1];exact a,d⟩
def gsB(a:List OSh)(k:Nat):Bool:=match a[k]? with
 |some (.acc _ _ _)=>true
 |some (.deep _ _)=>true
 |_=>false
def z03c{L:List (Option yz5)}{gs:List Nat}{a:List OSh}{n:List Slot}{y:HL D.T (z19 a)}(B:gs.all (gsB a)=true)(Q:n.length=a.length)(I:∀j o,(j,o)∈z86 D (λk=>k) a 0 y->∃sl,n[j]? = some sl∧OR D n lv L sl o) :
  ∀(i s:Nat) (v:V),(gs.map some)[i]? = some (some s)->(gs.map λk=>(n[k]?.map (·.v)).getD .any)[i]? = some v->VR D n lv (.own s) v:=λi s v G E=>by
 rw[Qan,Qaf]at G E;obtain⟨k,l,e⟩:=G;injection e with e;subst e;obtain⟨U,g,e⟩:=E
 rw[l]at g;injection g with g;subst g
 have p:=Qat.1 B k (Qax l)
 have leaf:∀{sl:Slot}{d:OSh}{z:HL D.T d.tys},(match d with| .acc _ _ _=>true| .deep _ _=>true|_=>false)=true->OR D n lv L sl (zn0 D (λk=>k) d z)->sl.v.leaf=true:=λ{sl d z} M b=>by
  cases d <;> simp only[Bool.false_eq_true]at M
  case acc ty t w=>
   simp only[zn0,OR]at b;obtain⟨_,_,b⟩:=b
   cases l:sl.k with
   |none=>rw[l]at b;rcases b with ⟨e,_⟩|⟨⟨e,_⟩,_⟩ <;> (rw[e];rfl)
   |some i=>rw[l]at b;obtain⟨A,O,e,_⟩:=b;rw[e];rfl
  case deep ty q=>
   replace b:OR D n lv L sl (.deep ty q z.1 none):=b;simp only[OR]at b;have b:=b.2
   cases l:sl.k with
   |none=>rw[l]at b;rcases b.2.1 with e|e <;> (rw[e];rfl)
   |some i=>rw[l]at b;obtain⟨A,O,_,e,_⟩:=b;rw[e];rfl
 have C:∀(a:List OSh) (m k:Nat) (d:OSh) (y:HL D.T (z19 a)),a[k]? = some d->∃z:HL D.T d.tys,(m+k,zn0 D (λk=>k) d z)∈z86 D (λk=>k) a m y:=λa=>by
  induction a with
  |nil=>intro m k d y h;simp at h
  |cons o r K=>
   intro m k d y h
   cases k with
   |zero=>simp at h;subst h;exact⟨_,Qak⟩
   |succ k=>
    obtain⟨z,u⟩:=K (m+1) k d (HL.snd _ y) (by simpa using h);exact⟨z,by rw[show m+(k+1)=m+1+k by omega];exact Qai _ u⟩
 unfold gsB at p
 cases b:a[k]? with
 |none=>rw[b]at p;cases p
 |some d=>
  rw[b]at p;obtain⟨z,u⟩:=C a 0 k d y b;obtain⟨sl,x,N⟩:=I _ _ u;rw[Nat.zero_add]at x;rw[x]at e;simp only[VR];refine⟨sl,x,e.symm,?_⟩;have:=leaf (by cases d <;> simp_all) N;rw[<-e];exact this
def z005{gs:List Nat}{l:LSh}{x:HL D.T l.tys}{b ρ':List Slot}{ren:List (Nat×Nat)}(a:ren=gs.map λk=>(k,k))(d:l.gs=gs)(h:∀(i s:Nat) (v:V),(l.bld D x).g[i]? = some (some s)->(gs.map λk=>(b[k]?.map (·.v)).getD .any)[i]? = some v->VR D ρ' lv (.own s) v) :
  ∀q∈ren,∀sl,b[q.1]? = some sl->∃sl',ρ'[q.2]? = some sl'∧sl'.v=sl.v:=λq j sl n=>by
 rw[a]at j;obtain⟨k,o,rfl⟩:=Qbg.1 j;have⟨i,m⟩:=Qbp o;have:=h i k sl.v (by show(l.gs.map some)[i]? = _;rw[d,Qan,m];rfl) (by rw[Qan,m];simp only[Qbr];rw[show b[k]? = some sl from n];rfl);simp only[VR]at this;have⟨sl',u,p,_⟩:=this;exact⟨sl',u,p.symm⟩
def z03z(hD:D.Ok P){e:Ent D}{fn:Func}{code:Code}{Q:Nat}{gs:List Nat}{l:LSh}{pack:HL D.T l.tys->R}{un:R->HL D.T (Sh.z45 e.outs++z19 e.ros)}{go:HL D.T (Sh.z45 e.args++z19 e.aos)->Option R}
  (hf:P.funcs[e.f]? = some fn) (hb:fn.body=some code) (h6:fn.ntmps=Q) (h4:∀args w,(callFunc e.f args).run P w = .ok (.enter e.f args) w) (hd:e.args.length<=Q)
  (h9:∀(R':Type) (x:HL D.T (Sh.z45 e.args++z19 e.aos)) (k:HL D.T (Sh.z45 e.outs++z19 e.ros)->Option R') (kp:HL D.T (e.pan.tys++z19 e.pos)->Option R'),e.go x k kp=(go x).bind λr=>k (un r))
  (M:e.pure=false) (I:e.ren=gs.map λk=>(k,k)) (Y:l.gs=gs) (ha:gs.all (gsB e.aos)=true) (hg:e.p<=l.pin) (h5:l.pin<=l.os.length) (hlen:l.os.length=e.ros.length)
  (W:∀x,y7d P D (l.bld D x) fn.results.toList=some (z41 D (λk=>k) e.outs (HL.fst _ (un (pack x))))∧(l.bld D x).o=z86 D (λk=>k) e.ros 0 (HL.snd _ (un (pack x))))
  (Z:yxa P D code e.p e.args e.aos Q gs (yan D l pack) go):e.Ok P:=λR' x k kp r h=>by
 rw[M];rw[h9]at h;have⟨r0,h1,h2⟩:=zrf h;refine .inl ⟨un r0,h2,λlv L E C vargs k1 k2 k3 k4 =>?_⟩
 have he:vargs.length=e.args.length:=by
  rw[<-k2.length]
  have:∀(l:List Sh) (y:HL D.T (Sh.z45 l)),(z41 D (λk=>k) l y).length=l.length:=λl=>by
   induction l with
   |nil=>intro y;rfl
   |cons s l ih=>intro y;show(zmd D (λk=>k) s (HL.fst _ y)::z41 D (λk=>k) l (HL.snd _ y)).length=_;rw[List.length_cons,ih,List.length_cons]
  exact this _ _
 let F:Fr:=⟨lv,E,E,L,λi=>i<L.length∧∀(k:Nat) (m:Slot),C[k]? = some m->¬m.has i,C.take e.p,gs.map λk=>(C[k]?.map (·.v)).getD .any⟩
 have h3:∀s o,fnd (z86 D (λk=>k) e.aos 0 (HL.snd _ x)) s=some o->∃sl,C[s]? = some sl∧OR D C lv L sl o:=λs o ho=>k3 s o (zat ho)
 have hc:TRr D F C (entry D e.args e.aos Q gs x) ⟨vargs++List.replicate (Q-vargs.length) .any,⟨lv,L,E⟩,[],E⟩:=by
  refine⟨k1,by simp only[entry,Qap,List.length_replicate];omega,zx0 _ k2,h3,λs s' o o' sl sl' i G O l1 l2 u r2=>k4.1 s s' sl sl' i u r2,λs o sl i G l1 u hk ho=>ho.2 s sl u hk,rfl,rfl,rfl,rfl,λi hi=>⟨hi.1,rfl⟩,λj sl N =>?_,λs o sl i G l1 u hk=>k4.2 s sl i u hk,z03c ha k1 k3⟩;simp only[F,Qaw]at N;split at N
  ·exact N
  ·cases N
 refine ywi hf hb h6 h4 (yp3 ((Z F _ r0 (by simp only[F,Qay];omega) (yvo hD (by simp only[F,Qay];omega) h5) x _ hc.tr h1).mono λK σ hq =>?_))
 have X:∀K,(K = .normal∨K = .ret)->(∃x,pack x=r0∧TR D F (l.bld D x) σ)->∃τ,zwk σ τ∧(∀v,K ≠ .panic v)∧z05d P fn (λout H'=>∃L' ρ',H'=⟨lv,L',E⟩∧Left D lv L C e.p L' ρ' e.ros (HL.snd _ (un r0))∧(∀q∈e.ren,∀sl,C[q.1]? = some sl->∃sl',ρ'[q.2]? = some sl'∧sl'.v=sl.v)∧∃vs,out = .ret (ze6 vs)∧VRL D ρ' lv (z41 D (λk=>k) e.outs (HL.fst _ (un r0))) vs) K τ:=λK z ⟨y,hy,τ,ρ',w1,n⟩=>by
  subst hy;have⟨o1,o2⟩:=W y;have⟨vs,q1,q2⟩:=zp1 hD n o1;have hH:τ.H=⟨lv,τ.H.L,E⟩:=zto (F:=F) τ.H n.lv n.E
  have B:Left D lv L C e.p τ.H.L ρ' e.ros (HL.snd _ (un (pack y))):=by
   have A:ρ'.length=e.ros.length:=by rw[n.nx,<-hlen];rfl
   have live:∀s sl,ρ'[s]? = some sl->∃o,fnd (l.bld D y).o s=some o∧o.live:=λs sl hs=>by
    rw[o2];exact y68 e.ros (Qbv _) (by rw[Nat.zero_add,<-A];exact(Qaa.1 hs).1)
   refine⟨A,λj o hm =>?_,λs s' sl sl' i u r2 U c2 =>?_,λs sl i u U =>?_,λi hi h7=>n.out i ⟨hi,h7⟩,λj sl N hs =>?_,λs sl i u U=>by
    have⟨o,G,O⟩:=live s sl u
    exact n.fpl s o sl i G O u U⟩
   ·exact n.ob j o (by rw[o2];exact y76 e.ros hm)
   ·have⟨o,G,O⟩:=live s sl u;have⟨o',b1,b2⟩:=live s' sl' r2;exact n.inj s s' o o' sl sl' i G b1 O b2 u r2 U c2
   ·have⟨o,G,O⟩:=live s sl u;have:=n.mine s o sl i G O u U;by_cases h8:i<L.length
    ·right;by_cases z:∃(k:Nat) (m:Slot),C[k]? = some m∧m.has i
     ·exact z
     ·exact(this ⟨h8,λk m e1 e2=>z ⟨k,m,e1,e2⟩⟩).elim
    ·left;omega
   ·exact n.pin j sl (by simp only[F,Qaw];rw[Qbx N];exact hs)
  refine⟨τ,w1,λv e=>by rcases z with h|h <;> (rw[h]at e;cases e),?_⟩
  rcases z with rfl|rfl
  ·exact⟨ze6 vs,ze6 vs,by simp only[zck,q1,Qbr],n.d,.refl _,τ.H.L,ρ',hH,B,z005 I Y (λi s v a b=>n.g i s v a b),vs,rfl,q2⟩
  ·exact⟨ze6 vs,ze6 vs,by simp only[zck,q1,Qbr],n.d,.refl _,τ.H.L,ρ',hH,B,z005 I Y (λi s v a b=>n.g i s v a b),vs,rfl,q2⟩
 cases K with
 |normal=>exact X _ (.inl rfl) hq
 |ret=>exact X _ (.inr rfl) hq
 |exit id=>exact hq.elim
 |panic v=>exact hq.elim
mutual
def VRn.lvl{p:Nat}:∀{x:TV D.T}{v:V},VR D [] lv x v->VR D [] p x v
 |.own s,v,h=>by simp only[VR]at h;have⟨sl,d,_⟩:=h;simp at d
 |.osl s A,v,h=>by simp only[VR]at h;have⟨sl,j,o,d,_⟩:=h;simp at d
 |.ptr s l,v,h=>by simp only[VR]at h;have⟨sl,i,d,_⟩:=h;simp at d
 |.bp s l,v,h=>by simp only[VR]at h;have⟨sl,i,d,_⟩:=h;simp at d
 |.map s,v,h=>by simp only[VR]at h;have⟨sl,i,d,_⟩:=h;simp at d
 |.mc t es,v,h=>by unfold VR at h ⊢;exact h
 |.ap s t i x l,v,h=>by simp only[VR]at h;have⟨sl,w,d,_⟩:=h;simp at d
 |.dp s i l,v,h=>by simp only[VR]at h;have⟨sl,j,o,m,d,_⟩:=h;simp at d
 |.bsl q cs,v,h=>by simp only[VR]at h ⊢;have⟨vs,d,g⟩:=h;exact⟨vs,d,VRLn.lvl g⟩
 |.ref cs l,v,h=>by simp only[VR]at h ⊢;have⟨vs,d,g⟩:=h;exact⟨vs,d,VRLn.lvl g⟩
 |.fn f a b,v,h=>by simp only[VR]at h ⊢;have⟨z,bs,d,g,u⟩:=h;exact⟨z,bs,d,VRLn.lvl g,VRLn.lvl u⟩
 |.iface t x,v,h=>by simp only[VR]at h ⊢;have⟨y,d,g⟩:=h;exact⟨y,d,VRn.lvl g⟩
 |.agg cs,v,h=>by simp only[VR]at h ⊢;have⟨vs,d,g⟩:=h;exact⟨vs,d,VRLn.lvl g⟩
 |.tup cs,v,h=>by simp only[VR]at h ⊢;have⟨vs,d,g⟩:=h;exact⟨vs,d,VRLn.lvl g⟩
 |.any,v,h=>by simp only[VR]
 |.bool b,v,h=>by simpa only[VR]using h
 |.int k n,v,h=>by simpa only[VR]using h
 |.str b,v,h=>by simpa only[VR]using h
 |.nilp,v,h=>by simpa only[VR]using h
 |.nils,v,h=>by simpa only[VR]using h
 |.mapn,v,h=>by simpa only[VR]using h
 |.nilf,v,h=>by simpa only[VR]using h
 |.nili,v,h=>by simpa only[VR]using h
 |.sl t xs B,v,h=>by simpa only[VR]using h
def VRLn.lvl{a:Nat}:∀{cs:List (TV D.T)}{vs:List V},VRL D [] lv cs vs->VRL D [] a cs vs
 |[],vs,h=>by simpa only[VRL]using h
 |c::cs,vs,h=>by simp only[VRL]at h ⊢;have⟨v,r,g,d,b⟩:=h;exact⟨v,r,g,VRn.lvl d,VRLn.lvl b⟩
end
def DR.vs(hD:D.Ok P){H:Heap}{Dm:Nat->Nat->Prop}{t:DTy}{x:t.S D.T}{v:V}(h:DR D t x v) :
  VS H Dm v (D.el t x)∧∀(j:Nat) (u g:V),v.cells[j]? = some u->(D.el t x).cells[j]? = some g->VS H Dm u g:=by
 have one:∀{t:DTy}{x:t.S D.T}{v:V},v.cells=[v]->(D.el t x).cells=[D.el t x]->VS H Dm v (D.el t x) ->
   VS H Dm v (D.el t x)∧∀(j:Nat) (u g:V),v.cells[j]? = some u->(D.el t x).cells[j]? = some g->VS H Dm u g:=λ{t x v} E C h=>⟨h,λj u g l d=>by
  rw[E]at l;rw[C]at d
  cases j with
  |zero=>simp at l d;subst l;subst d;exact h
  |succ j=>simp at l⟩
 induction h with
 |bool b=>exact one rfl rfl (.keep _ (by simp[V.kin]))
 |int k n=>exact one rfl rfl (.keep _ (by simp[V.kin]))
 |str s=>exact one rfl rfl (.keep _ (by simp[V.kin]))
 |nat n=>exact one (t:=.nat) rfl rfl (.any _)
 |nil t=>exact one rfl rfl (.nil _ _)
 |sl t xs ws full y h o=>
  refine one rfl rfl (.sl _ _ _ _ (by simp[y]) (λj a b z m =>?_) λj a b q v u z m A l =>?_)
  ·rw[Qan,Qaf]at m;obtain⟨x,w,rfl⟩:=m;rw[(h j x a w z).cells hD,yoy hD]
  ·rw[Qan,Qaf]at m;obtain⟨x,w,rfl⟩:=m
   exact(o j x a w z).2 q v u A l
 |st i x vs y h o=>
  have cell:∀(j:Nat) (u g:V),vs[j]? = some u->(D.els (D.fl i) (D.get i x))[j]? = some g->VS H Dm u g:=λj u g l d=>by
   rw[ylh,Qaf]at d;obtain⟨p,B,rfl⟩:=d;exact(o j p u B l).1
  have e:D.el (.st i) x = .agg (D.els (D.fl i) (D.get i x)):=hD.enc i x;rw[e]
  exact⟨.agg _ _ (by rw[yb5,y]) cell,λj u g l d=>cell j u g l d⟩
 |enc i x=>exact⟨.keep _ (hD.kin i x _),λj u g l d=>by
  rw[show D.el (.st i) x=D.enc i x from rfl,l]at d;injection d with d;subst d
  exact .keep _ (zbe (zt0 (hD.kin i x _)) j u l)⟩
def VR.toDR(hD:D.Ok P){t:DTy}{x:t.S D.T}{v:V}(a:t ≠ .nat)(h:VR D ρ lv (D.tv t x) v):DR D t x v:=by
 have leaf:∀{t:DTy}{x:t.S D.T}{v:V},t ≠ .nat->(∀i,t ≠ .st i)->VR D ρ lv (D.leaf t x) v->DR D t x v:=λ{t x v} m l h=>by
  cases t with
  |bool=>simp only[Dat.leaf,VR]at h;subst h;exact .bool _
  |int k=>simp only[Dat.leaf,VR]at h;subst h;exact .int _ _
  |str=>simp only[Dat.leaf,VR]at h;subst h;exact .str _
  |nat=>exact(m rfl).elim
  |sl t=>simp only[Dat.leaf,VR]at h;exact h.1
  |st i=>exact(l i rfl).elim
 cases t with
 |st i=>
  simp only[Dat.tv,VR]at h;obtain⟨vs,rfl,h⟩:=h;refine .st i x vs (by rw[<-h.length,zc4]) λj p u b g =>?_
  have d:=hD.flat i p.1 (Qax (HL.zfq _ _ _ _ b).2);have:=h.y3q (j:=j) (c:=D.leaf p.1 p.2) (by rw[zie,b];rfl) g;have⟨t,y⟩:=p;refine leaf (λe =>?_) (λi e =>?_) this
  ·subst e;exact d.elim
  ·subst e;exact d.elim
 |nat=>exact(a rfl).elim
 |bool=>exact leaf a (by simp) h
 |int k=>exact leaf a (by simp) h
 |str=>exact leaf a (by simp) h
 |sl t=>exact leaf a (by simp) h
def yty:List Sh->Bool
 |[]=>true
 |.d t::l => !decide (t = .nat)&&yty l
 |_=>false
def canon(D:Dat):(l:List Sh)->HL D.T (Sh.z45 l)->List V
 |[],_=>[]
 |.d t::l,x=>D.el t (HL.fst (Sh.tys (.d t)) x).1::canon D l (HL.snd (Sh.tys (.d t)) x)
 |s::l,x=>.any::canon D l (HL.snd s.tys x)
def VRL.lvl{a:Nat}{cs:List (TV D.T)}{vs:List V}(h:VRL D [] lv cs vs):VRL D [] a cs vs:=VRLn.lvl h
def yjv(hD:D.Ok P):∀{l:List Sh}{x:HL D.T (Sh.z45 l)},yty l=true->VRL D ρ lv (z41 D (λk=>k) l x) (canon D l x)
 |[],x,h=>(by simp only[VRL]:VRL D ρ lv [] [])
 |.d t::l,x,h=>by
  simp only[yty,Qag]at h;show VRL D ρ lv (D.tv t (HL.fst (Sh.tys (.d t)) x).1::z41 D (λk=>k) l (HL.snd (Sh.tys (.d t)) x)) (D.el t (HL.fst (Sh.tys (.d t)) x).1::canon D l (HL.snd (Sh.tys (.d t)) x));simp only[VRL];exact⟨_,_,rfl,VR.tv hD (DR.el t _),yjv hD h.2⟩
def ypd(hD:D.Ok P){H:Heap}{Dm:Nat->Nat->Prop}:∀{l:List Sh}{x:HL D.T (Sh.z45 l)}{vs:List V},yty l=true->VRL D ρ lv (z41 D (λk=>k) l x) vs->VSL H Dm vs (canon D l x)
 |[],x,vs,h,a=>by
  replace a:VRL D ρ lv [] vs:=a
  simp only[VRL]at a;subst a;exact .nil
 |.d t::l,x,vs,h,a=>by
  simp only[yty,Qag,Bool.not_eq_true',decide_eq_false_iff_not]at h;replace a:VRL D ρ lv (D.tv t (HL.fst (Sh.tys (.d t)) x).1::z41 D (λk=>k) l (HL.snd (Sh.tys (.d t)) x)) vs:=a;simp only[VRL]at a;obtain⟨v,r,rfl,g,b⟩:=a;exact .cons ((VR.toDR hD h.1 g).vs hD).1 (ypd hD h.2 b)
def z01q{H:Heap}{Dm:Nat->Nat->Prop}{vs a:List V}(h:VSL H Dm vs a):VS H Dm (ze6 vs) (ze6 a):=by
 cases h with
 |nil=>exact .tup' .nil
 |cons b r=>
  cases r with
  |nil=>exact b
  |cons d r=>exact .tup' (.cons b (.cons d r))
def z04a(hD:D.Ok P){e:Ent D}{fn:Func}{code:Code}{u:Nat}{l:LSh}{pack:HL D.T l.tys->R}{un:R->HL D.T (Sh.z45 e.outs++z19 e.ros)}{go:HL D.T (Sh.z45 e.args++z19 e.aos)->Option R}
  (hf:P.funcs[e.f]? = some fn) (hb:fn.body=some code) (Y:fn.ntmps=u) (N:∀args w,(callFunc e.f args).run P w = .ok (.enter e.f args) w) (h3:e.args.length<=u)
  (Z:∀(R':Type) (x:HL D.T (Sh.z45 e.args++z19 e.aos)) (k:HL D.T (Sh.z45 e.outs++z19 e.ros)->Option R') (kp:HL D.T (e.pan.tys++z19 e.pos)->Option R'),e.go x k kp=(go x).bind λr=>k (un r))
  (n:e.pure=true) (K:e.ren=[]) (b:e.aos=[]) (I:e.ros=[]) (g:yty e.outs=true) (X:l.pin<=l.os.length)
  (M:∀x,y7d P D (l.bld D x) fn.results.toList=some (z41 D (λk=>k) e.outs (HL.fst _ (un (pack x)))))
  (G:yxa P D code e.p e.args e.aos u [] (yan D l pack) go):e.Ok P:=λR' x k kp r h=>by
 rw[n];rw[Z]at h;have⟨r0,h1,h2⟩:=zrf h;refine⟨un r0,h2,b,I,K,λh4 vargs k2=>⟨canon D e.outs (HL.fst _ (un r0)),λρ lv=>yjv hD g,?_⟩⟩
 have h5:vargs.length=e.args.length:=by
  rw[<-k2.length]
  have:∀(l:List Sh) (y:HL D.T (Sh.z45 l)),(z41 D (λk=>k) l y).length=l.length:=λl=>by
   induction l with
   |nil=>intro y;rfl
   |cons s l ih=>intro y;show(zmd D (λk=>k) s (HL.fst _ y)::z41 D (λk=>k) l (HL.snd _ y)).length=_;rw[List.length_cons,ih,List.length_cons]
  exact this _ _
 refine z012 hf hb Y N λlv E =>?_
 let F:Fr:=⟨lv+1,E,E,[],λi=>False,[],[]⟩
 have a:∀s (o:TO D.T),fnd (z86 D (λk=>k) e.aos 0 (HL.snd _ x)) s=some o->False:=λs o Q=>by
  have⟨j,_,B,_⟩:=zyb e.aos (zat Q);rw[b]at B;simp at B
 have U:VRL D [] (lv+1) (z41 D (λk=>k) e.args (HL.fst _ x)) vargs:=VRL.lvl k2
 have W:TRr D F [] (entry D e.args e.aos u [] x) ⟨vargs++List.replicate (u-vargs.length) .any,⟨lv+1,[],E⟩,[],E⟩:=by
  refine⟨by simp only[entry,b];rfl,by simp only[entry,Qap,List.length_replicate];omega,zx0 _ U,λs o Q=>(a s o Q).elim,λs s' o o' sl sl' i z=>(a s o z).elim,λs o sl i z=>(a s o z).elim,rfl,rfl,rfl,rfl,λi hi=>hi.elim,λj sl hj=>by simp[F]at hj,λs o sl i z=>(a s o z).elim,λi s v h=>by simp[entry]at h⟩
 refine yp3 ((G F _ r0 (by simp[F]) (yvo hD (by simp[F]) X) x _ W.tr h1).mono λm σ O =>?_)
 have A:∀m,(m = .normal∨m = .ret)->(∃x,pack x=r0∧TR D F (l.bld D x) σ)->∃τ,zwk σ τ∧(∀v,m ≠ .panic v)∧Ends P fn lv E (ze6 (canon D e.outs (HL.fst _ (un r0)))) m τ:=λm C ⟨y,hy,τ,ρ',w1,q⟩=>by
  subst hy;have⟨vs,q1,q2⟩:=zp1 hD q (M y);have hv:=z01q (ypd hD (H:=τ.H) (Dm:=outer lv) g q2);refine⟨τ,w1,λv e=>by rcases C with h|h <;> (rw[h]at e;cases e),?_⟩
  rcases C with rfl|rfl
  ·exact⟨ze6 vs,by simp only[zck,q1,Qbr],q.d,q.E,hv⟩
  ·exact⟨ze6 vs,by simp only[zck,q1,Qbr],q.d,q.E,hv⟩
 cases m with
 |normal=>exact A _ (.inl rfl) O
 |ret=>exact A _ (.inr rfl) O
 |exit id=>exact O.elim
 |panic v=>exact O.elim
structure FI(D:Dat) where
 R:Type
 ent:Nat->Ent D
 c:AC
 K:Ks D.T R
 p:Nat
 args:List Sh
 aos:List OSh
 nt:Nat
 gs:List Nat:=[]
 z6m:Nat->List (Nat×Lb D R)
 go:Nat->HL D.T (Sh.z45 args++z19 aos)->Option R
def y6f{α:Type}(φ:Nat->α->Prop):List (Nat×α)->Prop
 |[]=>True
 |p::l=>φ p.1 p.2∧y6f φ l
def y6f.get{α:Type}{φ:Nat->α->Prop}:∀{l:List (Nat×α)}{j:Nat}{a:α},y6f φ l->(j,a)∈l->φ j a
 |p::l,j,a,h,hm=>by
  rcases Qbl.1 hm with hm|hm
  ·subst hm;exact h.1
  ·exact y6f.get h.2 hm
noncomputable def y6d(P:Program)(D:Dat){R:Type}(tbl:List (Ent D))(J:Nat->TS D.T->Option R)(l:Nat)(c:AC)(K:Ks D.T R)(ts:TS D.T):Option R :=
 match AC.at P D tbl J l c K (λ_=>none)with
 |some g=>g ts
 |none=>none
structure FI.Good(P:Program)(D:Dat)(tbl:Nat->List (Ent D))(f:FI D):Prop where
 nodup:f.c.labels.Nodup
 zero:∀x,f.go 0 x=none
 lzero:∀l lb x,fnd (f.z6m 0) l=some lb->lb.go x=none
 pins:∀n l lb,fnd (f.z6m n) l=some lb->f.p<=lb.sh.pin∧lb.sh.pin<=lb.sh.os.length
 step:∀n x,f.go (n+1) x=run P D (tbl n) (jump D (f.z6m n)) f.c (entry D f.args f.aos f.nt f.gs x) f.K
 lstep:∀n l lb x,fnd (f.z6m (n+1)) l=some lb->lb.go x=y6d P D (tbl n) (jump D (f.z6m n)) l f.c f.K (lb.sh.bld D x)
 ok:∀n,yxa P D f.c.erase f.p f.args f.aos f.nt f.gs f.K (f.go n)->(f.ent n).Ok P
def FI.y9o(P:Program)(D:Dat)(f:FI D)(n:Nat):Prop :=
 ∀F Q r,F.pin.length<=f.p->KOk D F f.K Q r->∀l a Q',f.c.site P l Q=some (a,Q')->∀ts σ,TR D F ts σ->jump D (f.z6m n) l ts=some r->a.Claim P σ Q'
def FI.Good.z6m(hD:D.Ok P){tbl:Nat->List (Ent D)}{f:FI D}(h:f.Good P D tbl):∀n,(∀m,m<n->∀e∈tbl m,e.Ok P)->f.y9o P D n
 |0,_=>λF Q r w s l a Q' p ts σ o d=>by
  unfold jump at d;split at d
  ·rename_i k i;have⟨z,q⟩:=h.pins 0 l k i;have⟨x,j,_⟩:=LSh.zg5 hD (by omega) q o d;rw[h.lzero l k x i]at j;cases j
  ·cases d
 |n+1,u=>λF Q r w s l a Q' p ts σ o d=>by
  have A:=FI.Good.z6m hD h n λm K=>u m (by omega)
  unfold jump at d;split at d
  ·rename_i k i;have⟨z,q⟩:=h.pins (n+1) l k i;have⟨x,j,E⟩:=LSh.zg5 hD (by omega) q o d;rw[h.lstep n l k x i]at j;unfold y6d at j;split at j
   ·rename_i g C;have⟨M,I,y,G⟩:=zll hD (u n (by omega)) s (λb _ ts σ _ B=>by cases B) (zn2 (P:=P) (φ:=LOk P D F (jump D (f.z6m n)) r) h.nodup λl a Q' p ts σ o d=>A F Q r w s l a Q' p ts σ o d) C
    rw[p]at y;cases y
    exact G _ σ E j
   ·cases j
  ·cases d
def FI.Good.runs(hD:D.Ok P){tbl:Nat->List (Ent D)}{f:FI D}(h:f.Good P D tbl):∀n,(∀m,m<n->∀e∈tbl m,e.Ok P)->yxa P D f.c.erase f.p f.args f.aos f.nt f.gs f.K (f.go n)
 |0,_=>λF Q r j g x σ d b=>by rw[h.zero]at b;cases b
 |n+1,i=>λF Q r j g x σ d b=>by
  rw[h.step]at b;have k:=h.z6m hD n λm s=>i m (by omega)
  exact zd9 hD (i n (by omega)) g (zn2 (P:=P) (φ:=LOk P D F (jump D (f.z6m n)) r) h.nodup λl a Q' o ts σ d q=>k F Q r j g l a Q' o ts σ d q) d b
def ring(hD:D.Ok P){a:List (FI D)}{base:Nat->List (Ent D)}(k:∀n,∀e∈base n,e.Ok P)(h:∀f∈a,f.Good P D λn=>a.map (·.ent n)++base n):∀n,∀f∈a,(f.ent n).Ok P:=λn=>by
 induction n using Nat.strongRecOn with
 |ind n d=>
  intro f b;refine(h f b).ok n ((h f b).runs hD n λm i e he =>?_)
  rcases Qbb.1 he with he|he
  ·obtain⟨g,j,rfl⟩:=Qbg.1 he;exact d m i g j
  ·exact k m e he
end
section
variable {P:Program}{D:Dat}{R:Type}
def FI.of(D:Dat)(f nt p:Nat)(args:List Sh)(aos:List OSh)(outs:List Sh)(ros:List OSh)(pure:Bool)(l:LSh){R:Type}(pack:HL D.T l.tys->R)(un:R->HL D.T (Sh.z45 outs++z19 ros))
  (go:Nat->HL D.T (Sh.z45 args++z19 aos)->Option R) (z6m:Nat->List (Nat×Lb D R)) (c:AC) (gs:List Nat:=[]):FI D :=
 {R:=R,ent:=λn=>{f:=f,p:=p,args:=args,aos:=aos,outs:=outs,ros:=ros,pan:=.nilp,pos:=ros,pure:=pure,go:=λx k _=>(go n x).bind λr=>k (un r),ren:=gs.map λk=>(k,k)},
   c:=c,K:=yan D l pack,p:=p,args:=args,aos:=aos,nt:=nt,gs:=gs,z6m:=z6m,go:=go}
def tb(l:List (FI D))(n:Nat):List (Ent D):=l.map (·.ent n)
def FOk(P:Program)(f:FI D):Prop:=∀n,(f.ent n).Ok P
def OkL(P:Program):List (FI D)->Prop
 |[]=>True
 |f::l=>FOk P f∧OkL P l
def yqq(P:Program)(tbl:Nat->List (Ent D)):List (FI D)->Prop
 |[]=>True
 |f::l=>f.Good P D tbl∧yqq P tbl l
def OkL.get:∀{l:List (FI D)}{f:FI D},OkL P l->f∈l->FOk P f
 |g::l,f,h,hm=>by
  rcases Qbl.1 hm with rfl|hm
  ·exact h.1
  ·exact OkL.get h.2 hm
def OkL.of:∀{l:List (FI D)},(∀f∈l,FOk P f)->OkL P l
 |[],h=>trivial
 |f::l,h=>⟨h f Qak,OkL.of λg a=>h g (Qai _ a)⟩
def yqq.get{tbl:Nat->List (Ent D)}:∀{l:List (FI D)}{f:FI D},yqq P tbl l->f∈l->f.Good P D tbl
 |g::l,f,h,hm=>by
  rcases Qbl.1 hm with rfl|hm
  ·exact h.1
  ·exact yqq.get h.2 hm
def z8x(hD:D.Ok P){a bs:List (FI D)}(l:OkL P bs)(h:yqq P (tb (a++bs)) a):OkL P a :=
 OkL.of λf j n=>ring hD (base:=λn=>bs.map (·.ent n)) (λn e k=>by
  obtain⟨b,d,rfl⟩:=Qbg.1 k
  exact l.get d n) (λg i=>by
  have:=h.get i;have e:(tb (a++bs))=λn=>a.map (·.ent n)++bs.map (·.ent n):=by funext n;simp[tb]
  rw[e]at this
  exact this) n f j
def yve:List Nat->List Nat->Bool
 |[],[]=>true
 |a::l,b::r=>Nat.beq a b&&yve l r
 |_,_=>false
def yrq:∀{a b:List Nat},yve a b=true->a=b
 |[],[],_=>rfl
 |[],_::_,h=>by cases h
 |_::_,[],h=>by cases h
 |a::l,b::r,h=>by
  simp only[yve,Qag]at h;rw[Qaj h.1,yrq h.2]
def chkB(p d:Nat)(args outs:List Sh)(b a:List OSh)(pure:Bool)(l:LSh)(c:AC)(gs:List Nat):Bool :=
 Nat.ble args.length d&&Nat.ble p l.pin&&Nat.ble l.pin l.os.length &&
 (match pure with
  |true=>b.isEmpty&&a.isEmpty&&yty outs&&gs.isEmpty
  |false=>Nat.beq l.os.length a.length&&yve l.gs gs&&gs.all (gsB b))
def yfi(p:Nat):List (Nat×Lb D R)->Bool
 |[]=>true
 |(_,a)::r=>Nat.ble p a.sh.pin&&Nat.ble a.sh.pin a.sh.os.length&&yfi p r
def y7j{p:Nat}:∀{l:List (Nat×Lb D R)},yfi p l=true->y6f (λ_ a=>p<=a.sh.pin∧a.sh.pin<=a.sh.os.length) l
 |[],h=>trivial
 |(_,a)::r,h=>by
  simp only[yfi,Qag,Nat.ble_eq]at h;exact⟨h.1,y7j h.2⟩
def FI.z3l{hD:D.Ok P}{f y p:Nat}{args:List Sh}{b:List OSh}{outs:List Sh}{a:List OSh}{pure:Bool}{l:LSh}{pack:HL D.T l.tys->R}{un:R->HL D.T (Sh.z45 outs++z19 a)}
  {go:Nat->HL D.T (Sh.z45 args++z19 b)->Option R} {z6m:Nat->List (Nat×Lb D R)}{c:AC}{gs:List Nat}{tbl:Nat->List (Ent D)}{fn:Func}
  (E:P.funcs[f]? = some fn) (s:fn.ntmps=y) (g:∀args w,(callFunc f args).run P w = .ok (.enter f args) w)
  (G:fn.body=some c.erase) (A:c.labels.Nodup) (i:chkB p y args outs b a pure l c gs=true) (O:∀n,yfi p (z6m n)=true)
  (d:∀x,y7d P D (l.bld D x) fn.results.toList=some (z41 D (λk=>k) outs (HL.fst _ (un (pack x)))))
  (M:∀x,go 0 x=none) (B:y6f (λ_ m=>∀x,m.go x=none) (z6m 0))
  (N:∀n x,go (n+1) x=run P D (tbl n) (jump D (z6m n)) c (entry D args b y gs x) (yan D l pack))
  (C:∀n,y6f (λj m=>∀x,m.go x=y6d P D (tbl n) (jump D (z6m n)) j c (yan D l pack) (m.sh.bld D x)) (z6m (n+1)))
  (u:∀x,pure=true∨(l.bld D x).o=z86 D (λk=>k) a 0 (HL.snd _ (un (pack x)))) :
  (FI.of D f y p args b outs a pure l pack un go z6m c gs).Good P D tbl where
 nodup:=A
 zero:=M
 lzero:=λj m x h=>B.get (zat h) x
 pins:=λn j m h=>(y7j (O n)).get (zat h)
 step:=N
 lstep:=λn j m x h=>(C n).get (zat h) x
 ok:=λn h=>by
  simp only[chkB,Qag,Nat.ble_eq]at i;have⟨⟨⟨K,U⟩,I⟩,q⟩:=i
  cases pure with
  |true=>
   simp only[Qag,List.isEmpty_iff]at q;obtain⟨⟨⟨rfl,rfl⟩,z⟩,rfl⟩:=q
   exact z04a (l:=l) (pack:=pack) (un:=un) (go:=go n) (code:=c.erase) hD E G s g K (λ_ _ _ _=>rfl) rfl rfl rfl rfl z I d h
  |false=>
   simp only[Qag]at q;have⟨⟨q,Q⟩,z⟩:=q;exact z03z (gs:=gs) (l:=l) (pack:=pack) (un:=un) (go:=go n) (code:=c.erase) hD E G s g K (λ_ _ _ _=>rfl) rfl rfl (yrq Q) z U I (Qaj q) (λx=>⟨d x,(u x).resolve_left (by simp)⟩) h
end
end Go.Ab
