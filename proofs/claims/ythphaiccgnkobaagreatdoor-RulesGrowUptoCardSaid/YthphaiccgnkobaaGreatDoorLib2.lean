/-
  WHAT A LAW IS GIVEN: arguments that read as data are abstract values over a memory in which nothing is owned.
-/
import Derived.Test.YthphaiccgnkobaaGreatDoorLib1
import Derived.WalkKit
import Derived.ProofKit
import Derived.OpenShut
import Derived.JoinedCond
import Derived.Carry
import Derived.Lib.Builder
import Derived.Lib.UnsafeStr
import Derived.Laws.MakeOwn
import Derived.Laws.IdiomStrings
import Derived.Recover
import Derived.RangeFuncCalls
import Derived.RangeFuncLeaves
namespace Go.Ab
open Go
set_option linter.unusedSimpArgs false
set_option linter.unusedVariables false
mutual
def zko{H:Type}:DataW H->Nat
 |.lit (.string bytes)=>bytes.length+1
 |.lit _=>1
 |.nil=>1
 |.ptr d=>zko d+1
 |.slice elems spare=>zgj elems+zgj spare+1
 |.agg parts=>zgj parts+1
 |.iface _ d=>zko d+1
 |.map entries=>zpo entries+1
 |.held _=>1
def zgj{H:Type}:List (DataW H)->Nat
 |[]=>0
 |d::r=>zko d+zgj r
def zpo{H:Type}:List (Lit×DataW H)->Nat
 |[]=>0
 |x::r=>y63 x+zpo r
def y63{H:Type}:Lit×DataW H->Nat
 |(.string bytes,d)=>bytes.length+zko d+1
 |(_,d)=>zko d+1
end
def g0:Gh:=⟨λ_ _=>False,λ_ _=>0,λ_ _=>0,λ_ _=>0,0⟩
def H0:Heap:=⟨0,[],λ_ _=>none⟩
theorem get0(l i):H0.get l i=none:=by unfold Heap.get H0;split <;> simp
theorem own0(g)(b):¬Own g H0 b:=λ⟨l,i,o,h,_⟩=>by rw[get0]at h;cases h
theorem z055(W)(hl:zkx W g0 H0):Good W g0 H0 where
 dom l i o h:=by rw[get0]at h;cases h
 lt l i o h:=by rw[get0]at h;cases h
 inj l i o l' i' o' h:=by rw[get0]at h;cases h
 fresh l i h:=h.elim
 obj l i o h:=by rw[get0]at h;cases h
 zns:=hl
 base:=Qbo _
theorem yjx(cs):(V.agg cs).cells=cs:=rfl
structure Ty(α:Type) where
 el:α->V
 len:Nat
 size:α->Nat
 wf:α->Prop
 hlen:∀x,(el x).cells.length=len
def RelC(W:World)(cs:List Value)(o:Nat)(vs:List V):Prop:=∀(j) (v),vs[j]? = some v->∃c,cs[o+j]? = some c∧c.oneCell'=true∧Rel W g0 H0 v c
structure Reads(P:Program)(n t:Nat){α:Type}(T:Ty α):Prop where
 get:∀{H:Type}(enc:TypeId×Value->H) (W:World) (cs:List Value) (d:DataW H) (ps:List MemPlace),DataW.trod enc P W 0 (λ_=>true) true n t cs=some (d,ps) ->
  ∃x,cs.length=T.len∧RelC W cs 0 (T.el x).cells∧T.wf x∧T.size x<=zko d
def Ty.int(k:IntKind):Ty Int:=⟨λn=>.int k n,1,λ_=>1,λn=>k.min<=n∧n<=k.max,λ_=>rfl⟩
def Ty.bool:Ty Bool:=⟨λn=>.bool n,1,λ_=>1,λ_=>True,λ_=>rfl⟩
def Ty.str:Ty B8:=⟨λn=>.str n,1,λs=>s.length+1,λ_=>True,λ_=>rfl⟩
def Ty.slice{α}(T:Ty α):Ty (List α):=⟨λxs=>.sl T.len (xs.map T.el) false,1,λxs=>(xs.map T.size).sum+1,λxs=>∀x∈xs,T.wf x,λ_=>rfl⟩
variable {P : Program}
theorem zw4{W c v}(h1:c.oneCell'=true)(h:Rel W g0 H0 v c)(hv:v.cells=[v]):RelC W [c] 0 v.cells:=λj u hj=>by
 rw[hv]at hj
 cases j with
 |zero=>grind
 |succ j=>simp at hj
theorem zfg{t:Nat}{k}(ht:P.underlying t=some (.int k))(n):Reads P n t (.int k):=.mk λenc W cs d ps h=>by
 obtain⟨m,rfl,hx,hw⟩:=DataW.trod_int ht h;cases hx;exact⟨m,rfl,zw4 rfl (.int _ _) rfl,by simpa[Ty.int,Lit.wf]using hw,by simp[Ty.int,zko]⟩
theorem ys2{t:Nat}(ht:P.underlying t=some .bool)(n):Reads P n t .bool:=.mk λenc W cs d ps h=>by
 obtain⟨m,rfl,hx⟩:=DataW.trod_bool ht h;cases hx;exact⟨m,rfl,zw4 rfl (.bool _) rfl,trivial,by simp[Ty.bool,zko]⟩
theorem zjd{t:Nat}(ht:P.underlying t=some .string)(n):Reads P n t .str:=.mk λenc W cs d ps h=>by
 obtain⟨s,rfl,hx,hw⟩:=DataW.trod_string ht h;cases hx;exact⟨s.data.toList,rfl,zw4 rfl (.str _) rfl,trivial,by simp[Ty.str,zko]⟩
theorem yj9{W:World}{a n cs}(h:W.cells? 0 a n=some cs):cs.length=n∧∀i,i<n->W.cell? (a.add i)=cs[i]? := by
 exact⟨by simpa using mapM_some_length h,λi hi=>mapM_some_get h i i (by simp[hi])⟩
theorem yrn{α:Type}{n}{p:Nat->α->Prop}(h:∀i,i<n->∃x,p i x):∃xs:List α,xs.length=n∧∀i x,xs[i]? = some x->p i x:=by
 induction n with
 |zero=>simp_all
 |succ n ih=>
  obtain⟨xs,h1,h2⟩:=ih λi hi=>h i (by omega)
  obtain⟨x,hx⟩:=h n (by omega);refine⟨xs++[x],by simp[h1],λi y hy =>?_⟩
  grind
theorem y7u{H}{α:Type}(f):∀(xs:List α) (ds),xs.length=ds.length->(∀(i:Nat) (x) (d:DataW H),xs[i]? = some x->ds[i]? = some d->f x<=zko d)->(xs.map f).sum<=zgj ds
 |[],ds,_,_=>by simp
 |x::xs,[],h,_=>by simp at h
 |x::xs,d::ds,h,hh=>by
  have h1:=hh 0 x d rfl rfl;have h2:=y7u f xs ds (by simpa using h) λi x d h1 h2=>hh (i+1) x d (by simpa using h1) (by simpa using h2)
  grind[zgj]
theorem z9i{t e:Nat}(ht:P.underlying t=some (.slice e)){α}{T:Ty α}(hc:P.cellsOf e=T.len)(hz:0<T.len){n}(he:∀m,m<n->Reads P m e T):Reads P n t T.slice:=.mk λenc W cs d ps h=>by
 rcases DataW.trod_slice ht h with ⟨rfl,hx⟩|⟨a,len,cap,elems,rest,m,rfl,rfl,hx,_,h1,h2,h3,h4,h5,_⟩
 cases hx;refine⟨[],rfl,zw4 rfl (.slnil _ _) rfl,by simp[Ty.slice],by simp[Ty.slice,zko]⟩;cases hx;rw[hc]at h4
 have key:∀i,i<len->∃x:α,(∀j v,(T.el x).cells[j]? = some v->∃c,W.cell? (a.add (i * T.len+j))=some c∧c.oneCell'=true∧Rel W g0 H0 v c)∧T.wf x∧(∀d,elems[i]? = some d->T.size x<=zko d.1)∧a.spot=none:=λi hi=>by
  have h6:=h4 i hi;have hlt:i<elems.length:=by omega
  rw[Qab hlt,Qbx]at h6;obtain⟨cs',q1,q2⟩:=h6;obtain⟨k1,k2⟩:=yj9 q1;obtain⟨x,x1,x2,x3,x4⟩:=(he m (by omega)).get enc W cs' _ _ q2;refine⟨x,λj v hj =>?_,x3,λd hd=>by grind,?_⟩;obtain⟨c,c1,c2,c3⟩:=x2 j v hj;rw[Nat.zero_add]at c1;refine⟨c,?_,c2,c3⟩;have hj':=(Qaa.1 c1).1;rw[<-c1,<-k2 j (by omega)];unfold Addr.add;split
  grind
  by_cases hj0:j=0
  grind
  rw[Qbr hj0];by_cases hi0:i * T.len=0;simp[hi0]
  grind
  have h0:=h4 0 (by omega);rw[Qab (show 0<elems.length by omega),Qbx]at h0;obtain⟨cs0,z1,_⟩:=h0;have z2:=(yj9 z1);have z3:=z2.2 0 hz;have:cs0[0]? = some (cs0[0]'(by omega)):=Qab _;rw[this]at z3;simp[Addr.add,if_true]at z3;unfold World.cell? at z3;split at z3
  simp_all
  cases z3
 obtain⟨xs,hl,hall⟩:=yrn key;refine⟨xs,rfl,?_,λx hx =>?_,?_⟩;refine zw4 rfl ?_ rfl;show Rel W g0 H0 (.sl T.len (xs.map T.el) false) _;by_cases h0:len=0;have:xs=[]:=Qao (by omega);subst this;subst h0;exact .sle _ _ a cap (by simp);have hs:=(hall 0 (xs[0]'(by omega)) (Qab _)).2.2.2
 have hadd:∀k,a.add k=⟨a.block,a.off+k,none⟩:=λk=>by
  unfold Addr.add;split;rename_i hk;subst hk;cases a;grind;rfl
 have ha:a=⟨a.block,a.off,none⟩:=by cases a;simp at hs;subst hs;rfl
 have hln:len=(xs.map T.el).length:=by simp[hl]
 have e1:∀(j:Nat) (x:V) (t:Nat) (v:V),(xs.map T.el)[j]? = some x->x.cells[t]? = some v->∃c,W.cell? ⟨a.block,a.off+j * T.len+t,none⟩=some c∧c.oneCell'=true∧Rel W g0 H0 v c:=λj x t v hj ht=>by
  rw[Qan,Qaf]at hj;obtain⟨y,hy,rfl⟩:=hj
  grind
 rw[ha,hln];refine .sl T.len (xs.map T.el) false a.block a.off cap (λj t=>(W.cell? ⟨a.block,a.off+j * T.len+t,none⟩).getD undef) (own0 _ _) hz (by omega) (by simp) (λj x hj =>?_) (λj x t v hj ht =>?_) (λj x t v hj ht =>?_) (λj x t v hj ht =>?_);rw[Qan,Qaf]at hj;obtain⟨y,hy,rfl⟩:=hj;exact T.hlen y;obtain⟨c,c1,_,_⟩:=e1 j x t v hj ht;rw[c1];rfl
 grind
 grind
 grind[List.mem_iff_getElem?]
 have:=y7u T.size xs (elems.map (·.1)) (by simp;omega) λi x d hx hd=>by
  rw[Qan,Qaf]at hd;obtain⟨y,hy,rfl⟩:=hd
  grind
 simp[Ty.slice,zko];omega
structure ykc(P:Program)(n:Nat)(fs:List Field)(o:Nat){α:Type}(T:Ty α):Prop where
 get:∀{H:Type}(enc:TypeId×Value->H) (W:World) (cs:List Value) (xs:List (DataW H×List MemPlace)),xs.length=fs.length ->
  (∀(i:Nat) (f:Field),fs[i]? = some f->DataW.trod enc P W 0 (λ_=>true) true n f.type ((cs.drop f.offset).take (P.cellsOf f.type))=xs[i]?) ->
  ∃x,RelC W cs o (T.el x).cells∧T.wf x∧T.size x<=zgj (xs.map (·.1))
def Ty.unit:Ty Unit:=⟨λ_=>.agg [],0,λ_=>0,λ_=>True,λ_=>rfl⟩
def Ty.pair{α β}(A:Ty α)(B:Ty β):Ty (α×β):=⟨λx=>.agg ((A.el x.1).cells++(B.el x.2).cells),A.len+B.len,λx=>A.size x.1+B.size x.2,λx=>A.wf x.1∧B.wf x.2,λx=>by rw[yjx,Qap,A.hlen,B.hlen]⟩
def Ty.struct{α}(A:Ty α):Ty α:=⟨λx=>.agg (A.el x).cells,A.len,λx=>A.size x+1,A.wf,λx=>by rw[yjx,A.hlen]⟩
theorem zd4{n o}:ykc P n [] o .unit:=.mk λenc W cs xs h _=>by
 exact⟨(),λj v hj=>by simp[Ty.unit,V.cells]at hj,trivial,by simp[Ty.unit]⟩
theorem yzc{n o f fs α β}{A:Ty α}{B:Ty β}(ho:f.offset=o)(_hk:P.cellsOf f.type=A.len)(ha:Reads P n f.type A)(hb:ykc P n fs (o+A.len) B):ykc P n (f::fs) o (.pair A B):=.mk λenc W cs xs h hh=>by
 obtain⟨y,ys,rfl⟩:∃y ys,xs=y::ys:=by
  cases xs with
  |nil=>simp at h
  |cons y ys=>grind
 obtain⟨x,x1,x2,x3,x4⟩:=ha.get enc W _ _ _ (hh 0 f rfl);obtain⟨z,z1,z2,z3⟩:=hb.get enc W cs ys (by simpa using h) λi f hf=>by have:=hh (i+1) f (by simpa using hf);simpa using this
 refine⟨(x,z),λj v hj =>?_,⟨x3,z2⟩,by grind[Ty.pair,zgj]⟩;rw[show((Ty.pair A B).el (x,z)).cells=(A.el x).cells++(B.el z).cells from rfl,Qba]at hj;split at hj;rename_i hlt;obtain⟨c,c1,c2,c3⟩:=x2 j v hj
 simp_all[Qaw]
 rename_i hge;obtain⟨c,c1,c2,c3⟩:=z1 _ v hj;refine⟨c,?_,c2,c3⟩;rw[A.hlen]at hge c1;rw[<-c1];congr 1;omega
theorem z9b{t:Nat}{fs}(ht:P.underlying t=some (.struct fs)){α}{A:Ty α}(hk:P.cellsOf t=A.len){n}(h:∀m,m<n->ykc P m fs.toList 0 A):Reads P n t A.struct:=.mk λenc W cs d ps hd=>by
 obtain⟨xs,m,rfl,hx,h1,h2,h3⟩:=DataW.trod_struct ht hd;cases hx;obtain⟨x,x1,x2,x3⟩:=(h m (by omega)).get enc W cs xs (by simpa using h2) λi f hf=>h3 i f (by simpa using hf)
 exact⟨x,by rw[h1,hk];rfl,x1,x2,by simp[Ty.struct,zko];omega⟩
theorem Reads.conv{n t α β A B}(h:Reads P n t A)(g:α->β)(hel:∀x,B.el (g x)=A.el x)(hl:B.len=A.len)(hw:∀x,A.wf x->B.wf (g x))(hs:∀x,B.size (g x)<=A.size x):Reads P n t B:=.mk λenc W cs d ps hd=>by
 obtain⟨x,x1,x2,x3,x4⟩:=h.get enc W cs d ps hd
 grind
structure yrq(P:Program)(t:Nat){α:Type}(T:Ty α):Prop where
 get:∀{H:Type}(enc:TypeId×Value->H) (W:World) (base:Nat) (v:Value) (d:DataW H) (ps:List MemPlace),DataW.Trod enc P W 0 (λ_=>true) true t v d ps->Value.okWide P W .any base t v ->
  ∃x,Rel W g0 H0 (T.el x) v∧T.wf x∧T.size x<=zko d
theorem z05w{W r}{base t:Nat}{cs}(h:Cell.okWide P W r base t (.agg cs)):False:=by
 simp_all[Cell.okWide,Cell.ok]
theorem z03h{t α}{T:Ty α}(h:∀n,Reads P n t T)(hc:∀x,(T.el x).cells=[T.el x])(hnot:(match P.underlying t with|some (.struct _)|some (.array _ _)=>false|_=>true)=true):yrq P t T:=.mk λenc W base v d ps hd hv=>by
 obtain⟨fuel,hd⟩:=hd;obtain⟨x,x1,x2,x3,x4⟩:=(h fuel).get enc W _ d ps hd
 have hcell:v.cells = #[v]:=by
  unfold Value.okWide at hv;split at hv
  simp_all
  simp_all
  cases v <;> first|rfl|exact(z05w hv).elim
 obtain⟨c,c1,c2,c3⟩:=x2 0 (T.el x) (by rw[hc];rfl)
 grind
theorem yb3{t:Nat}{fs α}{T:Ty α}(ht:P.underlying t=some (.struct fs))(h:∀n,Reads P n t T)(hc:∀x,T.el x = .agg (T.el x).cells):yrq P t T:=.mk λenc W base v d ps hd hv=>by
 obtain⟨fuel,hd⟩:=hd;obtain⟨x,x1,x2,x3,x4⟩:=(h fuel).get enc W _ d ps hd;refine⟨x,?_,x3,x4⟩;unfold Value.okWide at hv;rw[ht]at hv;obtain⟨cs,rfl,h1,_⟩:=hv;rw[hc];have hx1:=by simpa[Value.cells]using x1
 have get:∀j v,(T.el x).cells[j]? = some v->(cs.getD j undef).oneCell'=true∧Rel W g0 H0 v (cs.getD j undef):=λj v hj=>by
  obtain⟨c,c1,c2,c3⟩:=x2 j v hj;simp[Value.cells,Array.getElem?_toList]at c1;rw[Qae,c1];exact⟨c2,c3⟩
 exact .agg _ _ (by rw[hx1,T.hlen]) (λj v hj=>(get j v hj).1) λj v hj=>(get j v hj).2
theorem z00v{fn:Func}{s:ChangeSpec}{W W' args H enc ds gs before}{tb:Nat}{fresh handsOn}
  (hl:laidOutB P=true) (hv:s.vars=[]) (hp:∀t∈fn.params.toList,P.readableRec t=true∧t<P.types.size) (hrt:fn.resultTypes = #[tb]) (htb:P.underlying tb=some .bool)
  (hs:(s.fn H ds).results=[.lit (.bool true)]∧(s.fn H ds).args=ds∧(s.fn H ds).vars=[]) (hW:DataW.Whole enc P fn.params.toList s.vars false W args.toList ds gs before) (hg:RowKit.Below W.heap.size W W') :
  s.post enc P fn false fresh handsOn false W args (.bool true) W':=by
 have hW0:=hW;obtain⟨p,q,hA,hV,rfl,hfz,hnd⟩:=hW;rw[hv]at hV;obtain⟨rfl,rfl⟩:=ChangeShapes.trodVars_none hV;have hlt:=hW0.lt
 have again:∀(ts:List Nat) (vs:List Value) (ds:List (DataW H)) (p:List MemPlace),(∀t∈ts,P.readableRec t=true∧t<P.types.size)->(∀x∈p,x.block<W.heap.size)->DataW.TrodAll enc P W 0 (λ_=>true) true ts vs ds p ->
   DataW.TrodAll enc P W' 0 (λb=>decide (b<W.heap.size)) true ts vs ds p:=by
  intro ts
  induction ts with
  |nil=>intro vs ds p _ _ h;obtain⟨rfl,rfl,rfl⟩:=ChangeShapes.trodAll_nil h;exact ChangeShapes.trodAll_mk0
  |cons t ts ih=>
   intro vs ds p h1 h2 h;obtain⟨v,vs',d,ds',p',q',rfl,rfl,rfl,k1,k2⟩:=ChangeShapes.trodAll_cons h;exact trodAll_cons_mk (RowKit.Below.trod hl (h1 t (by simp)).1 (h1 t (by simp)).2 k1 hg λx hx=>h2 x (by simp[hx])) (ih vs' ds' q' (λt ht=>h1 t (by simp[ht])) (λx hx=>h2 x (by simp[hx])) k2)
 refine⟨ds,[],p++[],[],p,[],hW0,?_,?_,?_,?_,λh=>by cases h⟩;rw[List.append_nil,hs.1,hrt]
 have hb:=λb=>by
  have:=trodAll_cons_mk (P:=P) (enc:=enc) (w:=W') (base:=b) (spare:=λ_=>false) (held:=handsOn) (RowKit.shut_bool htb true) ChangeShapes.trodAll_mk0;simpa using this
 exact hb _
 grind
 rw[List.append_nil,hs.2.2,hv];exact rfl;exact hg.frame _
theorem y1h{W W' g g' H'}(h:Step W g H0 W' g' H'):RowKit.Below W.heap.size W W' :=
 ⟨h.os,h.tape,h.output,h.size,λk hk=>h.block k hk (own0 _ _)⟩
theorem ywv{f vargs H' cargs W}(h:y0g P f vargs H0 (.bool true) H')(hent:∀args w,(callFunc f args).run P w = .ok (.enter f args) w)(ha:zk0 W g0 H0 vargs cargs)(hl:zkx W g0 H0) :
  Calls P f cargs W λe W'=>e = .returned (.bool true)∧RowKit.Below W.heap.size W W':=by
 rcases h W g0 cargs (z055 W hl) ha with ⟨_,hc⟩|⟨c,W',g',hc,_⟩
 refine hc.mono λe W' ⟨c,g',he,hs,_,hr⟩ =>?_
 cases hr;exact⟨he,y1h hs⟩
 grind
theorem z03u{W g H vs}{cs:List Value}(h:cs.length=vs.length)(hh:∀(j:Nat) (v:V),vs[j]? = some v->∃c,cs[j]? = some c∧Rel W g H v c):zk0 W g H vs cs.toArray :=
 ⟨by simpa using h,λj v hj=>by obtain⟨c,c1,c2⟩:=hh j v hj;simp_all⟩
mutual
def V.ren(a n:Nat):V->V
 |.ptr l i off=>if l=a+1 then .ptr a (n+i) off else .ptr l i off
 |.ref cs off=>.ref (V.zxj a n cs) off
 |.ap l i ver idx off=>if l=a+1 then .ap a (n+i) ver idx off else .ap l i ver idx off
 |.sl sz xs full=>.sl sz (V.zxj a n xs) full
 |.hs l i ver off m full=>if l=a+1 then .hs a (n+i) ver off m full else .hs l i ver off m full
 |.map l i=>if l=a+1 then .map a (n+i)else .map l i
 |.fn f x y=>.fn f (V.zxj a n x) (V.zxj a n y)
 |.iface t v=>.iface t (V.ren a n v)
 |.agg cs=>.agg (V.zxj a n cs)
 |.tup vs=>.tup (V.zxj a n vs)
 |v=>v
def V.zxj(a n:Nat):List V->List V
 |[]=>[]
 |v::vs=>V.ren a n v::V.zxj a n vs
end
def kzg.ren(a n:Nat):kzg->kzg
 |.cells cs=>.cells (V.zxj a n cs)
 |.arr ver ty sz xs cp=>.arr ver ty sz (V.zxj a n xs) cp
 |.map es=>.map (es.map λp=>(V.ren a n p.1,V.ren a n p.2))
 |.siter s pos=>.siter s pos
 |.mit es vis=>.mit es vis
section
variable {P : Program}
structure BackX(H H':Heap)(σ:St)(v r:V):Prop where
 res:r=V.ren H.lv H.L.length v
 lv:H'.lv=H.lv
 len:H'.L.length=H.L.length+σ.H.L.length
 old:∀l i,(l<H.lv∨(l=H.lv∧i<H.L.length))->∀o',H'.get l i=some o'->∃o,σ.H.E l i=some o∧(o'=kzg.ren H.lv H.L.length o∨(o'=o∧H.get l i=some o))
 new:∀i o',H'.get H.lv (H.L.length+i)=some o'->∃o,σ.H.get (H.lv+1) i=some o∧o'=kzg.ren H.lv H.L.length o
 high:∀l i,H.lv<l->H'.E l i=H.E l i
end
end Go.Ab
namespace Go.Ab
open Go
set_option linter.unusedSimpArgs false
set_option linter.unusedVariables false
section
variable {P : Program}
structure yxc where
 ty:Nat
 sz:Nat
 v:V
 xs:List V
 w:Bool
def z02n(lv:Nat)(L:List (Option kzg))(k:Option Nat)(a:yxc):Prop :=
 match k with
 |none=>(a.v = .nils∧a.xs=[])∨(a.v = .sl a.sz a.xs true∧(a.w=true->a.xs=[]))
 |some i=>∃ver cp,a.v = .hs lv i ver 0 a.xs.length false∧L[i]? = some (some (.arr ver a.ty a.sz a.xs cp))
def zj7(lv:Nat)(L:List (Option kzg))(as:List yxc)(os:List (Nat×kzg)):Prop :=
 ∃ks:List (Option Nat),ks.length=as.length∧(∀(j:Nat) (k) (a),ks[j]? = some k->as[j]? = some a->z02n lv L k a) ∧
  (∀(i j:Nat) (n),ks[i]? = some (some n)->ks[j]? = some (some n)->i=j)∧(∀p∈os,L[p.1]? = some (some p.2)∧∀j:Nat,ks[j]? ≠ some (some p.1))
theorem z02n.lt{lv L i a}(h:z02n lv L (some i) a):i<L.length:=by
 obtain⟨ver,cp,_,h⟩:=h
 grind
theorem zj7.nil(lv)(L):zj7 lv L [] []:=⟨[],rfl,by simp,by simp,by simp⟩
theorem zj7.cons{lv L as os}(h:zj7 lv L as os)(ty sz)(w):zj7 lv L (⟨ty,sz,.nils,[],w⟩::as) os:=by
 obtain⟨ks,h1,h2,h3,h4⟩:=h;refine⟨none::ks,by simp[h1],λj k a hk ha =>?_,λi j n hi hj =>?_,λp hp=>⟨(h4 p hp).1,λj hj =>?_⟩⟩
 cases j with
 |zero=>simp at hk ha;subst hk;subst ha;exact .inl ⟨rfl,rfl⟩
 |succ j=>grind
 grind
 grind
theorem zj7.grow{lv L as os}(h:zj7 lv L as os)(x):zj7 lv (L++[x]) as os:=by
 obtain⟨ks,h1,h2,h3,h4⟩:=h;refine⟨ks,h1,λj k a hk ha =>?_,h3,λp hp=>⟨?_,(h4 p hp).2⟩⟩;have:=h2 j k a hk ha
 cases k with
 |none=>exact this
 |some i=>obtain⟨ver,cp,q1,q2⟩:=this;exact⟨ver,cp,q1,by grind⟩
 grind
theorem zj7.obj{lv L as os}(h:zj7 lv L as os)(o):zj7 lv (L++[some o]) as ((L.length,o)::os):=by
 obtain⟨ks,h1,h2,h3,h4⟩:=h;refine⟨ks,h1,λj k a hk ha =>?_,h3,λp hp =>?_⟩;have:=h2 j k a hk ha
 cases k with
 |none=>exact this
 |some i=>obtain⟨ver,cp,q1,q2⟩:=this;exact⟨ver,cp,q1,by grind⟩
 rcases Qbg.1 hp with rfl|hp
 refine⟨by simp,λj hj =>?_⟩;have hl:=(Qaa.1 hj).1;have ha:as[j]? = some (as[j]'(by omega)):=Qab _;have:=(h2 j _ _ hj ha).lt;simp at this
 grind
theorem zj7.get{lv L as os}(h:zj7 lv L as os){i o}(hm:(i,o)∈os):L[i]? = some (some o):=by
 obtain⟨ks,h1,h2,h3,h4⟩:=h;exact(h4 _ hm).1
theorem zj7.sub{lv L as os os'}(h:zj7 lv L as os)(hs:∀p∈os',p∈os):zj7 lv L as os':=by
 obtain⟨ks,h1,h2,h3,h4⟩:=h;exact⟨ks,h1,h2,h3,λp hp=>h4 p (hs p hp)⟩
theorem zj7.setObj{lv L as os}(h:zj7 lv L as os){i o}(hm:(i,o)∈os)(o'):zj7 lv (L.set i (some o')) as (os.map λp=>if p.1=i then (i,o')else p):=by
 obtain⟨ks,h1,h2,h3,h4⟩:=h;refine⟨ks,h1,λj k a hk ha =>?_,h3,λp hp =>?_⟩;have:=h2 j k a hk ha
 cases k with
 |none=>exact this
 |some n=>
  obtain⟨ver,cp,q1,q2⟩:=this;refine⟨ver,cp,q1,?_⟩;have:n≠i:=λhe=>(h4 _ hm).2 j (by rw[hk,he])
  grind
 grind
theorem zj7.push{lv:Nat}{L:List (Option kzg)}{as:List yxc}{os:List (Nat×kzg)}(h:zj7 lv L as os){j:Nat}{ty sz:Nat}{v:V}{xs:List V}{w:Bool}(hj:as[j]? = some ⟨ty,sz,v,xs,w⟩)(ys:List V)(hr:xs.length+ys.length<=zh1)(E:Nat->Nat->Option kzg) :
  ∃v' L',z1t ⟨lv,L,E⟩ ty sz v ys=some (v',⟨lv,L',E⟩)∧zj7 lv L' (as.set j ⟨ty,sz,v',xs++ys,w⟩) os:=by
 obtain⟨ks,h1,h2,h3,h4⟩:=h;have hjl:=(Qaa.1 hj).1;have hk:ks[j]? = some (ks[j]'(by omega)):=Qab _;generalize ks[j]'(by omega)=k at hk;have hA:=h2 j k _ hk hj
 have hset:∀(i:Nat) (a:yxc) (b:yxc),(as.set j b)[i]? = some a->(i=j∧a=b)∨(i≠j∧as[i]? = some a):=λi a b hi=>by
  by_cases he:i=j
  subst he;rw[Qaq (by omega)]at hi;injection hi with hi;exact .inl ⟨rfl,hi.symm⟩
  rw[Qam (Ne.symm he)]at hi;exact .inr ⟨he,hi⟩
 cases k with
 |none=>
  cases ys with
  |nil=>
   rcases hA with ⟨hv,hx⟩|hv
   simp only at hv hx;subst hv;subst hx;refine⟨.nils,L,rfl,ks,by simp[h1],λi k a hk' ha =>?_,h3,h4⟩
   rcases hset i a _ ha with ⟨rfl,rfl⟩|⟨_,ha⟩
   rw[hk]at hk';injection hk' with hk';subst hk';exact .inl ⟨rfl,rfl⟩
   exact h2 i k a hk' ha;obtain⟨hv,hw⟩:=hv;simp only at hv hw;subst hv;refine⟨.sl sz xs true,L,by simp[z1t],ks,by simp[h1],λi k a hk' ha =>?_,h3,h4⟩
   rcases hset i a _ ha with ⟨rfl,rfl⟩|⟨_,ha⟩
   rw[hk]at hk';injection hk' with hk';subst hk';exact .inr ⟨by simp,by simpa using hw⟩
   exact h2 i k a hk' ha
  |cons y r=>
   have happ:z1t ⟨lv,L,E⟩ ty sz v (y::r)=some (.hs lv L.length 0 0 (xs.length+(y::r).length) false,⟨lv,L++[some (.arr 0 ty sz (xs++y::r) none)],E⟩):=by
    rcases hA with ⟨hv,hx⟩|hv
    simp only at hv hx;subst hv;subst hx;simp only[z1t,Heap.push];rw[Qbq (by simpa using hr)];simp;obtain⟨hv,hw⟩:=hv;simp only at hv hw;subst hv;simp only[z1t,Heap.push,if_true];rw[Qbq (by simpa using hr)]
   refine⟨_,_,happ,ks.set j (some L.length),by simp[h1],λi k a hk' ha =>?_,λi i' n hi hi' =>?_,λp hp=>⟨?_,λi hi =>?_⟩⟩
   rcases hset i a _ ha with ⟨rfl,rfl⟩|⟨hne,ha⟩
   rw[Qaq (by omega)]at hk';injection hk' with hk';subst hk'
   exact⟨0,none,by simp,by simp⟩;rw[Qam (Ne.symm hne)]at hk';have:=h2 i k a hk' ha
   cases k with
   |none=>exact this
   |some n=>obtain⟨ver,cp,q1,q2⟩:=this;exact⟨ver,cp,q1,by rw[Qal (Qaa.1 q2).1];exact q2⟩
   have low:∀i n,i≠j->(ks.set j (some L.length))[i]? = some (some n)->n<L.length:=λi n hne hi=>by
    rw[Qam (Ne.symm hne)]at hi;have hl:=(Qaa.1 hi).1;exact(h2 i _ (as[i]'(by omega)) hi (Qab _)).lt
   by_cases e1:i=j <;> by_cases e2:i'=j
   rw[e1,e2]
   subst e1;rw[Qaq (by omega)]at hi;injection hi with hi;injection hi with hi
   have:=low i' n e2 hi';omega
   subst e2;rw[Qaq (by omega)]at hi';injection hi' with hi';injection hi' with hi'
   have:=low i n e1 hi;omega;rw[Qam (Ne.symm e1)]at hi;rw[Qam (Ne.symm e2)]at hi';exact h3 i i' n hi hi';rw[Qal (Qaa.1 (h4 p hp).1).1];exact(h4 p hp).1;have hlt:=(Qaa.1 (h4 p hp).1).1;by_cases e1:i=j
   subst e1;rw[Qaq (by omega)]at hi;injection hi with hi;injection hi with hi;omega
   rw[Qam (Ne.symm e1)]at hi;exact(h4 p hp).2 i hi
 |some n=>
  obtain⟨ver,cp,hv,hL⟩:=hA;simp only at hv hL;subst hv;have hn:=(Qaa.1 hL).1;refine⟨.hs lv n (ver+1) 0 (xs.length+ys.length) false,L.set n (some (.arr (ver+1) ty sz (xs++ys) none)),?_,ks,by simp[h1],λi k a hk' ha =>?_,h3,λp hp=>⟨?_,(h4 p hp).2⟩⟩;simp only[z1t,Heap.get,Heap.set,if_true,hL,Option.join_some];rw[Qbq (by simpa using hr)]
  rcases hset i a _ ha with ⟨rfl,rfl⟩|⟨hne,ha⟩
  rw[hk]at hk';injection hk' with hk';subst hk'
  exact⟨ver+1,none,by simp,by simp[hn]⟩;have:=h2 i k a hk' ha
  cases k with
  |none=>exact this
  |some n'=>
   obtain⟨ver',cp',q1,q2⟩:=this;refine⟨ver',cp',q1,?_⟩;have:n'≠n:=λhe=>hne (h3 i j n (by rw[hk',he]) hk)
   rw[Qam (Ne.symm this)];exact q2
  have hlt:=(Qaa.1 (h4 p hp).1).1;have:p.1≠n:=λhe=>(h4 p hp).2 j (by rw[hk,he])
  rw[Qam (Ne.symm this)];exact(h4 p hp).1
theorem z81{D}{α:Type}{f}{l:List α}(h:∀x∈l,V.kin D (f x)):V.zcd D (l.map f) :=
 zff λv hv=>by grind
end
section
variable {P : Program}
end
def ix{α:Type}(l:List α)(i:Int):Option α:=if 0<=i then l[i.toNat]? else none
def sub{α:Type}(l:List α)(lo hi:Int):Option (List α):=if 0<=lo∧lo<=hi∧hi<=l.length then some ((l.take hi.toNat).drop lo.toNat)else none
def cat(x y:B8):Option B8:=if x.length+y.length<=maxLen then some (x++y)else none
def ext{α:Type}(x y:List α):Option (List α):=if x.length+y.length<=zh1 then some (x++y)else none
def z8a{T:Type}(m:List (B8×T))(k:B8):Option T:=(m.find? λp=>k==p.1).map (·.2)
def zc5{T:Type}(m:List (B8×T))(k:B8)(x:T):List (B8×T):=match m.findIdx? (λp=>k==p.1)with|none=>m++[(k,x)]|some j=>m.set j (k,x)
def quo(k:IntKind)(x y:Int):Option Int:=if y=0 then none else some (k.wrap (x.tdiv y))
def rem(k:IntKind)(x y:Int):Option Int:=if y=0 then none else some (x.tmod y)
theorem zje{α l i}{x:α}(h:ix l i=some x):0<=i∧l[i.toNat]? = some x:=by
 grind[ix]
theorem yp2{α}{l y:List α}{lo hi}(h:sub l lo hi=some y):0<=lo∧lo<=hi∧hi<=l.length∧y=(l.take hi.toNat).drop lo.toNat∧0<=hi∧lo<=(hi.toNat:Int):=by
 grind[sub]
theorem z035{x y z}(h:cat x y=some z):x.length+y.length<=maxLen∧z=x++y:=by
 grind[cat]
theorem y3c{α}{x y z:List α}(h:ext x y=some z):x.length+y.length<=zh1∧z=x++y:=by
 simp_all[ext]
theorem z02f{k x y z}(h:quo k x y=some z):y≠0∧z=k.wrap (x.tdiv y):=by
 grind[quo]
theorem yyz{k x y z}(h:rem k x y=some z):y≠0∧z=x.tmod y:=by
 grind[rem]
theorem zqg{α:Type}{o}{β:Type}{f:α->Option β}{r}(h:o.bind f=some r):∃x,o=some x∧f x=some r:=by
 cases o with
 |none=>cases h
 |some x=>exact⟨x,rfl,h⟩
def an:Nat->List V->List V
 |0,l=>l
 |n+1,l=>.any::an n l
structure zbr(lv:Nat)(L:List (Option kzg))(as:List yxc)(os:List (Nat×kzg)):Prop where
 accs:zj7 lv L as os
 nodup:(os.map (·.1)).Nodup
theorem zbr.nil(lv):zbr lv [] [] []:=⟨zj7.nil _ _,by simp⟩
theorem zbr.get{lv L as os}(h:zbr lv L as os){k i:Nat}{o}(hk:os[k]? = some (i,o)):L[i]? = some (some o) :=
 h.accs.get (Qax hk)
theorem zbr.obj{lv L as os}(h:zbr lv L as os)(o):zbr lv (L++[some o]) as ((L.length,o)::os):=by
 refine⟨h.accs.obj o,?_⟩;rw[List.map_cons,List.nodup_cons];refine⟨λha =>?_,h.nodup⟩;obtain⟨p,hp,hq⟩:=Qbc.1 ha;have:=(Qaa.1 (h.accs.get (show(p.1,p.2)∈os from hp))).1;omega
theorem zbr.upd{lv L as os}(h:zbr lv L as os){k i o}(hk:os[k]? = some (i,o))(o'):zbr lv (L.set i (some o')) as (os.set k (i,o')):=by
 have hm:=Qax hk
 have hmap:os.map (λp=>if p.1=i then (i,o')else p)=os.set k (i,o'):=by
  apply List.ext_getElem?;intro j;rw[Qan,Qbd];by_cases hj:k=j;subst hj;rw[Qbq rfl,hk,Qbq (Qaa.1 hk).1];simp;rw[Qbr hj]
  cases hq:os[j]? with
  |none=>rfl
  |some p=>
   simp only[Qbk];rw[Qbr];intro he;have h1:(os.map (·.1))[j]? = some i:=by grind
   have h2:(os.map (·.1))[k]? = some i:=by grind
   have hlt:=(Qaa.1 h1).1;exact hj (((List.getElem?_inj hlt h.nodup).1 (h1.trans h2.symm)).symm)
 refine⟨?_,?_⟩;rw[<-hmap];exact h.accs.setObj hm o'
 have:(os.set k (i,o')).map (·.1)=os.map (·.1):=by
  rw[List.map_set];apply List.ext_getElem?;intro j;rw[Qbd];split;rename_i hj;subst hj;have h2:(os.map (·.1))[k]? = some i:=by grind
  grind
  rfl
 rw[this];exact h.nodup
theorem zbr.pick{lv L as os os'}(h:zbr lv L as os)(hs:os'.Sublist os):zbr lv L as os' :=
 ⟨h.accs.sub λp hp=>hs.subset hp,h.nodup.sublist (hs.map _)⟩
theorem zbr.cons{lv L as os}(h:zbr lv L as os)(ty sz)(w):zbr lv L (⟨ty,sz,.nils,[],w⟩::as) os:=⟨h.accs.cons ty sz w,h.nodup⟩
theorem zbr.push{lv L as os}(h:zbr lv L as os){j ty sz v xs w}(hj:as[j]? = some ⟨ty,sz,v,xs,w⟩)(ys)(hr:xs.length+ys.length<=zh1)(E) :
  ∃v' L',z1t ⟨lv,L,E⟩ ty sz v ys=some (v',⟨lv,L',E⟩)∧zbr lv L' (as.set j ⟨ty,sz,v',xs++ys,w⟩) os:=by
 obtain⟨v',L',h1,h2⟩:=h.accs.push hj ys hr E;exact⟨v',L',h1,h2,h.nodup⟩
theorem zbr.form{lv L as os}(h:zbr lv L as os){j:Nat}{ty sz v xs w}(hj:as[j]? = some ⟨ty,sz,v,xs,w⟩) :
  (v = .nils∧xs=[])∨(v = .sl sz xs true∧(w=true->xs=[]))∨∃i ver cp,v = .hs lv i ver 0 xs.length false∧L[i]? = some (some (.arr ver ty sz xs cp)):=by
 obtain⟨ks,h1,h2,h3,h4⟩:=h.accs;have hjl:=(Qaa.1 hj).1;have hk:ks[j]? = some (ks[j]'(by omega)):=Qab _;generalize ks[j]'(by omega)=k at hk;have hA:=h2 j k _ hk hj
 cases k with
 |none=>rcases hA with hA|hA
        exact .inl hA
        grind
 |some n=>obtain⟨ver,cp,q1,q2⟩:=hA;grind
theorem zbr.len{P lv L as os}(h:zbr lv L as os){j:Nat}{ty sz v xs w}(hj:as[j]? = some ⟨ty,sz,v,xs,w⟩){t e:Nat}(ht:P.underlying t=some (.slice e))(E) :
  zqd P ⟨lv,L,E⟩ t v=some (.int .i64 xs.length):=by
 rcases h.form hj with ⟨rfl,rfl⟩|⟨rfl,hw⟩|⟨i,ver,cp,rfl,hL⟩
 simp[zqd,ht];simp[zqd,ht];simp[zqd,ht,Heap.get,hL]
theorem zbr.whole{lv L as os}(h:zbr lv L as os){j:Nat}{ty sz v xs w}(hj:as[j]? = some ⟨ty,sz,v,xs,w⟩):v.kzh=true∧v.cells=[v]∧v.leaf=true:=by
 rcases h.form hj with ⟨rfl,rfl⟩|⟨rfl,hw⟩|⟨i,ver,cp,rfl,hL⟩
 exact⟨rfl,rfl,rfl⟩;exact⟨rfl,rfl,rfl⟩;exact⟨rfl,rfl,rfl⟩
theorem zbr.at{P lv L as os}(h:zbr lv L as os){j:Nat}{ty sz v xs w}(hj:as[j]? = some ⟨ty,sz,v,xs,w⟩){t e:Nat}(ht:P.underlying t=some (.slice e))
  (hz:sz=P.cellsOf e) (he:(P.underlying e).isSome=true) {i x} (h0:0<=i) (hx:xs[i.toNat]? = some x) (E) :
  ∃q:Nat->V,yzo P ⟨lv,L,E⟩ t v (.int .i64 i)=some (q 0)∧(∀s f o off,zrf P s f=some o->zbi P s f (q off)=some (q (off+o)))∧∀t' off,zco P ⟨lv,L,E⟩ t' (q off)=rd P t' x.cells off:=by
 rcases h.form hj with ⟨rfl,rfl⟩|⟨rfl,hw⟩|⟨k,ver,cp,rfl,hL⟩
 simp at hx;exact⟨λo=>.ref x.cells o,by simp[yzo,ht,h0,hz,he,hx],λs f o off hf=>by simp[zbi,hf],λt' off=>by simp[zco]⟩;refine⟨λo=>.ap lv k ver i.toNat o,?_,λs f o off hf=>by simp[zbi,hf],λt' off=>by simp[zco,y0w,Heap.get,hL,hx]⟩
 grind[yzo,Heap.get]
theorem zj7.setAt{lv L as os}(h:zj7 lv L as os){j n ver a cp}(hj:as[j]? = some a)(hv:a.v = .hs lv n ver 0 a.xs.length false)(hL:L[n]? = some (some (.arr ver a.ty a.sz a.xs cp)))(hn:a.xs≠[]){ys}(hys:ys.length=a.xs.length) :
  zj7 lv (L.set n (some (.arr ver a.ty a.sz ys cp))) (as.set j ⟨a.ty,a.sz,a.v,ys,a.w⟩) os:=by
 obtain⟨ks,h1,h2,h3,h4⟩:=h;have hjl:=(Qaa.1 hj).1;have hkj:ks[j]? = some (ks[j]'(by omega)):=Qab _;generalize ks[j]'(by omega)=k at hkj
 have hk:ks[j]? = some (some n):=by
  have hA:=h2 j k _ hkj hj
  cases k with
  |none=>rcases hA with ⟨h,_⟩|⟨h,_⟩ <;> rw[hv]at h <;> cases h
  |some m=>
   obtain⟨ver',cp',q1,_⟩:=hA
   grind
 refine⟨ks,by simp[h1],λi k a' hki ha =>?_,h3,λp hp=>⟨?_,(h4 p hp).2⟩⟩;by_cases he:i=j;subst he;rw[Qaq (by omega)]at ha;cases ha;rw[hk]at hki;cases hki;exact⟨ver,cp,by rw[hv,hys],by grind⟩;rw[Qam (Ne.symm he)]at ha;have hA:=h2 i k a' hki ha
 cases k with
 |none=>exact hA
 |some m=>
  obtain⟨ver',cp',q1,q2⟩:=hA;have:m≠n:=λhh=>he (h3 i j n (by rw[hki,hh]) hk)
  exact⟨ver',cp',q1,by grind⟩
 grind
theorem zbr.put{P lv L as os}(h:zbr lv L as os){j ty sz v xs}(hj:as[j]? = some ⟨ty,sz,v,xs,true⟩){t e:Nat}(ht:P.underlying t=some (.slice e))
  (hz:sz=P.cellsOf e) (he:(P.underlying e).isSome=true) {i x} (h0:0<=i) (hx:xs[i.toNat]? = some x) (E) :
  ∃q:Nat->V,yzo P ⟨lv,L,E⟩ t v (.int .i64 i)=some (q 0)∧(∀s f o off,zrf P s f=some o->zbi P s f (q off)=some (q (off+o)))∧(∀t' off,zco P ⟨lv,L,E⟩ t' (q off)=rd P t' x.cells off) ∧
   ∀(t' off:Nat) (y),y.kzh=true->(P.info? t').isSome=true->y.cells.length=P.cellsOf t'->off+y.cells.length<=x.cells.length->fits x (kzt x.cells off y.cells)=true ->
    ∃L',zey P ⟨lv,L,E⟩ t' (q off) y=some (.any,⟨lv,L',E⟩)∧zbr lv L' (as.set j ⟨ty,sz,v,xs.set i.toNat (zcc x (kzt x.cells off y.cells)),true⟩) os:=by
 have hne:xs≠[]:=λhh=>by subst hh;simp at hx
 rcases h.form hj with ⟨rfl,rfl⟩|⟨rfl,hw⟩|⟨k,ver,cp,rfl,hL⟩
 simp at hx
 grind
 refine⟨λo=>.ap lv k ver i.toNat o,?_,λs f o off hf=>by simp[zbi,hf],λt' off=>by simp[zco,y0w,Heap.get,hL,hx],λt' off y y1 y2 y3 y4 y5 =>?_⟩
 grind[yzo,Heap.get]
 refine⟨L.set k (some (.arr ver ty sz (xs.set i.toNat (zcc x (kzt x.cells off y.cells))) cp)),?_,h.accs.setAt hj rfl hL hne (by simp),h.nodup⟩
 grind[zey,Heap.get,Heap.set]
theorem zbr.arr{lv L as os}(h:zbr lv L as os)(ver ty sz)(xs)(cp)(w) :
  zbr lv (L++[some (.arr ver ty sz xs cp)]) (⟨ty,sz,.hs lv L.length ver 0 xs.length false,xs,w⟩::as) os:=by
 obtain⟨⟨ks,h1,h2,h3,h4⟩,h5⟩:=h
 have low:∀(i n:Nat),ks[i]? = some (some n)->n<L.length:=λi n hi=>by
  have hl:=(Qaa.1 hi).1;exact(h2 i _ (as[i]'(by omega)) hi (Qab _)).lt
 refine⟨⟨some L.length::ks,by simp[h1],λi k a hk ha =>?_,λi i' n hi hi' =>?_,λp hp=>⟨?_,λi hi =>?_⟩⟩,h5⟩
 cases i with
 |zero=>simp at hk ha;subst hk;subst ha;exact⟨ver,cp,rfl,by simp⟩
 |succ i=>
  have hA:=h2 i k a (by simpa using hk) (by simpa using ha)
  cases k with
  |none=>exact hA
  |some n=>obtain⟨ver',cp',q1,q2⟩:=hA;exact⟨ver',cp',q1,by grind⟩
 grind
 grind
 grind
@[simp] theorem vc_any:V.cells V.any=[V.any]:=rfl
@[simp] theorem vl_any:V.leaf V.any=false:=rfl
@[simp] theorem vso_any:V.kzh V.any=false:=rfl
@[simp] theorem vc_bool (b):V.cells (V.bool b)=[(V.bool b)]:=rfl
@[simp] theorem vl_bool (b):V.leaf (V.bool b)=true:=rfl
@[simp] theorem vso_bool (b):V.kzh (V.bool b)=true:=rfl
@[simp] theorem vc_int (k) (n):V.cells (V.int k n)=[(V.int k n)]:=rfl
@[simp] theorem vl_int (k) (n):V.leaf (V.int k n)=true:=rfl
@[simp] theorem vso_int (k) (n):V.kzh (V.int k n)=true:=rfl
@[simp] theorem vc_str (s):V.cells (V.str s)=[(V.str s)]:=rfl
@[simp] theorem vl_str (s):V.leaf (V.str s)=true:=rfl
@[simp] theorem vso_str (s):V.kzh (V.str s)=true:=rfl
@[simp] theorem vc_nilp:V.cells V.nilp=[V.nilp]:=rfl
@[simp] theorem vl_nilp:V.leaf V.nilp=true:=rfl
@[simp] theorem vso_nilp:V.kzh V.nilp=true:=rfl
@[simp] theorem vc_ptr (l i o):V.cells (V.ptr l i o)=[(V.ptr l i o)]:=rfl
@[simp] theorem vl_ptr (l i o):V.leaf (V.ptr l i o)=true:=rfl
@[simp] theorem vso_ptr (l i o):V.kzh (V.ptr l i o)=true:=rfl
@[simp] theorem vc_ref (cs) (o):V.cells (V.ref cs o)=[(V.ref cs o)]:=rfl
@[simp] theorem vl_ref (cs) (o):V.leaf (V.ref cs o)=true:=rfl
@[simp] theorem vso_ref (cs) (o):V.kzh (V.ref cs o)=true:=rfl
@[simp] theorem vc_ap (l i v x o):V.cells (V.ap l i v x o)=[(V.ap l i v x o)]:=rfl
@[simp] theorem vl_ap (l i v x o):V.leaf (V.ap l i v x o)=true:=rfl
@[simp] theorem vso_ap (l i v x o):V.kzh (V.ap l i v x o)=true:=rfl
@[simp] theorem vc_nils:V.cells V.nils=[V.nils]:=rfl
@[simp] theorem vl_nils:V.leaf V.nils=true:=rfl
@[simp] theorem vso_nils:V.kzh V.nils=true:=rfl
@[simp] theorem vc_sl (z) (xs) (f):V.cells (V.sl z xs f)=[(V.sl z xs f)]:=rfl
@[simp] theorem vl_sl (z) (xs) (f):V.leaf (V.sl z xs f)=true:=rfl
@[simp] theorem vso_sl (z) (xs) (f):V.kzh (V.sl z xs f)=true:=rfl
@[simp] theorem vc_hs (l i v o n) (f):V.cells (V.hs l i v o n f)=[(V.hs l i v o n f)]:=rfl
@[simp] theorem vl_hs (l i v o n) (f):V.leaf (V.hs l i v o n f)=true:=rfl
@[simp] theorem vso_hs (l i v o n) (f):V.kzh (V.hs l i v o n f)=true:=rfl
@[simp] theorem vc_mapn:V.cells V.mapn=[V.mapn]:=rfl
@[simp] theorem vl_mapn:V.leaf V.mapn=true:=rfl
@[simp] theorem vso_mapn:V.kzh V.mapn=true:=rfl
@[simp] theorem vc_map (l i):V.cells (V.map l i)=[(V.map l i)]:=rfl
@[simp] theorem vl_map (l i):V.leaf (V.map l i)=true:=rfl
@[simp] theorem vso_map (l i):V.kzh (V.map l i)=true:=rfl
@[simp] theorem vc_fn (f) (a b):V.cells (V.fn f a b)=[(V.fn f a b)]:=rfl
@[simp] theorem vl_fn (f) (a b):V.leaf (V.fn f a b)=true:=rfl
@[simp] theorem vso_fn (f) (a b):V.kzh (V.fn f a b)=true:=rfl
@[simp] theorem vc_nilf:V.cells V.nilf=[V.nilf]:=rfl
@[simp] theorem vl_nilf:V.leaf V.nilf=true:=rfl
@[simp] theorem vso_nilf:V.kzh V.nilf=true:=rfl
@[simp] theorem vc_iface (t) (v):V.cells (V.iface t v)=[(V.iface t v)]:=rfl
@[simp] theorem vl_iface (t) (v):V.leaf (V.iface t v)=true:=rfl
@[simp] theorem z06i (t) (v):V.kzh (V.iface t v)=true:=rfl
@[simp] theorem vc_nili:V.cells V.nili=[V.nili]:=rfl
@[simp] theorem vl_nili:V.leaf V.nili=true:=rfl
@[simp] theorem vso_nili:V.kzh V.nili=true:=rfl
@[simp] theorem vc_agg (cs):V.cells (V.agg cs)=cs:=rfl
@[simp] theorem vl_agg (cs):V.leaf (V.agg cs)=false:=rfl
@[simp] theorem vso_agg (cs):V.kzh (V.agg cs)=true:=rfl
@[simp] theorem vc_tup (vs):V.cells (V.tup vs)=[(V.tup vs)]:=rfl
@[simp] theorem vl_tup (vs):V.leaf (V.tup vs)=false:=rfl
@[simp] theorem vso_tup (vs):V.kzh (V.tup vs)=false:=rfl
section
variable {P : Program} {H : Heap}
@[simp] theorem z06k (t) (cs) (o):zco P H t (.ref cs o)=rd P t cs o:=rfl
@[simp] theorem z06l (t l i o):zco P H t (.ptr l i o)=match H.get l i with|some (.cells cs)=>rd P t cs o|_=>none:=rfl
@[simp] theorem pLoad_ap (t l i v x o):zco P H t (.ap l i v x o)=(y0w H l i v x).bind λp=>rd P t p.2 o:=rfl
@[simp] theorem pLen_str (t) (s):zqd P H t (.str s)=match P.underlying t with|some .string=>some (.int .i64 s.length)|_=>none:=rfl
@[simp] theorem yju (t):zqd P H t .nils=match P.underlying t with|some (.slice _)=>some (.int .i64 0)|_=>none:=rfl
@[simp] theorem yv6 (t z) (xs) (b):zqd P H t (.sl z xs b)=match P.underlying t with|some (.slice _)=>some (.int .i64 xs.length)|_=>none:=rfl
@[simp] theorem z06m (t):zqd P H t .mapn=match P.underlying t with|some (.map _ _)=>some (.int .i64 0)|_=>none:=rfl
@[simp] theorem pLen_agg (t) (cs):zqd P H t (.agg cs)=match P.underlying t with|some (.array n _)=>some (.int .i64 n)|_=>none:=rfl
@[simp] theorem z03k (t z) (xs) (b) (k) (n):yzo P H t (.sl z xs b) (.int k n)=if 0<=n then match P.underlying t with
   |some (.slice e)=>if z=P.cellsOf e∧(P.underlying e).isSome then (xs[n.toNat]?).map λy=>.ref y.cells 0 else none
   |some (.array len e)=>if n<len∧(P.underlying e).isSome then none else none
   |_=>none else none:=by rfl
@[simp] theorem z02x (t l i o) (k) (n):yzo P H t (.ptr l i o) (.int k n)=if 0<=n then match P.underlying t with
   |some (.slice e)=>none
   |some (.array len e)=>if n<len∧(P.underlying e).isSome then some (.ptr l i (o+n.toNat * P.cellsOf e))else none
   |_=>none else none:=by rfl
end
section
variable {P : Program}
def zes(P:Program)(ops:Array Oper)(k:Nat)(σ:St)(Q:z0j->St->Prop):Prop :=
 ∀W0 g0 H0 W a g,Base W0 g0 H0->(σ.e0=H0.E∧Step W0 g0 H0 W g σ.H)->zzb W a g σ->wpOps P ops (yil W0 g0 H0 Q) (List.range' k (ops.size-k)) a W
theorem z02i{ops k σ Q}(hk:ops.size<=k)(h:Q .normal σ):zes P ops k σ Q:=λW0 g0 H0 W a g _ hS hG=>by
 rw[show ops.size-k=0 by omega];exact⟨g,σ,.normal,.normal,hS,hG,h⟩
theorem yyr{id ops σ Q}(h:zes P ops 0 σ Q):Sat P (.region id ops false) σ Q:=λW0 g0 H0 W a g hB hS hG=>by
 refine ysb zxo ?_;rw[List.range_eq_range'];have:=h W0 g0 H0 W a g hB hS hG;simpa using this
theorem zy5{ops k σ Q}(n)(ans)(σ1)(cl)(h:y1v P ops ((ops.toList.drop k).take n) ans σ=some (σ1,[],cl))(hc:∀c∈cl,c.ok P)(hk:zes P ops (k+n) σ1 Q):zes P ops k σ Q:=λW0 g0 H0 W a g hB hS hG=>by
 have hr:List.range' k (ops.size-k)=List.range' k ((ops.toList.drop k).take n).length++List.range' (k+n) (ops.size-(k+n)):=by
  grind
 rw[hr]
 exact zy1 (P:=P) _ ((ops.toList.drop k).take n) k ans [] σ σ1 cl W a g (λj hj=>by
  simp_all) h hc hG hS (λW' a' g' s1 s2=>hk W0 g0 H0 W' a' g' hB s1 s2)
theorem z00h{id ops σ Q}(hm:P.follows .mixedOrders=true)(hB:Region.lexB .any ops=true)(ans)(σ1)(cl)(h:znu P ops ops.toList ans σ=some (σ1,[],cl))(hc:∀c∈cl,c.ok P)(hQ:Q .normal σ1) :
 Sat P (.region id ops true) σ Q:=z04d hm hB ans h hc hQ
theorem z02a{id ops σ Q}(n)(hm:P.follows .mixedOrders=true)(hB:Region.lexTailB .any ops n=true)
  (ans) (σ1) (cl) (h:znu P ops (ops.toList.take n) ans σ=some (σ1,[],cl)) (hc:∀c∈cl,c.ok P) (hk:zes P ops n σ1 Q):Sat P (.region id ops true) σ Q :=
 yhr n hm hB ans h hc hk
inductive VSL (H:Heap) (D:Nat->Nat->Prop):List V->List V->Prop where
 |nil:VSL H D [] []
 |cons {v u:V} {vs us:List V}(h:VS H D v u) (r:VSL H D vs us):VSL H D (v::vs) (u::us)
theorem VSL.length{H D vs us}(h:VSL H D vs us):vs.length=us.length:=by induction h <;> simp_all
theorem VSL.get{H D vs us}(h:VSL H D vs us):∀(j:Nat) (v u),vs[j]? = some v->us[j]? = some u->VS H D v u:=by
 induction h with
 |nil=>grind
 |cons h r ih=>
  grind
theorem VS.agg'{H D vs us}(h:VSL H D vs us):VS H D (.agg vs) (.agg us):=.agg _ _ h.length h.get
theorem VS.tup'{H D vs us}(h:VSL H D vs us):VS H D (.tup vs) (.tup us):=.tup _ _ h.length h.get
end
section
variable {P : Program}
inductive Out where
 |ret (r:V)
 |pan (v:V)
def yuy(W:World)(g:Gh)(H:Heap):Out->Ending->Prop
 |.ret r,e=>∃c,e = .returned c∧Rel W g H r c
 |.pan v,e=>∃c,e = .panicked [{v:=c,recovered:=false}]∧Rel W g H v c
def znq(P:Program)(f:Nat)(args:List V)(H:Heap)(Post:Out->Heap->Prop):Prop :=
 ∀(W) (g) (cargs),Good W g H->zk0 W g H args cargs ->
  (callFunc f cargs).run P W = .ok (.enter f cargs) W∧Calls P f cargs W (λe W'=>∃o H' g',Post o H'∧Step W g H W' g' H'∧Good W' g' H'∧yuy W' g' H' o e)
theorem znq.mono{f args H Q Q'}(h:znq P f args H Q)(hq:∀o H',Q o H'->Q' o H'):znq P f args H Q':=λW g cargs hG hA=>by
 obtain⟨h1,h2⟩:=h W g cargs hG hA;exact⟨h1,h2.mono λe W' ⟨o,H',g',k1,k2⟩=>⟨o,H',g',hq _ _ k1,k2⟩⟩
theorem znq.le{f as bs H Q}(h:znq P f bs H Q)(hl:y69 as bs):znq P f as H Q:=λW g cargs hG hA=>
 h W g cargs hG ⟨hA.1.trans hl.length,λj v hj=>by
  have hlt:j<as.length:=by rw[hl.length];grind
  exact(hl.get j _ v (Qab hlt) hj).rel (hA.2 j _ (Qab hlt))⟩
def z05a(P:Program)(fn:Func)(Post:Out->Heap->Prop)(e:z0j)(σ:St):Prop :=
 match e with
 |.normal| .ret=>∃v r,z0w P fn σ=some v∧σ.d=[]∧VLe v r∧Post (.ret r) σ.H
 |.panic v=>σ.d=[]∧Post (.pan v) σ.H
 |.exit _=>False
theorem yy0{f:Nat}{fn c n}(hf:P.funcs[f]? = some fn)(hb:fn.body=some c)(hnt:fn.ntmps=n)(hent:∀args w,(callFunc f args).run P w = .ok (.enter f args) w){args lv L E Post}
  (h:Sat P c ⟨args++List.replicate (n-args.length) .any,⟨lv,L,E⟩,[],E⟩ (z05a P fn Post)):znq P f args ⟨lv,L,E⟩ Post:=by
 intro W g cargs hG hA;subst hnt;refine⟨hent cargs W,calls_of_wp hf hb ?_⟩
 have hgs:zzb W {tmps:=cargs++Array.replicate (fn.ntmps-cargs.size) undef,defers:=[]} g ⟨args++List.replicate (fn.ntmps-args.length) .any,⟨lv,L,E⟩,[],E⟩:=by
  refine⟨hG,by simp[hA.1],λj v hj =>?_,rfl,by simp⟩;rw[Qba]at hj;split at hj;rename_i hlt;rw[z1n (by rw[hA.1];exact hlt)];exact hA.2 j v hj;rw[Qbi]at hj;split at hj;cases hj;exact .any _;cases hj
 refine wp_mono (h W g ⟨lv,L,E⟩ W _ g ⟨hG⟩ ⟨rfl,.refl _ _ _⟩ hgs).wp λe a W' ⟨g1,σ,e',q1,q2,q3,q4⟩ =>?_
 have key:∀v r,z0w P fn σ=some v->σ.d=[]->VLe v r->Post (.ret r) σ.H->a.defers=[]∧∃c,(results fn a.tmps).run P W' = .ok c W'∧∃o H' g',Post o H'∧Step W g ⟨lv,L,E⟩ W' g' H'∧Good W' g' H'∧yuy W' g' H' o (.returned c):=λv r h1 h2 h3 h4=>by
  obtain⟨c,k1,k2⟩:=zds q3 h1;exact⟨Qao (by rw[q3.dlen,h2];rfl),c,k1,.ret r,σ.H,g1,h4,q2.2,q3.good,c,rfl,h3.rel k2⟩
 cases q1 with
 |normal=>obtain⟨v,r,h1,h2,h3,h4⟩:=q4;exact key v r h1 h2 h3 h4
 |ret=>obtain⟨v,r,h1,h2,h3,h4⟩:=q4;exact key v r h1 h2 h3 h4
 |exit id=>exact q4.elim
 |panic v c hr=>
  obtain⟨h1,h2⟩:=q4;exact⟨Qao (by rw[q3.dlen,h1];rfl),.pan v,σ.H,g1,h2,q2.2,q3.good,c,rfl,hr⟩
theorem yy8{ops k σ Q o c f args Post}(ho:ops[k]? = some o)(hw:yzu ops σ o=some true)(hop:o.op = .call c)(ht:target σ.ev c=some (f,args))(hc:znq P f args σ.H Post)
  (hr:∀r H',Post (.ret r) H'->zes P ops (k+1) ({σ with H:=H'}.put o.dst r) Q) (hp:∀v H',Post (.pan v) H'->Q (.panic v) {σ with H:=H'}):zes P ops k σ Q:=λW0 g0 H0 W a g hB hS hG=>by
 have hk:k<ops.size:=by
  grind
 rw[show ops.size-k=(ops.size-(k+1))+1 by omega,List.range'_succ];simp[wpOps,ho];rw[z0c hG hw,Qbq rfl];left;unfold Oper.wp;obtain⟨cargs,k1,k2⟩:=zfk (P:=P) (ty:=o.type) hG.ev ht
 have hex:(execOp a.eval o).run P W=(callFunc f cargs).run P W:=by
  rw[<-k2 W];unfold execOp;rw[hop]
 obtain⟨e1,e2⟩:=hc W g cargs hG.good k1;rw[hex,e1];refine e2.mono λe W' ⟨o',H',g',p1,p2,p3,p4⟩ =>?_
 cases o' with
 |ret r=>
  obtain⟨c',he,hr'⟩:=p4;subst he
  exact hr r H' p1 W0 g0 H0 W' (a.put o.dst c') g' hB (by
   have:({σ with H:=H'}.put o.dst r).H=H':=by cases o.dst <;> rfl
   have he:({σ with H:=H'}.put o.dst r).e0=σ.e0:=by cases o.dst <;> rfl
   rw[this,he];exact⟨hS.1,hS.2.trans p2⟩) (hG.next p2 p3 hr' o.dst)
 |pan v=>
  obtain⟨c',he,hr'⟩:=p4;subst he;have hn:=hG.next p2 p3 (.any undef) none;exact⟨g',{σ with H:=H'},.panic v,.panic v c' hr',⟨hS.1,hS.2.trans p2⟩,hn,hp v H' p1⟩
theorem yt7{ops k σ Q o x t v}(ho:ops[k]? = some o)(hw:yzu ops σ o=some true)(hop:o.op = .panic x)(hv:σ.ev x = .iface t v)(hp:Q (.panic (.iface t v)) σ):zes P ops k σ Q:=λW0 g0 H0 W a g hB hS hG=>by
 have hk:k<ops.size:=by
  grind
 rw[show ops.size-k=(ops.size-(k+1))+1 by omega,List.range'_succ];simp[wpOps,ho];rw[z0c hG hw,Qbq rfl];left;have hr:=hG.ev x;rw[hv]at hr;generalize hcc:a.eval x=cc at hr
 cases hr with
 |iface _ _ c h=>
  unfold Oper.wp
  have hex:(execOp a.eval o).run P W = .halt (.panic (.iface t c)) W:=by
   simp_all[execOp,Instr.panic]
  rw[hex];exact⟨g,σ,.panic (.iface t v),.panic _ _ (.iface _ _ _ h),hS,hG,hp⟩
theorem Rel.y86{W g H H'}(hown:∀b,Own g H' b->Own g H b)(harr:∀l i ver ty sz xs cp,H'.get l i=some (.arr ver ty sz xs cp)->H.get l i=some (.arr ver ty sz xs cp)){v c}(h:Rel W g H v c):Rel W g H' v c:=by
 induction h with
 |any c=>exact .any c
 |bool b=>exact .bool b
 |int k n=>exact .int k n
 |str s=>exact .str s
 |nilp=>exact .nilp
 |ptr l i off hd=>exact .ptr l i off hd
 |ref cs off b o c hb hc h1 hr ih=>exact .ref cs off b o c (λhne hn=>hb hne (hown b hn)) hc h1 ih
 |ap l i ver idx off a hd hv ha=>exact .ap l i ver idx off a hd (λv ty sz xs cp hg=>hv _ _ _ _ _ (harr _ _ _ _ _ _ _ hg)) λty sz xs cp hg=>ha _ _ _ _ (harr _ _ _ _ _ _ _ hg)
 |nils=>exact .nils
 |slnil sz full=>exact .slnil sz full
 |sle sz full a cap hf=>exact .sle sz full a cap hf
 |sl sz xs full b o cap c hb hz hcap hf hs hc h1 hr ih=>exact .sl sz xs full b o cap c (λhn=>hb (hown b hn)) hz hcap hf hs hc h1 ih
 |hs l i ver off n full a m cap hd hv ha=>exact .hs l i ver off n full a m cap hd (λv ty sz xs cp hg=>hv _ _ _ _ _ (harr _ _ _ _ _ _ _ hg)) λty sz xs cp hg=>ha _ _ _ _ (harr _ _ _ _ _ _ _ hg)
 |mapn=>exact .mapn
 |mapc es b en clock hb hw he=>exact .mapc es b en clock (λhn=>hb (hown b hn)) hw he
 |map l i hd=>exact .map l i hd
 |fn f fs cs fs' cs' h1 h2 r1 r2 i1 i2=>exact .fn f fs cs fs' cs' h1 h2 i1 i2
 |nilf=>exact .nilf
 |iface t v c h ih=>exact .iface t v c ih
 |nili=>exact .nili
 |agg vs cs hn h1 hr ih=>exact .agg vs cs hn h1 ih
 |tup vs cs hn hr ih=>exact .tup vs cs hn ih
inductive FV (v r:V):V->V->Prop where
 |keep (x:V):FV v r x x
 |any (x:V):FV v r x .any
 |it:FV v r v r
 |agg (vs us:List V) (hn:vs.length=us.length) (h:∀(j:Nat) (x y:V),vs[j]? = some x->us[j]? = some y->FV v r x y):FV v r (.agg vs) (.agg us)
 |tup (vs us:List V) (hn:vs.length=us.length) (h:∀(j:Nat) (x y:V),vs[j]? = some x->us[j]? = some y->FV v r x y):FV v r (.tup vs) (.tup us)
inductive FVL (v r:V):List V->List V->Prop where
 |nil:FVL v r [] []
 |cons {x y:V} {xs ys:List V}(h:FV v r x y) (t:FVL v r xs ys):FVL v r (x::xs) (y::ys)
theorem FVL.length{v r vs us}(h:FVL v r vs us):vs.length=us.length:=by induction h <;> simp_all
theorem FVL.get{v r vs us}(h:FVL v r vs us):∀(j:Nat) (x y),vs[j]? = some x->us[j]? = some y->FV v r x y:=by
 induction h with
 |nil=>grind
 |cons h t ih=>
  grind
theorem FV.agg'{v r vs us}(h:FVL v r vs us):FV v r (.agg vs) (.agg us):=.agg _ _ h.length h.get
theorem FV.tup'{v r vs us}(h:FVL v r vs us):FV v r (.tup vs) (.tup us):=.tup _ _ h.length h.get
theorem FV.rel{W g H H' v r}(hf:∀{x:V}{c:Value},Rel W g H x c->Rel W g H' x c)(hv:∀{c:Value},Rel W g H v c->Rel W g H' r c){x y}(h:FV v r x y):∀{c},Rel W g H x c->Rel W g H' y c:=by
 induction h with
 |keep x=>exact λh=>hf h
 |any x=>exact λ_=>.any _
 |it=>exact λh=>hv h
 |agg vs us hn h ih=>
  intro c hc
  cases hc with
  |agg _ cs hs h1 hr=>
   refine .agg _ cs (by omega) (λj u hj =>?_) (λj u hj =>?_)
   grind
   grind
 |tup vs us hn h ih=>
  intro c hc
  cases hc with
  |tup _ cs hs hr=>
   refine .tup _ cs (by omega) (λj u hj =>?_)
   grind
def FO(v r:V)(o o':kzg):Prop:=o'=o∨∃cs cs',o = .cells cs∧o' = .cells cs'∧FVL v r cs cs'
theorem FO.blk{v r o o'}(h:FO v r o o')(g)(l i):o'.blk g l i=o.blk g l i:=by
 rcases h with rfl|⟨cs,cs',rfl,rfl,_⟩ <;> rfl
theorem FO.arr{v r o ver ty sz xs cp}(h:FO v r o (.arr ver ty sz xs cp)):o = .arr ver ty sz xs cp:=by
 rcases h with h|⟨cs,cs',_,h,_⟩
 exact h.symm;cases h
theorem ycp{σ L' t' v r}(hlen:L'.length=σ.H.L.length)(hL:∀(k:Nat) (o':kzg),L'[k]? = some (some o')->∃o,σ.H.L[k]? = some (some o)∧FO v r o o')(ht:FVL v r σ.t t')(hd:σ.d=[])
  (hv:∀(W:World) (g:Gh),Good W g σ.H->(∀b,Own g ⟨σ.H.lv,L',σ.H.E⟩ b->Own g σ.H b)->(∀{x:V}{c:Value},Rel W g σ.H x c->Rel W g ⟨σ.H.lv,L',σ.H.E⟩ x c)->∀{c:Value},Rel W g σ.H v c->Rel W g ⟨σ.H.lv,L',σ.H.E⟩ r c):zlf σ ⟨t',⟨σ.H.lv,L',σ.H.E⟩,[],σ.e0⟩:=λW0 g0 H0 W a g hB hS hG=>by
 have hget:∀l i o',Heap.get ⟨σ.H.lv,L',σ.H.E⟩ l i=some o'->∃o,σ.H.get l i=some o∧FO v r o o':=λl i o' h=>by
  unfold Heap.get at h ⊢;dsimp only at h;by_cases hl:l=σ.H.lv;rw[Qbq hl]at h ⊢
  grind
  rw[Qbr hl]at h ⊢;exact⟨o',h,.inl rfl⟩
 have hown:∀b,Own g ⟨σ.H.lv,L',σ.H.E⟩ b->Own g σ.H b:=λb ⟨l,i,o',ho,hb⟩=>by
  obtain⟨o,h1,h2⟩:=hget l i o' ho;exact⟨l,i,o,h1,by rw[<-h2.blk];exact hb⟩
 have harr:∀l i ver ty sz xs cp,Heap.get ⟨σ.H.lv,L',σ.H.E⟩ l i=some (.arr ver ty sz xs cp)->σ.H.get l i=some (.arr ver ty sz xs cp):=λl i ver ty sz xs cp h=>by
  obtain⟨o,h1,h2⟩:=hget l i _ h;rw[h2.arr]at h1;exact h1
 have hf:∀{x:V}{c:Value},Rel W g σ.H x c->Rel W g ⟨σ.H.lv,L',σ.H.E⟩ x c:=λh=>Rel.y86 hown harr h
 have hr:∀{x y:V},FV v r x y->∀{c:Value},Rel W g σ.H x c->Rel W g ⟨σ.H.lv,L',σ.H.E⟩ y c:=λh=>FV.rel hf (hv W g hG.good hown hf) h
 have hGood:Good W g ⟨σ.H.lv,L',σ.H.E⟩:=by
  refine⟨λl i o' h =>?_,λl i o' h =>?_,λl i o1 l' i' o2 h1 h2 hb =>?_,λl i h =>?_,λl i o' h =>?_,hG.good.zns.y86 hown,hG.good.base⟩;obtain⟨o,h1,_⟩:=hget l i o' h;exact hG.good.dom l i o h1;obtain⟨o,h1,h2⟩:=hget l i o' h;rw[h2.blk];exact hG.good.lt l i o h1;obtain⟨p,k1,k2⟩:=hget l i o1 h1;obtain⟨q,m1,m2⟩:=hget l' i' o2 h2;rw[k2.blk,m2.blk]at hb;exact hG.good.inj l i p l' i' q k1 m1 hb
  rcases hG.good.fresh l i h with q|⟨q1,q2⟩
  exact .inl q
  grind
  obtain⟨o,h1,h2⟩:=hget l i o' h;have ho:=hG.good.obj l i o h1
  rcases h2 with rfl|⟨cs,cs',rfl,rfl,hc⟩
  cases o' with
  |cells cs=>
   obtain⟨c,ty,k1,k2,k3,k4⟩:=ho
   exact⟨c,ty,k1,k2,k3,λj x hj=>hf (k4 j x hj)⟩
  |arr ver ty sz xs cp=>
   obtain⟨c,k1,k3,k4,k4',k5,k6,k7,k8,k9⟩:=ho
   exact⟨c,k1,k3,k4,k4',k5,k6,k7,k8,λj x t v hj ht=>hf (k9 j x t v hj ht)⟩
  |map es=>
   obtain⟨en,clock,k1,k2,k3,k4,k5⟩:=ho;refine⟨en,clock,k1,k2,k3,k4,λj p hj =>?_⟩
   grind
  |siter s pos=>exact ho
  |mit es vis=>
   obtain⟨en,clock,mb,k1,k2,k3,k4⟩:=ho;exact⟨en,clock,mb,k1,λhn=>k2 (hown _ hn),k3,k4⟩
  obtain⟨c,ty,k1,k2,k3,k4⟩:=ho;have hl:=hc.length
  have get:∀j u,cs'[j]? = some u->∃x,cs[j]? = some x:=λj u hj=>by
   have:=(Qaa.1 hj).1;exact⟨_,Qab (by omega)⟩
  refine⟨c,ty,k1,by omega,λj u hj =>?_,λj u hj =>?_⟩
  grind
  obtain⟨x,hx⟩:=get j u hj;exact hr (hc.get j x u hx hj) (k4 j x hx)
 refine⟨g,⟨hS.1,⟨hS.2.os,hS.2.tape,hS.2.output,hS.2.size,hS.2.block,λb h=>hS.2.own b (hown b h),hS.2.dom,hS.2.new,hS.2.blk,λl i ver ty sz xs cp hd h=>hS.2.arr l i ver ty sz xs cp hd (harr l i _ _ _ _ _ h),hS.2.lv,hS.2.base⟩⟩,hGood,hG.size.trans ht.length,λj u hj =>?_,by rw[hG.dlen,hd],λj f vs hj=>by simp at hj⟩;have hlt:=(Qaa.1 hj).1
 have hx:σ.t[j]? = some (σ.t[j]'(by rw[ht.length];exact hlt)):=Qab _;exact hr (ht.get j _ u hx hj) (hG.tmps j _ hx)
inductive FOL (v r:V):List (Nat×kzg)->List (Nat×kzg)->Prop where
 |refl (os:List (Nat×kzg)):FOL v r os os
 |cons {i:Nat} {o o':kzg}{os os':List (Nat×kzg)}(h:FO v r o o') (t:FOL v r os os'):FOL v r ((i,o)::os) ((i,o')::os')
theorem FOL.map{v r os os'}(h:FOL v r os os'):os'.map (·.1)=os.map (·.1):=by
 induction h with
 |refl os=>rfl
 |cons h t ih=>simp[ih]
theorem FOL.mem{v r os os'}(h:FOL v r os os'):∀p'∈os',∃o,(p'.1,o)∈os∧FO v r o p'.2:=by
 induction h with
 |refl os=>exact λp hp=>⟨p.2,hp,.inl rfl⟩
 |cons h t ih=>
  intro p hp
  rcases Qbg.1 hp with rfl|hp
  grind
  grind
def told(L:List (Option kzg))(rm:Option Nat)(os:List (Nat×kzg)):List (Option kzg) :=
 (List.range L.length).map λk=>if rm=some k then none else match os.find? (λp=>p.1==k)with|some p=>some p.2|none=>(L[k]?).join
theorem zka(L)(rm)(os):(told L rm os).length=L.length:=by simp[told]
theorem zgh{L rm os k}(hk:k<L.length):(told L rm os)[k]? = some (if rm=some k then none else match os.find? (λp=>p.1==k)with|some p=>some p.2|none=>(L[k]?).join):=by
 simp[told,hk]
theorem zbr.yvs{lv L as os os'}(h:zbr lv L as os){j ty sz v xs w}(hj:as[j]? = some ⟨ty,sz,v,xs,w⟩){t t'}
  (ht:FVL v (.sl sz xs false) t t') (hos:FOL v (.sl sz xs false) os os') (E e0):∃L',(zbr lv L' (as.eraseIdx j) os'∧zlf ⟨t,⟨lv,L,E⟩,[],e0⟩ ⟨t',⟨lv,L',E⟩,[],e0⟩)∧L'.length=L.length∧∀i,i<L.length->(∀p∈os,p.1≠i)->(∀ver n,v ≠ .hs lv i ver 0 n false)->L'[i]? = L[i]? := by
 have hA:=h;obtain⟨⟨ks,h1,h2,h3,h4⟩,h5⟩:=h;have hjl:=(Qaa.1 hj).1;have hk:ks[j]? = some (ks[j]'(by omega)):=Qab _;generalize ks[j]'(by omega)=k at hk;have hAt:=h2 j k _ hk hj
 have hkeys:∀p'∈os',∀t:Nat,ks[t]? ≠ some (some p'.1):=λp' hp' t=>by
  obtain⟨o,ho,_⟩:=hos.mem p' hp';exact(h4 _ ho).2 t
 have hnd:(os'.map (·.1)).Nodup:=by rw[hos.map];exact h5
 have hfind:∀p'∈os',os'.find? (λp=>p.1==p'.1)=some p':=λp' hp'=>by
  cases hq:os'.find? (λp=>p.1==p'.1)with
  |none=>grind
  |some q=>
   have hq1:=List.find?_some hq;have hq2:=List.mem_of_find?_eq_some hq;simp at hq1;obtain⟨a,ha⟩:=List.mem_iff_getElem?.1 hp';obtain⟨b,hb⟩:=List.mem_iff_getElem?.1 hq2;have ha':(os'.map (·.1))[a]? = some p'.1:=by simp[ha]
   have hb':(os'.map (·.1))[b]? = some p'.1:=by simp[hb,hq1]
   grind[List.getElem?_inj]
 have hother:∀n:Nat,n<L.length->k≠some n->(∀p'∈os',p'.1≠n)->(told L k os')[n]? = some (L[n]?).join:=λn hn h6 h7=>by
  rw[zgh hn,Qbr h6]
  grind
 refine⟨told L k os',⟨⟨⟨ks.eraseIdx j,?_,λt kk a hkk ha =>?_,λt t2 n ht1 ht2 =>?_,λp' hp'=>⟨?_,λt ht1 =>?_⟩⟩,hnd⟩,?_⟩,zka _ _ _,λi hi hp hv =>?_⟩
 rotate_right
 rw[hother i hi (λe=>by
  subst e;obtain⟨ver,cp,q1,q2⟩:=hAt
  exact hv _ _ q1) (λp' hp' e=>by
  obtain⟨o,ho,_⟩:=hos.mem p' hp'
  exact hp _ ho e),Qab hi];rfl
 grind
 obtain⟨t2,e1,e2,e3⟩:∃t2:Nat,t2≠j∧ks[t2]? = some kk∧as[t2]? = some a:=by
  rw[List.getElem?_eraseIdx]at hkk ha;by_cases hlt:t<j
  grind
  rw[Qbr hlt]at hkk ha;grind
 have hat:=h2 t2 kk a e2 e3
 cases kk with
 |none=>exact hat
 |some n=>
  have hlt:=hat.lt;obtain⟨ver,cp,q1,q2⟩:=hat;refine⟨ver,cp,q1,?_⟩;rw[hother n hlt (λe=>e1 (h3 t2 j n e2 (by rw[hk,e]))) (λp' hp' e=>hkeys p' hp' t2 (by rw[e2,e])),q2];rfl
 have key:∀t:Nat,(ks.eraseIdx j)[t]? = some (some n)->∃t2:Nat,ks[t2]? = some (some n)∧t2=if t<j then t else t+1:=λt ht=>by
  rw[List.getElem?_eraseIdx]at ht;by_cases hlt:t<j;rw[Qbq hlt]at ht;grind;rw[Qbr hlt]at ht;grind
 grind
 obtain⟨o,ho,_⟩:=hos.mem p' hp';have hlt:=(Qaa.1 (h4 _ ho).1).1;rw[zgh hlt,Qbr (λe=>hkeys p' hp' j (by rw[hk,e])),hfind p' hp']
 grind
 refine ycp (σ:=⟨t,⟨lv,L,E⟩,[],e0⟩) (v:=v) (r:=.sl sz xs false) (zka _ _ _) (λm o' hm =>?_) ht rfl (λW g hG hown hf c hc =>?_);have hlt:m<L.length:=by grind[zka]
 rw[zgh hlt]at hm;injection hm with hm;split at hm;cases hm;split at hm;rename_i p hp;injection hm with hm;have hp1:=List.find?_some hp;simp at hp1;obtain⟨o,ho,hfo⟩:=hos.mem p (List.mem_of_find?_eq_some hp)
 grind
 refine⟨o',?_,.inl rfl⟩
 grind
 cases k with
 |none=>
  rcases hAt with ⟨q1,q2⟩|⟨q1,_⟩
  simp at q1 q2;subst q1;subst q2;exact(VLe.nil _ _).rel (hf hc)
  simp at q1;subst q1;exact(VLe.full _ _).rel (hf hc)
 |some i=>
  obtain⟨ver,cp,q1,q2⟩:=hAt;simp at q1 q2;subst q1;have hg:Heap.get ⟨lv,L,E⟩ lv i=some (.arr ver ty sz xs cp):=by unfold Heap.get;grind
  have hi:=(Qaa.1 q2).1
  have hno:¬Own g ⟨lv,told L (some i) os',E⟩ (g.ab lv i):=λ⟨l,i',o',ho',hob⟩=>by
   have hgot:∃o,Heap.get ⟨lv,L,E⟩ l i'=some o∧o'.blk g l i'=o.blk g l i'∧¬(l=lv∧i'=i):=by
    unfold Heap.get at ho' ⊢;dsimp only at ho' ⊢;by_cases hl:l=lv;rw[Qbq hl]at ho' ⊢
    cases hq:(told L (some i) os')[i']? with
    |none=>grind
    |some q=>
     have hlt:i'<L.length:=by grind[zka]
     rw[zgh hlt]at hq;injection hq with hq;rw[zgh hlt]at ho';simp only[Option.join_some]at ho';split at ho';cases ho';rename_i hne;split at ho';rename_i p hp;injection ho' with ho';have hp1:=List.find?_some hp;simp at hp1;obtain⟨o,ho,hfo⟩:=hos.mem p (List.mem_of_find?_eq_some hp);have:=(h4 _ ho).1;rw[hp1]at this;exact⟨o,by rw[this];rfl,by rw[<-ho'];exact hfo.blk g l i',λe=>hne (by rw[e.2])⟩
     grind
    rw[Qbr hl]at ho' ⊢
    grind
   obtain⟨o,w1,w2,w3⟩:=hgot;exact w3 (hG.inj _ _ _ _ _ _ w1 hg (by rw[<-w2];exact hob))
  cases hc with
  |hs _ _ _ _ _ _ a m cap hd hv ha=>
   obtain⟨rfl,rfl,⟨hcap',hcap2,hff⟩,hle⟩:=ha _ _ _ _ hg;obtain⟨cur,k1,k2,k3,k3',k4,k5,k6⟩:=y59 hG hg
   have cells:∀(j:Nat) (y:V) (t:Nat) (u:V),xs[j]? = some y->y.cells[t]? = some u->Rel W g ⟨lv,told L (some i) os',E⟩ u (cur.getD (j * sz+t) undef)∧(cur.getD (j * sz+t) undef).oneCell'=true∧j * sz+t<cur.size:=λj y t u hj ht=>by
    have hjl:=(Qaa.1 hj).1;have hxl:=k6.1 _ _ hj;have htl:=(Qaa.1 ht).1;refine⟨hf (k6.2.2 _ _ _ _ hj ht),k6.2.1 _ _ _ _ hj ht,?_⟩;rw[k3];exact y78 (by omega) (by omega)
   refine .sl sz xs false (g.ab lv i) (0 * sz) cap (λj t=>cur.getD (j * sz+t) undef) hno k2 (by omega) (by simp) (λj y hj=>k6.1 _ _ hj) (λj y t u hj ht =>?_) (λj y t u hj ht=>(cells j y t u hj ht).2.1) (λj y t u hj ht=>(cells j y t u hj ht).1);have:=cell_of k1 (cells j y t u hj ht).2.2;rw[<-this];congr 2;omega
theorem zbr.freeze{lv L as os os'}(h:zbr lv L as os){j ty sz v xs w}(hj:as[j]? = some ⟨ty,sz,v,xs,w⟩){t t'}
  (ht:FVL v (.sl sz xs false) t t') (hos:FOL v (.sl sz xs false) os os') (E e0):∃L',zbr lv L' (as.eraseIdx j) os'∧zlf ⟨t,⟨lv,L,E⟩,[],e0⟩ ⟨t',⟨lv,L',E⟩,[],e0⟩:=by
 obtain⟨L',h1,_⟩:=h.yvs hj ht hos E e0;exact⟨L',h1⟩
theorem yqc{W g H u v cs}(h:zk0 W g H [u,v] cs):∃x y,cs = #[x,y]∧Rel W g H u x∧Rel W g H v y:=by
 obtain⟨h1,h2⟩:=h
 cases cs with|mk l=>
 match l,h1 with
 |[x,y],_=>exact⟨x,y,rfl,h2 0 u rfl,h2 1 v rfl⟩
theorem y67{T:Type}(f:T->V)(k):∀(m:List (B8×T)) (i),y8e .string (.str k) (m.map λp=>(.str p.1,f p.2)) i =
  some (match m.findIdx? (λp=>k==p.1)with|none=>none|some j=>(m[j]?).map λp=>(i+j,f p.2))
 |[],i=>rfl
 |p::m,i=>by
  simp only[List.map_cons,y8e,yoj]
  cases hk:k==p.1 with
  |true=>grind
  |false=>
   rw[y67 f k m (i+1),List.findIdx?_cons,hk]
   grind
theorem yyu{T}(m:List (B8×T))(k):z8a m k=match m.findIdx? (λp=>k==p.1)with|none=>none|some j=>(m[j]?).map (·.2):=by
 unfold z8a
 induction m with
 |nil=>rfl
 |cons p m ih=>
  rw[List.find?_cons,List.findIdx?_cons]
  cases hk:k==p.1 with
  |true=>simp
  |false=>
   grind
theorem ysu{T}{f:T->V}{m H}{t kt e l i:Nat}{z}(ht:P.underlying t=some (.map kt e))(hk:P.underlying kt=some .string)(hz:zeroV P e=some z)(hg:H.get l i=some (.map (m.map λp=>(.str p.1,f p.2))))(k)(z0)(h0:f z0=z) :
  zu5 P H t (.map l i) (.str k) false=some (f ((z8a m k).getD z0))∧zu5 P H t (.map l i) (.str k) true=some (.tup [f ((z8a m k).getD z0),.bool (z8a m k).isSome]):=by
 unfold zu5;simp[ht,z01i,hg,zxy,hk,hz,y67,yyu]
 cases hq:m.findIdx? (λp=>k==p.1)with
 |none=>simp[h0]
 |some j=>
  have hj:j<m.length:=by
   grind[List.findIdx?_eq_some_iff_getElem]
  simp[hj]
theorem ysf{T}{f:T->V}{m lv L E}{t kt e i:Nat}(ht:P.underlying t=some (.map kt e))(hk:P.underlying kt=some .string)(hg:L[i]? = some (some (.map (m.map λp=>(.str p.1,f p.2)))))(k)(x){y}(hy:y=f x) :
  zgy P ⟨lv,L,E⟩ t (.map lv i) (.str k) y=some (.any,⟨lv,L.set i (some (.map ((zc5 m k x).map λp=>(.str p.1,f p.2)))),E⟩):=by
 have hget:Heap.get ⟨lv,L,E⟩ lv i=some (.map (m.map λp=>(.str p.1,f p.2))):=by unfold Heap.get;grind
 unfold zgy;simp[ht,hget,zxy,hk,y67,zc5,Heap.set,if_true]
 grind[y1c,List.findIdx?_eq_some_iff_getElem,List.map_set]
@[simp] theorem z00d (t l i) (H):zqd P H t (.map l i)=match P.underlying t with|some (.map _ _)=>(match H.get l i with|some (.map es)=>some (.int .i64 es.length)|_=>none)|_=>none:=rfl
end
def y24{α:Type}(xs:List α)(a b:Int):Option (List α) :=
 if 0<=a∧a<=xs.length∧0<=b∧b<xs.length then
  some (xs.take a.toNat++((xs.drop b.toNat).take (min (xs.length-b.toNat) (xs.length-a.toNat))++xs.drop (a.toNat+min (xs.length-b.toNat) (xs.length-a.toNat))))else none
section
variable {P : Program}
theorem y2n{t e sz:Nat}{H l i ver n ty xs cp}(ht:P.underlying t=some (.slice e))(hz:sz=P.cellsOf e)(he:(P.underlying e).isSome=true)(hg:H.get l i=some (.arr ver ty sz xs cp)){a}(h0:0<=a)(h1:a.toNat<=n) :
  zhz P H t (.hs l i ver 0 n false) (some (.int .i64 a)) none none=some (if a.toNat=0∨a.toNat<n then .hs l i ver a.toNat (n-a.toNat) false else .sl sz [] false):=by
 have hb:zji n (some (.int .i64 a)) none none=some (a.toNat,n,none):=by
  grind[zji,bnd]
 simp only[zhz,ht,hg];rw[Qbq ⟨trivial,hz,he⟩,hb];simp[Bool.false_and];split <;> rfl
theorem zbr.shift{lv L al ol}(h:zbr lv L al ol){j ty sz v xs}(hj:al[j]? = some ⟨ty,sz,v,xs,true⟩){t e:Nat}(ht:P.underlying t=some (.slice e))
  (hz:sz=P.cellsOf e) (he:(P.underlying e).isSome=true) (hi:(P.info? e).isSome=true) {a b ys} (hs:y24 xs a b=some ys) (E) :
  ∃(q1 q2:V) (L':List (Option kzg)) (m:Int),zhz P ⟨lv,L,E⟩ t v (some (.int .i64 a)) none none=some q1∧zhz P ⟨lv,L,E⟩ t v (some (.int .i64 b)) none none=some q2 ∧
   y52 P ⟨lv,L,E⟩ t q1 q2=some (.int .i64 m,⟨lv,L',E⟩)∧zbr lv L' (al.set j ⟨ty,sz,v,ys,true⟩) ol:=by
 unfold y24 at hs;split at hs;rename_i hc;injection hs with hs;obtain⟨c1,c2,c3,c4⟩:=hc;have hne:xs≠[]:=λhh=>by grind
 rcases h.form hj with ⟨rfl,rfl⟩|⟨rfl,hw⟩|⟨k,ver,cp,rfl,hL⟩
 exact(hne rfl).elim
 grind
 have hg:(⟨lv,L,E⟩:Heap).get lv k=some (.arr ver ty sz xs cp):=by simp[Heap.get,hL]
 have s1:=y2n (n:=xs.length) ht hz he hg c1 (by omega);have s2:=y2n (n:=xs.length) ht hz he hg c3 (by omega);rw[Qbq (show b.toNat=0∨b.toNat<xs.length by omega)]at s2;by_cases hlt:a.toNat=0∨a.toNat<xs.length;rw[Qbq hlt]at s1;refine⟨_,_,L.set k (some (.arr ver ty sz ys cp)),(min (xs.length-b.toNat) (xs.length-a.toNat):Nat),s1,s2,?_,h.accs.setAt hj rfl hL hne ?_,h.nodup⟩
 simp_all[y52,Heap.set]
 rw[<-hs];simp;omega;rw[Qbr hlt]at s1;have e1:=by omega
 have hys:ys=xs:=by
  simp_all
 refine⟨_,_,L,0,s1,s2,?_,?_⟩
 simp_all[y52]
 rw[hys]
 have:al.set j ⟨ty,sz,.hs lv k ver 0 xs.length false,xs,true⟩=al:=by
  refine List.ext_getElem? λq =>?_
  rw[Qbd];split;rename_i hq;subst hq
  grind
  rfl
 rw[this];exact h;cases hs
end
theorem z030{W g H H'}(hown:∀b,Own g H' b->Own g H b)(hf:∀{x:V}{c:Value},Rel W g H x c->Rel W g H' x c){l i o}(ho:zev W g H l i o):zev W g H' l i o:=by
 cases o with
 |cells cs=>
  obtain⟨c,ty,k1,k2,k3,k4⟩:=ho
  exact⟨c,ty,k1,k2,k3,λj x hj=>hf (k4 j x hj)⟩
 |arr ver ty sz xs cp=>
  obtain⟨c,k1,k3,k4,k4',k5,k6,k7,k8,k9⟩:=ho
  exact⟨c,k1,k3,k4,k4',k5,k6,k7,k8,λj x t v hj ht=>hf (k9 j x t v hj ht)⟩
 |map es=>
  obtain⟨en,clock,k1,k2,k3,k4,k5⟩:=ho;refine⟨en,clock,k1,k2,k3,k4,λj p hj =>?_⟩
  grind
 |siter s pos=>exact ho
 |mit es vis=>
  obtain⟨en,clock,mb,k1,k2,k3,k4⟩:=ho;exact⟨en,clock,mb,k1,λhn=>k2 (hown _ hn),k3,k4⟩
def Heap.zyy(H:Heap)(i:Nat):Heap:=⟨H.lv,H.L.set i none,H.E⟩
theorem Heap.zdf{H:Heap}{i l k o}(h:(H.zyy i).get l k=some o):H.get l k=some o∧¬(l=H.lv∧k=i):=by
 unfold Heap.get Heap.zyy at h;by_cases hl:l=H.lv;rw[Qbq hl,Qbd]at h;by_cases hk:i=k;subst hk
 grind
 rw[Qbr hk]at h;exact⟨by simp_all[Heap.get],λe=>hk e.2.symm⟩
 simp_all[Heap.get]
theorem yjp{W g H i o}(hG:Good W g H)(hi:H.get H.lv i=some o) :
  Good W g (H.zyy i)∧Step W g H W g (H.zyy i)∧(∀{x c},Rel W g H x c->Rel W g (H.zyy i) x c)∧¬Own g (H.zyy i) (o.blk g H.lv i):=by
 have hown:∀b,Own g (H.zyy i) b->Own g H b:=λb ⟨l,k,q,hq,hb⟩=>⟨l,k,q,(Heap.zdf hq).1,hb⟩
 have harr:∀l k ver ty sz xs cp,(H.zyy i).get l k=some (.arr ver ty sz xs cp)->H.get l k=some (.arr ver ty sz xs cp):=λl k ver ty sz xs cp h=>(Heap.zdf h).1
 have hf:∀{x:V}{c:Value},Rel W g H x c->Rel W g (H.zyy i) x c:=λh=>Rel.y86 hown harr h
 refine⟨⟨λl k q h=>hG.dom l k q (Heap.zdf h).1,λl k q h=>hG.lt l k q (Heap.zdf h).1,λl k q l' k' q' h h' hb=>hG.inj l k q l' k' q' (Heap.zdf h).1 (Heap.zdf h').1 hb,λl k h =>?_,λl k q h=>z030 hown hf (hG.obj l k q (Heap.zdf h).1),hG.zns.y86 hown,hG.base⟩,
  ⟨rfl,rfl,rfl,Qbp _,λ_ _ _=>rfl,λb h=>.inl (hown b h),λ_ _ h=>h,λ_ _ h=>.inl h,λ_ _ _=>rfl,λl k ver ty sz xs cp hd h=>⟨ver,xs,cp,harr _ _ _ _ _ _ _ h,Qbp _,λ_=>⟨rfl,rfl,Qbp _⟩⟩,rfl,rfl⟩,hf,λ⟨l,k,q,hq,hb⟩ =>?_⟩
 rcases hG.fresh l k h with q|⟨q1,q2⟩
 exact .inl q
 grind[Heap.zyy]
 obtain⟨h1,h2⟩:=Heap.zdf hq;exact h2 (hG.inj _ _ _ _ _ _ h1 hi hb)
section
variable {W : World} {g : Gh} {H : Heap} {P : Program}
theorem Rel.z05y(l i){W' g' H' ty sz xs cp}(hd:g'.dom l i)(hg:H'.get l i=some (.arr 0 ty sz xs cp)):Rel W' g' H' (.ap l i 0 0 0) (.pointer (some ⟨g'.ab l i,0,none⟩)):=by
 refine .ap l i 0 0 0 _ hd (λ_ _ _ _ _ _=>Qbo _) λty sz xs cp _ =>?_
 simp
def z05h(P:Program)(t:Nat):Bool:=match P.info? t with
 |some i=>match i.desc with
  |.named n _=>n == "strings.Builder"
  |_=>false
 |none=>false
def yah(P:Program)(H:Heap)(t:Nat):Option (V×Heap):=match zeroV P t,P.info? t with
 |some z,some i=>if z.kzh&&z.cells.length==i.size&&Nat.blt 0 i.size then some (.ap H.lv H.L.length 0 0 0,H.push (.arr 0 t i.size [z] (some 1)))else none
 |_,_=>none
theorem yqn{W' g' H' l i ver ty sz z c}(hc:g'.cap l i=1)(h:W'.heap[g'.ab l i]? = some (.cells c ty (0,0)))(hsz:0<sz)(hl:z.cells.length=sz)(hr:zwa W' g' H' z.cells c):zev W' g' H' l i (.arr ver ty sz [z] (some 1)):=by
 have one:∀{j:Nat}{x:V},[z][j]? = some x->j=0∧x=z:=λ{j x} hj=>by
  cases j with
  |zero=>grind
  |succ j=>simp at hj
 refine⟨c,h,hsz,by rw[hr.1,hl,hc,Nat.one_mul],by rw[hc];decide,by rw[hc];simp,λn hn=>by grind,λj x hj =>?_,λj x t v hj ht =>?_,λj x t v hj ht =>?_⟩
 grind
 obtain⟨rfl,rfl⟩:=one hj;rw[Nat.zero_mul,Nat.zero_add];exact hr.2.1 t v ht;obtain⟨rfl,rfl⟩:=one hj;rw[Nat.zero_mul,Nat.zero_add];exact hr.2.2 t v ht
theorem yni(hG:Good W g H){t v H'}(h:yah P H t=some (v,H')):z8c P W g H (do pure (.value (<-Instr.alloc t true (.tuple #[])))) v H':=by
 unfold yah at h;split at h;rename_i z i hz hi;split at h;rename_i hc;simp[Nat.blt_eq]at hc;obtain⟨⟨c1,c2⟩,c3⟩:=hc;injection h with h;cases h;obtain⟨zc,hz1,hz2⟩:=zsn (W:=W) (g:=g) (H:=H) hz;have hr:=zfd c1 hz2
 obtain⟨h1,h2⟩:=zh2 hG (O:=.cells zc.cells t) (o:=.arr 0 t i.size [z] (some 1)) 1 (λW' g' H' hW hg hH hst=>by
  refine yqn (c:=zc.cells) (by rw[hg];simp[Gh.add]) ?_ c3 c2 (hr.mono hst);rw[hW,hg];simp only[Gh.add,if_true]
  exact z2p _ _)
 refine⟨.pointer (some ⟨W.heap.size,0,none⟩),_,_,.inl (by simp[Instr.alloc,hz1,newVar,newRow]),h1,h2,?_⟩;have hgt:(H.push (.arr 0 t i.size [z] (some 1))).get H.lv H.L.length=some (.arr 0 t i.size [z] (some 1)):=by rw[Heap.zi6,Qbq ⟨rfl,rfl⟩]
 have:=Rel.z05y (W':=W.alloc (.cells zc.cells t)) (g':=g.add H.lv H.L.length W.heap.size 1) H.lv H.L.length (.inr ⟨rfl,rfl⟩) hgt;simpa[Gh.add]using this;cases h;cases h
def ywy(H:Heap):V->Option (Nat×Nat×Nat×Nat)
 |.ap l i ver idx off=>match H.get l i with
  |some (.arr ver' ty sz xs cp)=>match Nat.beq ver' ver&&Nat.blt (Nat.add (Nat.mul idx sz) off) (Nat.mul xs.length sz)with
   |true=>some (ty,sz,xs.length,Nat.add (Nat.mul idx sz) off)
   |false=>none
  |_=>none
 |_=>none
theorem zy0(hG:Good W g H){x c ty sz n o}(h:ywy H x=some (ty,sz,n,o))(hx:Rel W g H x c):∃b q cells,c = .pointer (some ⟨b,o,none⟩)∧W.heap[b]? = some (.cells cells ty (0,0))∧cells.size=q * sz∧n<=q∧0<sz∧o<n * sz:=by
 unfold ywy at h;split at h;rename_i l i ver idx off;split at h;rename_i ver' ty' sz' xs cp hg;split at h;rename_i hc;simp only[Qag]at hc;have e1:=Qaj hc.1;subst e1;injection h with h;injection h with a1 h;injection h with a2 h;injection h with a3 a4;subst a1;subst a2;subst a3;subst a4
 cases hx with
 |ap _ _ _ _ _ a hd hv ha=>
  obtain rfl:=ha _ _ _ _ hg;obtain⟨cc,k1,k2,k3,k3',k4,k5,k6,k7,k8⟩:=hG.obj _ _ _ hg;exact⟨_,g.cap l i,cc,rfl,k1,k3,k4,k2,by simp_all⟩
 cases h;cases h;cases h
def yud:V->V->Bool
 |.ap l i v x o,.ap l' i' v' x' o'=>Nat.beq l l'&&Nat.beq i i'&&Nat.beq v v'&&Nat.beq x x'&&Nat.beq o o'
 |_,_=>false
theorem yy2{x y}(h:yud x y=true):x=y:=by
 unfold yud at h;split at h
 simp_all
 cases h
def z025(P:Program)(H:Heap)(op:BinOp)(t:Nat)(x y:V):Option V :=
 match yud x y,ywy H x,P.underlying t with
 |true,some _,some (.pointer e)=>match (P.info? e).isSome,op with
  |true,.eql=>some (.bool true)
  |true,.neq=>some (.bool false)
  |_,_=>none
 |_,_,_=>none
theorem y93{tp te j}(a)(hp:P.underlying tp=some (.pointer te))(hte:P.info? te=some j) :
  (binOp .eql tp (.pointer (some a)) (.pointer (some a))).run P W = .ok (.bool true) W:=by
 have h:∀d:Nat,(Op.equalIn (d+1) tp (.pointer (some a)) (.pointer (some a))).run P W = .ok true W:=λd=>by
  simp[Op.equalIn,run_underlying hp,sizeOf,typeInfo,hte,run_sameAddr_same]
 simp_all[binOp,Op.equal,Op.maxDepth]
theorem ytw(hG:Good W g H){op t x y v a b}(xo yo)(h:z025 P H op t x y=some v)(hx:Rel W g H x a)(hy:Rel W g H y b) :
  z8c P W g H (do pure (.value (<-(do eqGuard op t xo yo a b;binOp op t a b)))) v H:=by
 unfold z025 at h;split at h;rename_i p e h1 h2 h3;obtain rfl:=yy2 h1;obtain⟨ty,sz,n,o⟩:=p;obtain⟨blk,q,cells,rfl,k1,k2,k3,k4,k5⟩:=zy0 hG h2 hx
 have hb:b = .pointer (some ⟨blk,o,none⟩):=by
  obtain⟨blk',q',cells',rfl,m1,m2,m3,m4,m5⟩:=zy0 hG h2 hy;unfold ywy at h2;split at h2;rename_i l i ver idx off;split at h2;rename_i ver' ty' sz' xs cp hg;split at h2;rename_i hc;simp only[Qag]at hc;obtain rfl:ver'=ver:=Qaj hc.1
  cases hx with
  |ap _ _ _ _ _ _ _ _ ha=>
   have e1:=ha _ _ _ _ hg
   cases hy with
   |ap _ _ _ _ _ _ _ _ ha'=>
    grind
  cases h2;cases h2;cases h2
 subst hb;split at h;rename_i hi;obtain⟨j,hj⟩:=Option.isSome_iff_exists.1 hi;cases h;exact⟨_,W,g,.inl (by simp[eqGuard,y93 _ h3 hj]),.refl _ _ _,hG,.bool _⟩;rename_i hi;obtain⟨j,hj⟩:=Option.isSome_iff_exists.1 hi;cases h;exact⟨_,W,g,.inl (by simp_all[eqGuard,Lib.run_neq_ptr_same]),.refl _ _ _,hG,.bool _⟩;cases h;cases h
def z013(H:Heap):V->Bool
 |.ap l i _ _ _=>match H.get l i with
  |some (.arr _ _ _ _ (some 1))=>true
  |_=>false
 |_=>false
def z03b(P:Program)(H:Heap)(s d:Nat)(x:V):Option V :=
 match P.underlying s,P.underlying d,ywy H x with
 |some (.pointer t),some .unsafePointer,some _=>match P.info? t with
  |some j=>match Nat.blt 0 j.size with
   |true=>some x
   |false=>none
  |none=>none
 |some .unsafePointer,some (.pointer u),some (ty,sz,n,o)=>match P.info? u with
  |some _=>match Nat.beq (P.cellsOf ty) sz&&Nat.beq n 1&&z013 H x&&liesAt P P.depth ty 1 o u 1 with
   |true=>some x
   |false=>none
  |none=>none
 |_,_,_=>none
theorem yt9(hG:Good W g H){s d x v c}(h:z03b P H s d x=some v)(hx:Rel W g H x c):z8c P W g H (do pure (.value (<-convert s d c))) v H:=by
 unfold z03b at h;split at h;rename_i t p hs hd hp;obtain⟨ty,sz,n,o⟩:=p;obtain⟨blk,q,cells,rfl,k1,k2,k3,k4,k5⟩:=zy0 hG hp hx;split at h;rename_i j hj;split at h;rename_i hz;rw[Nat.blt_eq]at hz;cases h;have hlt:o<cells.size:=by rw[k2];exact Qbe k5 (Qau _ k3)
 exact⟨_,W,g,.inl (by simp[Lib.run_to_unsafe W ⟨blk,o,none⟩ hs hd hj (by omega) (show W.shape? blk=some (ty,cells.size) by simp[World.shape?,k1]) hlt]),.refl _ _ _,hG,hx⟩;cases h;cases h;rename_i u ty sz n o hs hd hp;obtain⟨blk,q,cells,rfl,k1,k2,k3,k4,k5⟩:=zy0 hG hp hx;split at h;rename_i j hj;split at h;rename_i hz;simp only[Qag]at hz;obtain⟨⟨⟨z1,z2⟩,z3⟩,z4⟩:=hz
 have e1:=Qaj z1;cases h
 have hcells:cells.size=sz:=by
  unfold z013 at z3;split at z3;rename_i l i ver idx off;split at z3;rename_i ver' ty' sz' xs hg
  cases hx with
  |ap _ _ _ _ _ a _ _ ha=>
   simp[ywy,hg]at hp;split at hp;rename_i hc;simp only[Qag]at hc;obtain rfl:ver'=ver:=Qaj hc.1;injection hp with hp;injection hp with a1 hp;injection hp with a2 hp;injection hp with a3 a4;have:=ha _ _ _ _ hg;injection this with e1' e2';obtain⟨cc,m1,m2,m3,m3',m4,m5,_⟩:=hG.obj _ _ _ hg;rw[<-e1',k1]at m1;injection m1 with m1;injection m1 with m1 _ _
   grind
   cases hp
  cases z3;cases z3
 have hq:cells.size / P.cellsOf ty=1:=by rw[hcells,e1];exact Nat.div_self k4
 exact⟨_,W,g,.inl (by simp[Lib.run_from_unsafe W (e:=ty) (cells:=cells.size) ⟨blk,o,none⟩ hs hd hj (by simp[World.shape?,k1]) (by rw[hq];exact z4)]),.refl _ _ _,hG,hx⟩;cases h;cases h;cases h
def y2t(H:Heap)(x:V):Option V:=match x with
 |.nils=>some .nilp
 |.hs l i ver off n full=>match H.get l i with
  |some (.arr ver' _ _ _ _)=>match Nat.beq ver' ver&&Nat.blt 0 n with
   |true=>some (.ap l i ver off 0)
   |false=>none
  |_=>none
 |_=>none
theorem y9e(hG:Good W g H){x v c ts ty}(h:y2t H x=some v)(hx:Rel W g H x c):z8c P W g H (do pure (.value (<-Builtin.unsafeSliceData_ ts ty #[c]))) v H:=by
 unfold y2t at h;split at h;cases h
 cases hx with
 |nils=>exact⟨_,W,g,.inl (by simp[Lib.run_unsafeSliceData_nil]),.refl _ _ _,hG,.nilp⟩
 rename_i l i ver off n full;split at h;rename_i ver' ty' sz xs cp hg;split at h;rename_i hc;simp only[Qag]at hc;obtain rfl:ver'=ver:=Qaj hc.1;have hn:0<n:=by simp_all
 cases h
 cases hx with
 |hs _ _ _ _ _ _ a m cap hd hv ha=>
  obtain⟨rfl,rfl,⟨e1,e2,e3⟩,e4⟩:=ha _ _ _ _ hg;refine⟨_,W,g,.inl (by rw[Qbt,Lib.run_unsafeSliceData_row W ts ty _ _ cap (by omega)];rfl),.refl _ _ _,hG,?_⟩;refine .ap l i ver' off 0 _ hd hv λty2 sz2 xs2 cp2 h2 =>?_
  grind
 cases h;cases h;cases h
def zkq:List V->Option B8
 |[]=>some []
 |v::r=>match v,zkq r with
  |.int .u8 (.ofNat m),some s=>match Nat.ble m 255 with
   |true=>some (m.toUInt8::s)
   |false=>none
  |_,_=>none
theorem zpp:∀{vs s},zkq vs=some s->s.length=vs.length∧∀(j:Nat) (x),s[j]? = some x->vs[j]? = some (.int .u8 x.toNat)
 |[],s,h=>by simp[zkq,Qbn]at h;grind
 |v::r,s,h=>by
  simp[zkq]at h;split at h;rename_i m s' h2;split at h;rename_i hc;cases h;obtain⟨k1,k2⟩:=zpp h2;refine⟨by simp[k1],λj x hj =>?_⟩
  cases j with
  |zero=>
   simp only[Qbw,Qbn]at hj ⊢;subst hj;have hc:=Nat.le_of_ble_eq_true hc
   have:(m.toUInt8).toNat=m:=by
    simp[UInt8.toNat_ofNat'];omega
   rw[this];rfl
  |succ j=>grind
  cases h;cases h
def ys3(P:Program)(H:Heap)(pt:Nat)(p n:V):Option (V×Heap) :=
 match p,n with
 |.nilp,.int .i64 (.ofNat 0)=>some (.str [],H)
 |.ap l i ver 0 0,.int .i64 (.ofNat m)=>match H.get l i,P.underlying pt with
  |some (.arr ver' ty sz xs cp),some (.pointer e)=>match Nat.beq ver' ver&&Nat.beq sz 1&&Nat.beq l H.lv&&Nat.beq e ty&&Nat.beq (P.cellsOf ty) 1&&Nat.blt 0 m&&Nat.ble m xs.length&&Nat.ble m zh1 with
   |true=>match zkq (xs.take m)with
    |some s=>some (.str s,H.zyy i)
    |none=>none
   |false=>none
  |_,_=>none
 |_,_=>none
theorem yrw(hG:Good W g H){pt it ty:Nat}{p n v H' cp cn}(h:ys3 P H pt p n=some (v,H'))(hp:Rel W g H p cp)(hn:Rel W g H n cn) :
  z8c P W g H (do pure (.value (<-Builtin.unsafeString_ #[pt,it] ty #[cp,cn]))) v H':=by
 unfold ys3 at h;split at h;injection h with h;cases h;cases hp;cases hn;exact⟨_,W,g,.inl (by rw[Qbt,show Int.ofNat 0=(0:Int)from rfl,Lib.run_unsafeString_none W pt it ty none];rfl),.refl _ _ _,hG,.str []⟩;rename_i l i ver m;split at h;rename_i ver' ty' sz xs cap e hg hpt;split at h;rename_i hc;simp only[Qag]at hc;obtain⟨⟨⟨⟨⟨⟨⟨c1,c2⟩,c3⟩,c4⟩,c5⟩,c6⟩,c7⟩,c8⟩:=hc
 obtain rfl:ver'=ver:=Qaj c1;obtain rfl:sz=1:=Qaj c2;obtain rfl:l=H.lv:=Qaj c3;obtain rfl:e=ty':=Qaj c4;have c5:=Qaj c5;rw[Nat.blt_eq]at c6;have c7:=Nat.le_of_ble_eq_true c7;have c8:=Nat.le_of_ble_eq_true c8;unfold zh1 at c8;split at h;rename_i s hs;injection h with h;cases h;obtain⟨b1,b2⟩:=zpp hs
 have hsl:s.length=m:=by grind
 cases hn
 cases hp with
 |ap _ _ _ _ _ a hd hv ha=>
  obtain rfl:=ha _ _ _ _ hg;obtain⟨cc,k1,k2,k3,k3',k4,k5,k6,k7,k8⟩:=hG.obj _ _ _ hg;have hlt:=hG.lt _ _ _ hg
  have hrun:=Lib.run_unsafeString_row (P:=P) W pt it ty e hpt c5 (g.ab H.lv i) cc.size (by simp[World.shape?,k1]) s (by grind) (by rw[hsl,k3];omega) (by omega) (λj x hj=>by
   have hj':=b2 j x hj;have hjm:j<m:=by grind
   rw[Qaw,Qbq hjm]at hj';have hrel:=k8 j _ 0 _ hj' rfl;have hadd:(⟨g.ab H.lv i,0,none⟩:Addr).add j=⟨g.ab H.lv i,j,none⟩:=by unfold Addr.add;split <;> simp_all
   have hjc:j<cc.size:=by rw[k3];omega
   rw[hadd,cell_of k1 hjc];rw[Nat.mul_one,Nat.add_zero]at hrel;generalize cc.getD j undef=q at hrel
   cases hrel;rfl)
  rw[hsl]at hrun;obtain⟨g1,g2,g3,g4⟩:=yjp hG hg
  have hfz:∀k,k≠g.ab H.lv i->(W.freeze ⟨g.ab H.lv i,0,none⟩ m).heap[k]? = W.heap[k]? := λk hk=>by
   unfold World.freeze;split;rfl;simp[Qby]
   grind
  have hsize:(W.freeze ⟨g.ab H.lv i,0,none⟩ m).heap.size=W.heap.size:=by unfold World.freeze;split <;> simp
  have hos:(W.freeze ⟨g.ab H.lv i,0,none⟩ m).os=W.os∧(W.freeze ⟨g.ab H.lv i,0,none⟩ m).tape=W.tape∧(W.freeze ⟨g.ab H.lv i,0,none⟩ m).output=W.output:=by unfold World.freeze;grind
  have hob:Own g H (g.ab H.lv i):=⟨_,_,_,hg,rfl⟩
  have hst:Step W g H (W.freeze ⟨g.ab H.lv i,0,none⟩ m) g (H.zyy i) :=
   ⟨hos.1,hos.2.1,hos.2.2,Nat.le_of_eq hsize.symm,λb hb hno=>hfz b (λe=>hno (by rw[e];exact hob)),g2.own,g2.dom,g2.new,g2.blk,g2.arr,g2.lv,rfl⟩
  have hst2:∀l k o,(H.zyy i).get l k=some o->o.blk g l k≠g.ab H.lv i:=λl k o ho e=>by
   obtain⟨q1,q2⟩:=Heap.zdf ho;exact q2 (hG.inj _ _ _ _ _ _ q1 hg e)
  refine⟨.string ⟨s.toArray⟩,_,g,.inl (by rw[Qbt,show Int.ofNat m=((m:Nat):Int)from rfl,hrun];rfl),hst,⟨g1.dom,λl k o ho=>by rw[hsize];exact g1.lt l k o ho,g1.inj,g1.fresh,λl k o ho =>?_,hG.zns.step hst,Qbf hG.base hst.size⟩,.str s⟩;have ho':=hG.obj l k o (Heap.zdf ho).1;exact ho'.mono hst (hfz _ (hst2 l k o ho)) rfl rfl rfl
 cases h;cases h;cases h;cases h
def y2a(P:Program)(H:Heap)(t:Nat)(n c:V):Option (V×Heap) :=
 match n,c with
 |.int _ (.ofNat n),.int _ (.ofNat c)=>match P.underlying t with
  |some (.slice e)=>match P.info? e,zeroV P e with
   |some i,some z=>match z.kzh&&Nat.beq z.cells.length i.size&&Nat.blt 0 i.size&&Nat.ble n c&&Nat.ble c 1000000&&Nat.ble i.bytes 100000 with
    |true=>some (.hs H.lv H.L.length 0 0 n false,H.push (.arr 0 e i.size (List.replicate n z) none))
    |false=>none
   |_,_=>none
  |_=>none
 |_,_=>none
theorem y9k(hG:Good W g H){t n c v H' cn cc}(h:y2a P H t n c=some (v,H'))(hn:Rel W g H n cn)(hcc:Rel W g H c cc):z8c P W g H (do pure (.value (<-Instr.makeSlice t cn cc))) v H':=by
 unfold y2a at h;split at h
 ·rename_i k1 n k2 c;split at h
  ·rename_i e ht;split at h
   ·rename_i i z hi hz;split at h
    ·rename_i hc;simp only[Qag]at hc;obtain⟨⟨⟨⟨⟨c1,c2⟩,c3⟩,c4⟩,c5⟩,c6⟩:=hc;have c2:=Qaj c2;rw[Nat.blt_eq]at c3;have c4:=Nat.le_of_ble_eq_true c4;have c5:=Nat.le_of_ble_eq_true c5;have c6:=Nat.le_of_ble_eq_true c6;injection h with h;cases h;cases hn;cases hcc
     obtain⟨zc,hz1,hz2⟩:∃zc,i.zero=some zc∧Rel W g H z zc:=by
      simp[zeroV,hi,Qaf]at hz;obtain⟨zc,q1,rfl⟩:=hz;exact⟨zc,q1,zor zc⟩
     obtain⟨r1,r2,r3⟩:=zfd c1 hz2;have hb:=Nat.mul_le_mul c6 c5;have hrun:=run_make (P:=P) W t e i zc ht hi hz1 k1 k2 (Int.ofNat n) (Int.ofNat c) (Int.natCast_nonneg n) (by grind) (by grind) (by grind);simp[Int.ofNat_eq_natCast]at hrun
     obtain⟨h1,h2⟩:=zh2 hG (O:=.cells (madeCells zc.cells (c * i.size)) e) (o:=.arr 0 e i.size (List.replicate n z) none) c (λW' g' H' hW hg hH hst=>by
      have hcap:g'.cap H.lv H.L.length=c:=by rw[hg];simp[Gh.add]
      refine⟨madeCells zc.cells (c * i.size),?_,c3,by rw[hcap,size_madeCells],by rw[hcap];unfold maxLen;omega,by grind,by simp,λj x hj =>?_,λj x tt u hj htt =>?_,λj x tt u hj htt =>?_⟩;rw[hW,hg];simp only[Gh.add,if_true];exact z2p _ _
      all_goals
       rw[Qbi]at hj;split at hj;rename_i hjn;cases hj
       first
       |exact c2
       |(have htl:tt<i.size:=by rw[<-c2];exact(Qaa.1 htt).1
         rw[y0v zc.cells c j tt i.size (by rw[r1,c2]) htl (by omega)]
         first|exact r2 tt u htt|exact(r3 tt u htt).mono hst)
       cases hj)
     refine⟨.slice (some ⟨W.heap.size,0,none⟩) n c,_,_,.inl (by rw[Qbt,show Int.ofNat n=((n:Nat):Int)from rfl,show Int.ofNat c=((c:Nat):Int)from rfl,hrun];rfl),h1,h2,?_⟩;refine .hs H.lv H.L.length 0 0 n false _ n c (.inr ⟨rfl,rfl⟩) (λ_ _ _ _ _ _=>Qbo _) λty2 sz2 xs2 cp2 hg2 =>?_
     rw[Heap.zi6,Qbq ⟨rfl,rfl⟩]at hg2;injection hg2 with hg2;injection hg2 with _ _ _ e4 _;refine⟨by simp[Gh.add],rfl,⟨c4,by simp[Gh.add],λhh=>by cases hh⟩,by rw[<-e4];simp⟩
    cases h
   cases h
  cases h
 cases h
theorem yct(hG:Good W g H){t n c v cn cc}(h:zj2 P t n c=some v)(hn:Rel W g H n cn)(hcc:Rel W g H c cc):z8c P W g H (do pure (.value (<-Instr.makeSlice t cn cc))) v H :=
 (yo5 hG h hn hcc).op.turns hG
def isC:Operand->Bool
 |.const _=>true
 |_=>false
def y79(P:Program)(op:BinOp)(t:Nat)(xo yo:Operand)(x y:V):Option V:=match x,y,isC xo||isC yo,P.underlying t with
 |.nili,.nili,true,some (.interface _)=>match op with
  |.eql=>some (.bool true)
  |.neq=>some (.bool false)
  |_=>none
 |_,_,_,_=>none
theorem yrh(hG:Good W g H){op t xo yo x y v a b}(h:y79 P op t xo yo x y=some v)(hx:Rel W g H x a)(hy:Rel W g H y b) :
  z8c P W g H (do pure (.value (<-(do eqGuard op t xo yo a b;binOp op t a b)))) v H:=by
 unfold y79 at h;split at h;rename_i ms hc hu;cases hx;cases hy
 have hg:(eqGuard op t xo yo .nilIface .nilIface).run P W = .ok () W:=by
  cases xo <;> cases yo <;> first|(simp[isC]at hc;done)|(cases op <;> simp[eqGuard])
 have he:∀d:Nat,(Op.equalIn (d+1) t .nilIface .nilIface).run P W = .ok true W:=λd=>by
  simp[Op.equalIn,yz3 hu]
 have hu':(Op.equal t .nilIface .nilIface).run P W = .ok true W:=he 9999;split at h;cases h;exact⟨_,W,g,.inl (by simp[hg,binOp_eql (a:=.nilIface) rfl,hu']),.refl _ _ _,hG,.bool _⟩;cases h;exact⟨_,W,g,.inl (by simp[hg,binOp_neq (a:=.nilIface) rfl,hu']),.refl _ _ _,hG,.bool _⟩;cases h;cases h
def hEq2(P:Program)(H:Heap)(op:BinOp)(t:Nat)(xo yo:Operand)(x y:V):Option V:=match y79 P op t xo yo x y with
 |some v=>some v
 |none=>z025 P H op t x y
theorem ywf(hG:Good W g H){op t xo yo x y v a b}(h:hEq2 P H op t xo yo x y=some v)(hx:Rel W g H x a)(hy:Rel W g H y b) :
  z8c P W g H (do pure (.value (<-(do eqGuard op t xo yo a b;binOp op t a b)))) v H:=by
 grind[hEq2,yrh,ytw]
def hStr(P:Program)(s d:Nat)(x:V):Option V:=match P.underlying s,P.underlying d with
 |some (.slice e),some .string=>match P.underlying e with
  |some (.int .u8)=>match x with
   |.nils=>some (.str [])
   |.sl 1 ws _=>(zkq ws).map .str
   |_=>none
  |_=>none
 |_,_=>none
theorem y2h{s d e:Nat}(a)(c)(hs:P.underlying s=some (.slice e))(he:P.underlying e=some (.int .u8))(hd:P.underlying d=some .string):(convert s d (.slice a 0 c)).run P W = .ok (.string ⟨#[]⟩) W:=by
 rw[run_convert_bytes_string W s d e _ 0 c hs he hd];cases a <;> simp[Conv.bytesToString,loadCells]
 all_goals rfl
theorem yf4(hG:Good W g H){s d x v c}(h:hStr P s d x=some v)(hx:Rel W g H x c):z8c P W g H (do pure (.value (<-convert s d c))) v H:=by
 unfold hStr at h;split at h;rename_i e hs hd;split at h;rename_i he;split at h;cases h;cases hx;exact⟨_,W,g,.inl (by simp[y2h none 0 hs he hd]),.refl _ _ _,hG,.str []⟩;rename_i ws fl;rw[Qaf]at h;obtain⟨l,hl,rfl⟩:=h;obtain⟨b1,b2⟩:=zpp hl;have nil:ws=[]->l=[]:=λe=>Qao (by rw[b1,e];rfl)
 cases hx with
 |slnil=>
  obtain rfl:=nil rfl
  exact⟨_,W,g,.inl (by simp[y2h none 0 hs he hd]),.refl _ _ _,hG,.str []⟩
 |sle _ _ a cap hf=>
  obtain rfl:=nil rfl
  exact⟨_,W,g,.inl (by simp[y2h (some a) cap hs he hd]),.refl _ _ _,hG,.str []⟩
 |sl _ _ _ b o cap cc hb hz hcap hf hss hc h1 hr=>
  have hrun:=run_convert_bytes_back (P:=P) W s d e ⟨b,o,none⟩ cap l hs he hd λj hj=>by
   have e1:=b2 j _ (Qab hj);have e2:=hc j _ 0 (.int .u8 l[j].toNat) e1 rfl;have e3:=hr j _ 0 (.int .u8 l[j].toNat) e1 rfl;generalize hq:cc j 0=q at e2 e3;cases e3
   grind[Addr.add]
  rw[b1]at hrun;exact⟨_,W,g,.inl (by simp[hrun]),.refl _ _ _,hG,.str l⟩
 cases h;cases h;cases h
def yuq(P:Program)(H:Heap)(s d:Nat)(x:V):Option V:=match z03b P H s d x with
 |some v=>some v
 |none=>hStr P s d x
theorem yra(hG:Good W g H){s d x v c}(h:yuq P H s d x=some v)(hx:Rel W g H x c):z8c P W g H (do pure (.value (<-convert s d c))) v H:=by
 grind[yuq,yt9,yf4]
def zqt(P:Program)(H:Heap)(ρ:Operand->V)(op:Op):Option (V×Heap):=match op with
 |.alloc t=>match z05h P t with
  |true=>yah P H t
  |false=>none
 |.makeSlice t n c=>y2a P H t (ρ n) (ρ c)
 |.convert s d x=>(yuq P H s d (ρ x)).map λv=>(v,H)
 |.binOp op t x y _=>(hEq2 P H op t x y (ρ x) (ρ y)).map λv=>(v,H)
 |.call c=>match c.callee with
  |.builtin .unsafeSliceData=>match c.args.toList with
   |[x]=>(y2t H (ρ x)).map λv=>(v,H)
   |_=>none
  |.builtin .unsafeString=>match c.args.toList,c.argTypes.toList with
   |[p,n],[pt,_]=>ys3 P H pt (ρ p) (ρ n)
   |_,_=>none
  |_=>none
 |_=>none
theorem ztx{ρ r o v H'}(hG:Good W g H)(hρ:∀x,Rel W g H (ρ x) (r x))(h:zqt P H ρ o.op=some (v,H')):z8c P W g H (execOp r o) v H':=by
 have pure':∀{q:Option V},(q.map λv=>(v,H))=some (v,H')->q=some v∧H'=H:=λ{q} h=>by
  grind[Qaf]
 unfold zqt at h;split at h
 grind[execOp,yni]
 grind[execOp,y9k]
 rename_i s d x heq;obtain⟨h,rfl⟩:=pure' h;grind[execOp,yra];rename_i op t x y _ heq;obtain⟨h,rfl⟩:=pure' h;grind[execOp,ywf];rename_i c heq;unfold execOp;rw[heq];obtain⟨callee,args,argTypes⟩:=c;simp at h;split at h;split at h;rename_i x hargs;obtain⟨h,rfl⟩:=pure' h;obtain rfl:=z05 hargs
 grind[y9e,resolve,invoke,builtin]
 cases h;split at h;rename_i p n pt it hargs htys;obtain rfl:=z05 hargs;obtain rfl:=z05 htys
 grind[yrw,resolve,invoke,builtin]
 cases h;cases h;cases h
end
section
variable {W : World} {g : Gh} {H : Heap} {P : Program}
def ybl:Heap:=⟨0,[],λ_ _=>none⟩
theorem ypr{sz x ys}(h:zmi ybl sz x=some ys)(H):zmi H sz x=some ys:=by
 have hg:∀l i,ybl.get l i=none:=λl i=>by unfold Heap.get ybl;split <;> simp
 cases x <;> simp_all[zmi,zd3]
def zwc(P:Program)(t u:Nat)(s x:V):Option V :=
 match s with
 |.sl sz xs true=>match P.underlying t,P.underlying u with
  |some (.slice e),some du=>match P.info? e with
   |some i=>match i.zero,zmi ybl i.size x with
    |some z,some ys=>match zx1 du&&decide (0<i.size)&&decide (i.bytes<=524288)&&z.cells.size==i.size&&Nat.beq sz i.size&&Nat.ble (xs.length+ys.length) zh1 with
     |true=>some (.sl sz (xs++ys) false)
     |false=>none
    |_,_=>none
   |none=>none
  |_,_=>none
 |_=>none
theorem ysh{sz xs c}(h:Rel W g H (.sl sz xs true) c):Rel W g H (.sl sz xs false) c:=by
 cases h with
 |slnil=>exact .slnil _ _
 |sle _ _ a cap hf=>exact .sle _ _ a cap (λh=>by cases h)
 |sl _ _ _ b o cap c hb hz hcap hf hs hc h1 hr=>exact .sl _ _ _ b o cap c hb hz hcap (λh=>by cases h) hs hc h1 hr
theorem yhh(hG:Good W g H){t u ty:TypeId}{s x v:V}{cs cx:Value}(h:zwc P t u s x=some v)(hs:Rel W g H s cs)(hx:Rel W g H x cx) :
  z8c P W g H (do pure (.value (<-Builtin.append_ #[t,u] ty #[cs,cx]))) v H:=by
 unfold zwc at h;split at h
 case h_2=>cases h
 rename_i sz xs;split at h
 case h_2=>cases h
 rename_i e du ht hu;split at h
 case h_2=>cases h
 rename_i i hi;split at h
 case h_2=>cases h
 rename_i z ys hz hys;split at h
 case h_2=>cases h
 rename_i hc;injection h with h;subst h;simp only[Qag,Qar,beq_iff_eq]at hc;obtain⟨⟨⟨⟨⟨c1,c2⟩,c3⟩,c4⟩,c5⟩,c6⟩:=hc;have c5:=Qaj c5;have hroom:=Nat.le_of_ble_eq_true c6;subst c5;have hdu:∀k,du ≠ .int k:=λk hk=>by subst hk;simp[zx1]at c1
 obtain⟨hlen,news,n1,n2,n3,n4⟩:=yjt (P:=P) hG c2 (ypr hys H) hx;obtain⟨a,n,cap,rfl,rfl,o2,olds,o3,o4,o5,o6⟩:=znz (P:=P) hG c2 (show zd3 H i.size (.sl i.size xs true)=some xs by simp[zd3]) hs
 have hfull:cap=xs.length:=by
  cases hs with
  |slnil=>rfl
  |sle _ _ _ _ hf=>exact hf rfl
  |sl _ _ _ _ _ _ _ _ _ _ hf=>exact hf rfl
 cases ys with
 |nil=>
  have hz0:news = #[]:=by simpa using n1
  have:=zuh (P:=P) (W:=W) (ty:=ty) (base:=a) ht hu hdu hi hlen (n4 W.drawn) hz0 o2;refine⟨.slice a xs.length cap,W,g,.inl (by rw[Qbt,this];rfl),.refl _ _ _,hG,?_⟩
  rw[List.append_nil];exact ysh hs
 |cons y r=>
  have hb:xs.length+(y::r).length<=268435456:=hroom
  have hbytes:(xs.length+(y::r).length) * i.bytes<=140737488355328:=by
   calc (xs.length+(y::r).length) * i.bytes<=268435456 * 524288:=Nat.mul_le_mul hb c3
    _=_:=by decide
  have hcap:cap<xs.length+(y::r).length:=by simp;omega
  obtain⟨cap',d,k1,k2,k3⟩:=zxr (P:=P) (W:=W) (ty:=ty) (base:=a) ht hu hdu hi hz hlen o6 n4 hcap (by omega) (growslice_fits hcap hbytes)
  have hsz:(olds++news++Builtin.zeroCells z.cells (cap'-(xs.length+(y::r).length))).size=cap' * i.size:=by
   rw[Array.size_append,Array.size_append,size_zeroCells,o3,n1,c4,<-Nat.add_mul,<-Nat.add_mul]
   congr 1;omega
  have hF:zxu W g H i.size (xs++y::r) (olds++news++Builtin.zeroCells z.cells (cap'-(xs.length+(y::r).length))):=by
   refine o5.append n3 (λj hj =>?_) (λj hj =>?_);rw[Array.append_assoc,z1n (by rw[o3];exact hj)];rw[Array.append_assoc,<-o3,zik,z1n (by rw[n1];exact hj)]
  have hgr:=(Grow.drawn W d).trans (Grow.alloc {W with drawn:=d} (.cells (olds++news++Builtin.zeroCells z.cells (cap'-(xs.length+(y::r).length))) e));have hF':=hF.mono (hgr.step (g:=g) (H:=H));have hlen':xs.length+(y::r).length=(xs++y::r).length:=by simp
  refine⟨.slice (some ⟨W.heap.size,0,none⟩) (xs.length+(y::r).length) cap',_,g,.inl (by rw[Qbt,k3];rfl),hgr.step,hG.grow hgr,?_⟩;rw[show Value.slice (some ⟨W.heap.size,0,none⟩) (xs.length+(y::r).length) cap'=Value.slice (some ⟨W.heap.size,0,none⟩) (xs++y::r).length cap' by rw[hlen']]
  refine Rel.sl i.size (xs++y::r) false W.heap.size 0 cap' (λj tt=>(olds++news++Builtin.zeroCells z.cells (cap'-(xs.length+(y::r).length))).getD (j * i.size+tt) undef) (λhn=>by
   obtain⟨l,k,o,ho,hb⟩:=hn;have:=hG.lt l k o ho
   omega) c2 (by rw[<-hlen'];exact k1) (λh=>by cases h) hF'.1 (λj x tt u hj hu =>?_) hF'.2.1 hF'.2.2
  have hl:=hF'.1 j x hj;have hjl:=(Qaa.1 hj).1;have htl:=(Qaa.1 hu).1
  have hlt:j * i.size+tt<cap' * i.size:=by
   have:(j+1) * i.size<=cap' * i.size:=Qau _ (by omega);rw[Nat.succ_mul]at this;omega
  rw[Nat.zero_add];show World.cell? (({W with drawn:=d}:World).alloc _) ⟨({W with drawn:=d}:World).heap.size,_,none⟩=_;rw[World.cell?_alloc_new,Qae,Qas (by rw[hsz];exact hlt)];rfl
end
inductive zl7 where
 |ret
 |pan (v:V) (recovered:Bool)
def zl7.settle:zl7->zl7
 |.pan v true=>.ret
 |m=>m
def zl7.value:zl7->V
 |.pan v false=>v
 |_=>.nili
def zl7.ztb:zl7->zl7
 |.pan v false=>.pan v true
 |m=>m
def isRec(o:Oper):Bool:=match o.op with
 |.call c=>(match c.callee with
  |.builtin .recover=>o.guard.isNone&&c.args.isEmpty
  |_=>false)
 |_=>false
theorem LetsOut.mono{Q Q'}(hq:∀e a w,Q e a w->Q' e a w)(h:LetsOut Q):LetsOut Q':=by
 obtain⟨a,w,h⟩:=h;exact⟨a,w,hq _ _ _ h⟩
theorem Oper.yjv{P}{o:Oper}{a next next' Q Q'}(h:∀a w,next a w->next' a w)(hq:∀e a w,Q e a w->Q' e a w){r}(q:o.upon P a next Q r):o.upon P a next' Q' r:=by
 unfold Oper.upon at q ⊢;split at q;exact h _ _ q;exact h _ _ q;exact h _ _ q
 grind[Calls.mono,LetsOut.mono]
 exact Rows.mono q λv w k=>h _ _ k
 exact hq _ _ _ q;exact q.elim
theorem ztf{P ops Q Q'}(hq:∀e a w,Q e a w->Q' e a w):∀(l) (a) (w),wpOps P ops Q l a w->wpOps P ops Q' l a w
 |[],a,w,h=>hq _ _ _ h
 |i::rest,a,w,h=>by
  simp[wpOps]at h ⊢;split at h;exact ztf hq rest a w h;split at h;rename_i hw;rw[Qbq hw]
  rcases h with h|⟨h1,h2⟩
  exact .inl (Oper.yjv (λa w k=>ztf hq rest a w k) hq h)
  grind[LetsOut.mono]
  rename_i hw;rw[Qbr hw];exact ztf hq rest _ w h
theorem zxw{P ops Q cs}(hq:∀a w,¬Q .outgrown a cs w):∀(l) (a) (w),wpOps P ops (λe a w=>Q e a cs w) l a w->wpOpsS P ops Q l a cs w
 |[],a,w,h=>h
 |i::rest,a,w,h=>by
  simp[wpOps]at h;simp[wpOpsS]
  cases ho:ops[i]? with
  |none=>
   simp[ho]at h ⊢
   exact zxw hq rest a w h
  |some o=>
   simp[ho]at h ⊢;split at h;rename_i hw;rw[Qbq hw]
   rcases h with h|⟨_,a',w',h⟩
   unfold Oper.wp at h;generalize hr:(execOp a.eval o).run P w=r at h ⊢;split;exact h.elim;exact Oper.yjv (λa w q=>zxw hq rest a w q) (λ_ _ _ k=>k) h
   grind
   rename_i hw;rw[Qbr hw];exact zxw hq rest _ w h
def y4w(W:World)(g:Gh)(H:Heap):zl7->FrameMode->Prop
 |.ret,u=>u = .returning
 |.pan v r,u=>∃c,u = .panicking [{v:=c,recovered:=r}]∧Rel W g H v c
theorem y4w.mono{W g H m u}(h:y4w W g H m u){W' g' H'}(s:Step W g H W' g' H'):y4w W' g' H' m u:=by
 cases m with
 |ret=>exact h
 |pan v r=>obtain⟨c,h1,h2⟩:=h;exact⟨c,h1,h2.mono s⟩
theorem y4w.settle{W g H m u}(h:y4w W g H m u):y4w W g H m.settle (settle u):=by
 cases m with
 |ret=>subst h;rfl
 |pan v r=>
  obtain⟨c,h1,h2⟩:=h;subst h1
  cases r with
  |true=>rfl
  |false=>exact⟨c,rfl,h2⟩
theorem y4w.run{W g H m u}(h:y4w W g H m u):u ≠ .run:=by
 cases m with
 |ret=>subst h;simp
 |pan v r=>obtain⟨c,h1,h2⟩:=h;subst h1;simp
def y50(W0:World)(g0:Gh)(H0:Heap)(c₀:Frame)(cs:List Frame)(Q:z0j->St->Prop)(m':zl7)(e:Exit)(a:Act)(cs':List Frame)(W:World):Prop :=
 ∃g σ e' u',ywk W g σ.H e e'∧(σ.e0=H0.E∧Step W0 g0 H0 W g σ.H)∧zzb W a g σ∧cs'={c₀ with mode:=u'}::cs∧y4w W g σ.H m' u'∧Q e' σ
theorem y50.out{W0 g0 H0 c₀ cs Q m' a cs' W}:¬y50 W0 g0 H0 c₀ cs Q m' .outgrown a cs' W:=λ⟨_,_,_,_,h,_⟩=>by cases h
theorem z018{P}{c:Code}{Q Q' a cs w}(h:c.wpS P Q a cs w)(hq:∀e a cs w,Q e a cs w->Q' e a cs w):c.wpS P Q' a cs w :=
 λb k hb hr=>let ⟨e,a',cs',w',q,r⟩:=h b k hb hr;⟨e,a',cs',w',hq _ _ _ _ q,r⟩
section
variable {P : Program}
theorem y27{n W g H args cargs}(hG:Good W g H)(hA:zk0 W g H args cargs):zzb W {tmps:=cargs++Array.replicate (n-cargs.size) undef,defers:=[]} g ⟨args++List.replicate (n-args.length) .any,H,[],H.E⟩:=by
 refine⟨hG,by simp[hA.1],λj v hj =>?_,rfl,by simp⟩;rw[Qba]at hj;split at hj;rename_i hlt;rw[z1n (by rw[hA.1];exact hlt)];exact hA.2 j v hj;rw[Qbi]at hj;split at hj;cases hj;exact .any _;cases hj
end
end Go.Ab
namespace Go.Ab
open Go
open Go.RowKit
set_option linter.unusedVariables false
set_option linter.unusedSimpArgs false
def lnA:B8->B8
 |[]=>[]
 |c::r=>match c==10 with
  |true=>[c]
  |false=>c::lnA r
def lnB:B8->B8
 |[]=>[]
 |c::r=>match c==10 with
  |true=>r
  |false=>lnB r
def noS:B8->Bool
 |[]=>true
 |_::_=>false
theorem yyn{s}:noS s=true↔s=[]:=by cases s <;> simp[noS]
theorem yyd:∀s:B8,(lnB s).length<=s.length
 |[]=>Qbp _
 |c::r=>by
  have:=yyd r
  grind[lnB]
theorem z05v{s}(h:s≠[]):(lnB s).length<s.length:=by
 cases s with
 |nil=>exact(h rfl).elim
 |cons c r=>
  grind[yyd,lnB]
section
def Obj.aside:Obj->Bool
 |.loop _=>true
 |.deferred _=>true
 |_=>false
variable {W W' : World} {g g' : Gh} {H H' : Heap} {l : Nat} {rc : Loop} {z : Obj}
theorem zlw{b:Nat}{o o'}(hl:W.heap[l]? = some (.loop rc))(h:W.heap[b]? = some o)(ho:∀r,o ≠ .loop r):(W.putObj l o').heap[b]? = some o:=by
 grind[World.putObj_heap_other]
theorem zf6{b:Nat}{o o'}(hl:W.heap[l]? = some z)(hz:Obj.aside z=true)(h:W.heap[b]? = some o)(ho:Obj.aside o=false):(W.putObj l o').heap[b]? = some o:=by
 grind[World.putObj_heap_other]
theorem yrv{a v o'}(hl:W.heap[l]? = some z)(hz:Obj.aside z=true)(h:W.cell? a=some v):(W.putObj l o').cell? a=some v:=by
 rw[<-h];unfold World.cell? at h ⊢;have:a.block≠l:=λe=>by rw[e,hl]at h;cases z <;> first|(cases hz;done)|(simp at h;done)
 rw[World.putObj_heap_other this]
theorem Rel.put{v c}(h:Rel W g H v c)(hl:W.heap[l]? = some z)(hz:Obj.aside z=true)(o'):Rel (W.putObj l o') g H v c:=by
 induction h with
 |any c=>exact .any c
 |bool b=>exact .bool b
 |int k n=>exact .int k n
 |str s=>exact .str s
 |nilp=>exact .nilp
 |ptr l i off hd=>exact .ptr l i off hd
 |ref cs off b o c hb hc h1 hr ih=>exact .ref cs off b o c hb (λj v hj=>yrv hl hz (hc j v hj)) h1 ih
 |ap l i ver idx off a hd hv ha=>exact .ap l i ver idx off a hd hv ha
 |nils=>exact .nils
 |slnil sz full=>exact .slnil sz full
 |sle sz full a cap hf=>exact .sle sz full a cap hf
 |sl sz xs full b o cap c hb hz' hcap hf hs hc h1 hr ih=>exact .sl sz xs full b o cap c hb hz' hcap hf hs (λj x t v hj ht=>yrv hl hz (hc j x t v hj ht)) h1 ih
 |hs l i ver off n full a m cap hd hv ha=>exact .hs l i ver off n full a m cap hd hv ha
 |mapn=>exact .mapn
 |map l i hd=>exact .map l i hd
 |mapc es b en clock hb hw he=>exact .mapc es b en clock hb (zf6 hl hz hw rfl) he
 |fn f fs cs fs' cs' h1 h2 r1 r2 i1 i2=>exact .fn f fs cs fs' cs' h1 h2 i1 i2
 |nilf=>exact .nilf
 |iface t v c h ih=>exact .iface t v c ih
 |nili=>exact .nili
 |agg vs cs hn h1 hr ih=>exact .agg vs cs hn h1 ih
 |tup vs cs hn hr ih=>exact .tup vs cs hn ih
theorem zev.put{i j o}(h:zev W g H i j o)(hl:W.heap[l]? = some z)(hz:Obj.aside z=true)(o'):zev (W.putObj l o') g H i j o:=by
 cases o with
 |cells cs=>
  obtain⟨c,ty,h1,h2,h3,h4⟩:=h
  exact⟨c,ty,zf6 hl hz h1 rfl,h2,h3,λj v hj=>(h4 j v hj).put hl hz o'⟩
 |arr ver ty sz xs cp=>
  obtain⟨c,h1,h2,h3,h4,h5,h6,h7,h8,h9⟩:=h
  exact⟨c,zf6 hl hz h1 rfl,h2,h3,h4,h5,h6,h7,h8,λj x t v hj ht=>(h9 j x t v hj ht).put hl hz o'⟩
 |map es=>
  obtain⟨en,clock,h1,h2,h3,h4,h5⟩:=h
  exact⟨en,clock,zf6 hl hz h1 rfl,h2,h3,h4,λj p hj=>let ⟨e,a,b,c⟩:=h5 j p hj;⟨e,a,b.put hl hz o',c.put hl hz o'⟩⟩
 |siter s pos=>exact zf6 hl hz h rfl
 |mit es vis=>
  obtain⟨en,clock,mb,h1,h2,h3,h4⟩:=h;exact⟨en,clock,mb,zf6 hl hz h1 rfl,h2,zf6 hl hz h3 rfl,h4⟩
theorem Good.put(h:Good W g H)(hl:W.heap[l]? = some z)(hz:Obj.aside z=true)(o'):Good (W.putObj l o') g H :=
 ⟨h.dom,λl i o ho=>by rw[World.putObj_size];exact h.lt l i o ho,h.inj,h.fresh,λl i o ho=>(h.obj l i o ho).put hl hz o',
  ⟨λk cs hk=>let ⟨a,ty,q,b⟩:=h.zns.1 k cs hk;⟨a,ty,q,zf6 hl hz b rfl⟩,λk hk=>let ⟨a,v,ty,q,b,c⟩:=h.zns.2 k hk;⟨a,v,ty,q,zf6 hl hz b rfl,c⟩⟩,by rw[World.putObj_size];exact h.base⟩
theorem zzb.yo7{a σ}(h:zzb W a g σ)(hl:W.heap[l]? = some (.loop rc))(o'):zzb (W.putObj l o') a g σ :=
 ⟨h.good.put hl rfl o',h.size,λj v hj=>(h.tmps j v hj).put hl rfl o',h.dlen,λj f vs hj=>by
  rcases h.defs j f vs hj with ⟨h0,caps,as,h1,h2⟩|⟨h0,D,h1,h2,h3⟩
  exact .inl ⟨h0,caps,as,h1,h2.1,λj v hj=>(h2.2 j v hj).put hl rfl o'⟩
  exact .inr ⟨h0,D,h1,zlw hl h2 (λr=>by simp),h3⟩⟩
theorem Step.yuu(h:Step W g H W' g' H')(hl:W.heap.size<=l)(o):Step W g H (W'.putObj l o) g' H' :=
 ⟨h.os,h.tape,h.output,by rw[World.putObj_size];exact h.size,λb hb hn=>(World.putObj_heap_other (by omega)).trans (h.block b hb hn),h.own,h.dom,h.new,h.blk,h.arr,h.lv,h.base⟩
theorem Step.put2(h:Step W g H W' g' H')(hl:l<W.heap.size)(o):Step (W.putObj l o) g H (W'.putObj l o) g' H' :=
 ⟨h.os,h.tape,h.output,by rw[World.putObj_size,World.putObj_size];exact h.size,λb hb hn=>by
  rw[World.putObj_size]at hb;by_cases e:b=l;subst e;rw[World.putObj_heap_same hl,World.putObj_heap_same (Qbe hl h.size)]
  rw[World.putObj_heap_other e,World.putObj_heap_other e];exact h.block b hb hn,λb hb=>by rw[World.putObj_size];exact h.own b hb,h.dom,h.new,h.blk,h.arr,h.lv,h.base⟩
end
theorem y3q{W g H}(hG:Good W g H){b x}(h:W.heap[b]? = some (.loop x)):¬Own g H b:=λ⟨l,i,o,ho,hb⟩=>by
 have hr:=hG.obj l i o ho
 cases o with
 |cells cs=>obtain⟨c,ty,k,_⟩:=hr;rw[show g.blk l i=b from hb,h]at k;cases k
 |arr ver ty sz xs cp=>obtain⟨c,k,_⟩:=hr;rw[show g.ab l i=b from hb,h]at k;cases k
 |map es=>obtain⟨en,clock,k,_⟩:=hr;rw[show g.blk l i=b from hb,h]at k;cases k
 |siter s pos=>have k:W.heap[g.blk l i]? = _:=hr;rw[show g.blk l i=b from hb,h]at k;cases k
 |mit es vis=>obtain⟨en,clock,mb,k,_⟩:=hr;rw[show g.blk l i=b from hb,h]at k;cases k
section
variable {P : Program}
def zhd(P:Program)(lf:Nat):Prop :=
 (∀args w,(callFunc lf args).run P w = .ok (.enter lf args) w) ∧
 ∀(n l Bs) (K:B8->World->Prop) (Kx:World->Prop) (s) (W),
  (∀r W,K r W->W.cell? ⟨Bs,0,none⟩=some (.string ⟨r.toArray⟩)∧W.frozen? ⟨Bs,0,none⟩=false) ->
  (∀r W W',K r W->Grow W W'->K r W') ->
  (∀r W,r≠[]->K r W->YieldAt Fence.wide (n-1) P l #[.string ⟨(lnA r).toArray⟩] (W.setCell ⟨Bs,0,none⟩ (.string ⟨(lnB r).toArray⟩)) λe W'=>
   (e = .returned (.bool true)∧K (lnB r) W')∨(e = .returned (.bool false)∧Kx W')) ->
  s.length<=4611686018427387904->K s W->CallsIn Fence.wide n P lf #[.func (.yield l) #[] #[],.pointer (some ⟨Bs,0,none⟩)] W λe W'=>(∃v,e = .returned v)∧(K [] W'∨Kx W')
def St.marked(σ:St):St:={σ with d:=(zl8,[])::σ.d}
def St.begin(τ:St)(p i:Nat)(r:B8):St:={τ with t:=τ.t.set p (.str (lnA r)),H:=τ.H.set τ.H.lv i (.cells [.str (lnB r)]),d:=[]}
def RQ(τ τs:St)(φ:z0j->St->Prop)(e:z0j)(σ':St):Prop :=
 (∀v,e ≠ .panic v)∧∀Wb gb W g a a3,Good Wb gb τs.H->(σ'.e0=τs.H.E∧Step Wb gb τs.H W g σ'.H)->zzb Wb a gb {τ with H:=τs.H}->zzb W a3 g σ' ->
  ∃σ'' g'',zzb W a g'' σ''∧(σ''.e0=τs.H.E∧Step Wb gb τs.H W g'' σ''.H)∧φ e σ''
def y3n(P:Program)(lf:Nat)(go:Operand)(p:Nat)(assign body:Code)(Q:z0j->St->Prop):Nat->St->Prop
 |k,σ=>∃τ i r,zlf σ τ∧τ.e0=τ.H.E∧τ.ev go = .fn lf [] [.ptr τ.H.lv i 0]∧τ.H.get τ.H.lv i=some (.cells [.str r])∧r.length<=4611686018427387904∧(r=[]->Q .normal τ.marked) ∧
  (r≠[]->r.length<=k->match k with
   |0=>False
   |k+1=>Sat P assign (τ.begin p i r) (z0j.then (λσ1=>Sat P body σ1 (RQ τ (τ.begin p i r) λe σ''=>match e with
    |.normal=>σ''.H.get τ.H.lv i=some (.cells [.str (lnB r)])∧y3n P lf go p assign body Q k σ''
    |e=>Q e σ''.marked)) λ_ _=>False))
theorem zzb.grow{W W' a g σ}(h:zzb W a g σ)(k:Grow W W'):zzb W' a g σ :=
 ⟨h.good.grow k,h.size,λj v hj=>(h.tmps j v hj).mono k.step,h.dlen,λj f vs hj=>(h.defs j f vs hj).mono h.good k.step⟩
theorem zzb.later{W W' a g g' σ H'}(h:zzb W a g σ)(s:Step W g σ.H W' g' H')(hG:Good W' g' H'):zzb W' a g' {σ with H:=H'} :=
 ⟨hG,h.size,λj v hj=>(h.tmps j v hj).mono s,h.dlen,λj f vs hj=>(h.defs j f vs hj).mono h.good s⟩
theorem zzb.mark{W a g σ}(h:zzb W a g σ){D}(hD:W.heap[D]? = some (.deferred (some [])))(hb:g.base<=D):zzb W {a with defers:={target:=.collected D,args := #[]}::a.defers} g σ.marked :=
 ⟨h.good,h.size,h.tmps,by simp[St.marked,h.dlen],λj f vs hj=>by
  cases j with
  |zero=>obtain⟨rfl,rfl⟩:=hj;exact .inr ⟨rfl,D,rfl,hD,hb⟩
  |succ j=>exact h.defs j f vs (by simpa[St.marked]using hj)⟩
theorem yyh{W g H}(hG:Good W g H){l i r x}(h:H.get l i=some (.cells [.str r])) :
  Step W g H (W.setCell ⟨g.blk l i,0,none⟩ (.string ⟨x.toArray⟩)) g (H.set l i (.cells [.str x]))∧Good (W.setCell ⟨g.blk l i,0,none⟩ (.string ⟨x.toArray⟩)) g (H.set l i (.cells [.str x])):=by
 obtain⟨c,ty,h1,h2,h3,h4⟩:=hG.obj _ _ _ h;refine zei (o':=.cells [.str x]) hG h rfl rfl rfl rfl ?_ (λb hb hne =>?_) (λver ty sz xs cp e=>by cases e) λ_ =>?_
 simp_all
 show(W.heap.modify _ _)[b]? = _;rw[Qby,Qbr (λe=>hne e.symm)]
 ·refine⟨c.setIfInBounds 0 (.string ⟨x.toArray⟩),ty,?_,by simpa using h2,λj v hj =>?_,λj v hj =>?_⟩;show(W.heap.modify _ _)[g.blk l i]? = _
  grind
  all_goals
   cases j with
   |succ j=>simp at hj
   |zero=>
    simp at hj;subst hj;have hsz:0<c.size:=by rw[h2];simp
    simp[hsz,Option.getD_some]
    first|rfl|exact .str _
theorem y51{W g H}(hG:Good W g H){l i r}(h:H.get l i=some (.cells [.str r])):W.cell? ⟨g.blk l i,0,none⟩=some (.string ⟨r.toArray⟩)∧W.frozen? ⟨g.blk l i,0,none⟩=false:=by
 obtain⟨c,ty,h1,h2,h3,h4⟩:=hG.obj _ _ _ h;have hsz:0<c.size:=by rw[h2];simp
 have h5:=h4 0 _ rfl;refine⟨?_,?_⟩;unfold World.cell?;simp[h1,if_false];rw[Qae,Qas hsz,Option.getD_some]at h5;rw[Qas hsz];generalize c[0]=z at h5;cases h5;rfl
 grind[World.frozen?]
theorem str_inj{r s:B8}(h:Value.string ⟨r.toArray⟩ = .string ⟨s.toArray⟩):r=s:=by
 grind
theorem z03r{lf go p assign body σ Q}(hL:zhd P lf)(hc:(calm assign&&calm body)=true)
  (h:∀k,y3n P lf go p assign body Q k σ):Sat P (.rangeFunc go #[p] assign body) σ Q:=λW0 g0 H0 W a g hB hS hG=>by
 intro rr hr n;have hr:=hr.resolve_right (by simp[calm]);subst hr;simp[Qag]at hc
 have read:∀{k σ W g},y3n P lf go p assign body Q k σ->(σ.e0=H0.E∧Step W0 g0 H0 W g σ.H)->zzb W a g σ->∃(g1:Gh) (Bs:Nat) (r:B8),a.eval go = .func (.func lf) #[] #[.pointer (some ⟨Bs,0,none⟩)]∧W.cell? ⟨Bs,0,none⟩=some (.string ⟨r.toArray⟩)∧W.frozen? ⟨Bs,0,none⟩=false∧r.length<=4611686018427387904:=λ{k σ W g} hk hS hG=>by
  unfold y3n at hk;obtain⟨τ,i,r,hw,_,hev,hget,hcap,_⟩:=hk;obtain⟨g1,hS1,hG1⟩:=hw W0 g0 H0 W a g hB hS hG;have he:=hG1.ev go;rw[hev]at he;generalize a.eval go=cg at he
  cases he with
  |fn f fs cs fs' cs' n1 n2 r1 r2=>
   have e1:=r2 0 _ rfl;have hf:=Array.eq_empty_of_size_eq_zero n1
   have hcs:cs' = #[cs'.getD 0 undef]:=by
    obtain⟨l⟩:=cs'
    match l,n2 with
    |[x],_=>rfl
   generalize cs'.getD 0 undef=z at e1 hcs;cases e1;obtain⟨b1,b2⟩:=y51 hG1.good hget;exact⟨g1,_,r,by rw[hf,hcs],b1,b2,hcap⟩
 obtain⟨_,Bs,s0,hev0,hc0,hf0,hcap0⟩:=read (h 0) hS hG;refine wpIn_rangeFunc λfn hfn =>?_
 let rec':LoopState->Option Code->Loop:=λst pe=>{state:=st,pending:=pe,fn,tmps:=a.tmps,params := #[p],assign,body,defers:=W.heap.size}
 obtain⟨W1,hW1⟩:∃W1,(W.alloc (.deferred (some []))).alloc (.loop (rec' .ready none))=W1:=⟨_,rfl⟩
 have hL1:W1.heap[W.heap.size+1]? = some (.loop (rec' .ready none)):=by
  grind[World.alloc_heap_new,World.size_alloc]
 have hK1:W1.heap[W.heap.size]? = some (.deferred (some [])):=by
  grind[Below.heap_alloc,World.alloc_heap_new]
 have hgr:Grow W W1:=by rw[<-hW1];exact(Grow.alloc _ _).trans (Grow.alloc _ _)
 refine⟨W.heap.size+1,[{target:=.collected W.heap.size,args := #[]}],W1,{target:=.fn (.func lf) #[.pointer (some ⟨Bs,0,none⟩)],args := #[.func (.yield (W.heap.size+1)) #[] #[]]},W1,lf,
  #[.func (.yield (W.heap.size+1)) #[] #[]] ++ #[.pointer (some ⟨Bs,0,none⟩)],W1,?_,?_,?_,?_,λh=>(by cases h),?_⟩
 grind[run_enterLoop_outer]
 ·simp[resolve,hev0];simp[go_sem]
 intro f' hf';trivial
 ·simp[invoke,go_sem,hL.1]
 have hlsz:=hS.2.size;have hbase:g0.base<=W.heap.size:=by rw[<-hS.2.base];exact hG.good.base
 let K:=λ(r:B8) W'=>∃k σ' g',r.length<=k∧y3n P lf go p assign body Q k σ'∧(σ'.e0=H0.E∧Step W0 g0 H0 W' g' σ'.H)∧zzb W' a g' σ' ∧
  W'.heap[W.heap.size+1]? = some (.loop (rec' .ready none))∧W'.heap[W.heap.size]? = some (.deferred (some []))∧W'.cell? ⟨Bs,0,none⟩=some (.string ⟨r.toArray⟩)∧W'.frozen? ⟨Bs,0,none⟩=false
 let Kx:=λW'=>∃c e σ' g',(c = .ret∧e = .ret∨∃id,c = .exit id∧e = .exit id)∧Q e σ'.marked∧(σ'.e0=H0.E∧Step W0 g0 H0 W' g' σ'.H)∧zzb W' a g' σ' ∧
  W'.heap[W.heap.size+1]? = some (.loop (rec' .done (some c)))∧W'.heap[W.heap.size]? = some (.deferred (some []))
 have hcon:=hL.2 (n-1) (W.heap.size+1) Bs K Kx s0 W1 (λr W' hk =>?cell) (λr W' W'' hk hg =>?grow) (λr W' hne hk =>?round) hcap0 ?start
 case cell=>grind
 case grow=>
  obtain⟨k,σ',g',q1,q2,q3,q4,q5,q6,q7,q8⟩:=hk
  have cg:∀{a:Addr}{v:Value},W'.cell? a=some v->a.block<W'.heap.size:=λ{a v} hc=>by
   grind[World.cell?]
  have hb:=hg.block Bs (cg q7);refine⟨k,σ',g',q1,q2,⟨q3.1,q3.2.trans hg.step⟩,q4.grow hg,(hg.block _ (Qbh.1 q5).1).trans q5,(hg.block _ (Qbh.1 q6).1).trans q6,?_,?_⟩
  grind[World.cell?]
  grind[World.frozen?]
 case start=>
  refine⟨s0.length,σ,g,Qbp _,h _,⟨hS.1,hS.2.trans hgr.step⟩,hG.grow hgr,hL1,hK1,?_,?_⟩;have hlt:=y4u hc0;rw[<-hc0];unfold World.cell?;simp[hgr.block Bs hlt];have hlt:=y4u hc0;rw[<-hf0];unfold World.frozen?;simp[hgr.block Bs hlt]
 case round=>
  obtain⟨k,σ',g',hle,hR,hS',hG',hl,hD,hcell,hfroz⟩:=hk
  cases k with
  |zero=>grind
  |succ k=>
  unfold y3n at hR;obtain⟨τ,i,r2,hw,he0,hev,hget,_,_,hrd⟩:=hR;obtain⟨g1,hS1,hG1⟩:=hw W0 g0 H0 W' a g' hB hS' hG'
  have hBs:g1.blk τ.H.lv i=Bs:=by
   have he:=hG1.ev go;rw[hev,hev0]at he
   cases he with
   |fn f fs cs fs' cs' n1 n2 r1 r2=>
    have e1:=r2 0 _ rfl;simp at e1;cases e1;rfl
  obtain⟨b1,b2⟩:=y51 hG1.good hget;rw[hBs,hcell]at b1;have hr2:=str_inj (Option.some.inj b1);subst hr2;have hsat:=hrd hne hle;obtain⟨st1,gd1⟩:=yyh (x:=lnB r) hG1.good hget;rw[hBs]at st1 gd1
  have hlB:W.heap.size+1≠Bs:=λe=>by
   grind[World.cell?]
  have hDB:W.heap.size≠Bs:=λe=>by
   grind[World.cell?]
  have hl1:(W'.setCell ⟨Bs,0,none⟩ (.string ⟨(lnB r).toArray⟩)).heap[W.heap.size+1]? = some (.loop (rec' .ready none)):=(Below.heap_setCell _ _ _ _ hlB).trans hl;have hD1:(W'.setCell ⟨Bs,0,none⟩ (.string ⟨(lnB r).toArray⟩)).heap[W.heap.size]? = some (.deferred (some [])):=(Below.heap_setCell _ _ _ _ hDB).trans hD
  generalize hW1:W'.setCell ⟨Bs,0,none⟩ (.string ⟨(lnB r).toArray⟩)=W1 at st1 gd1 hl1 hD1 ⊢
  have hE:(τ.begin p i r).H.E=H0.E:=by
   rw[<-hS1.1,he0];show(τ.H.set τ.H.lv i _).E=_;unfold Heap.set;rw[Qbq rfl]
  have hGh:=hG1.later st1 gd1
  have hGs:zzb W1 {tmps:=a.tmps.setIfInBounds p (.string ⟨(lnA r).toArray⟩),defers:=[]} g1 (τ.begin p i r):=by
   have h0:zzb W1 {tmps:=a.tmps,defers:=[]} g1 {τ with H:=(τ.begin p i r).H,d:=[]}:=⟨hGh.good,hGh.size,hGh.tmps,rfl,λj f vs hj=>by simp at hj⟩;exact h0.next (.refl _ _ _) gd1 (.str _) (some p)
  have hl1lt:=(Qbh.1 hl1).1
  have hy:=by
   have:=run_yield (P:=P) (args := #[.string ⟨(lnA r).toArray⟩]) hl1 rfl;simpa[rec']using this
  refine⟨fn,_,assign,body,hy,roundIn_of_wpIn trivial ?_⟩
  let o2:Obj:=.loop (rec' .busy none)
  have a1:=hsat W1 g1 (τ.begin p i r).H W1 _ g1 ⟨gd1⟩ ⟨hS1.1.trans hE.symm,.refl _ _ _⟩ hGs (some (W.heap.size+1)) (.inr hc.1) (n-1-1);refine wpIn_mono (show assign.wpIn (Fence.wide.inRound (W.heap.size+1)) (n-1-1) P _ _ _ from a1) ?_
  rintro e am Wm ⟨gm,σ1,e',q1,q2,q3,q4⟩
  have hlm:=(q2.2.block _ hl1lt (y3q gd1 hl1)).trans hl1
  cases q1 with
  |exit id=>exact q4
  |ret=>exact q4
  |panic v c hr=>exact q4
  |normal=>
  refine⟨Wm.putObj (W.heap.size+1) o2,run_beginRound hlm rfl,?_⟩;have a2:=q4 (W1.putObj (W.heap.size+1) o2) g1 (τ.begin p i r).H (Wm.putObj (W.heap.size+1) o2) am gm ⟨gd1.put hl1 rfl o2⟩ ⟨q2.1,q2.2.put2 hl1lt o2⟩ (q3.yo7 hlm o2) (some (W.heap.size+1)) (.inr hc.2) (n-1-1);refine wpIn_mono (show body.wpIn (Fence.wide.inRound (W.heap.size+1)) (n-1-1) P _ _ _ from a2) ?_
  rintro e a3 W3 ⟨g3,σ3,e',k1,k2,k3,k4⟩
  have hl2:(W1.putObj (W.heap.size+1) o2).heap[W.heap.size+1]? = some (.loop (rec' .busy none)):=World.putObj_heap_same hl1lt;have hD2:(W1.putObj (W.heap.size+1) o2).heap[W.heap.size]? = some (.deferred (some [])):=(World.putObj_heap_other (by omega)).trans hD1;have gd2:=gd1.put hl1 rfl o2;have hl3:=(k2.2.block _ (by grind) (y3q gd2 hl2)).trans hl2
  have hD3:=(k2.2.block _ (by grind) (yvl gd2 hD2)).trans hD2;obtain⟨σ'',g'',m1,m2,m3⟩:=k4.2 _ g1 W3 g3 a a3 gd2 k2 (hGh.yo7 hl1 o2) k3;have stp:=((hS1.2.trans st1).yuu (by omega) o2).trans m2.2
  have fin:∀jump:Option Code,(Instr.endRound (W.heap.size+1) jump).run P W3 = .ok (.bool jump.isNone) (W3.putObj (W.heap.size+1) (.loop (rec' (if jump.isNone then .ready else .done) jump))):=λjump=>run_endRound jump hl3
  have hlt3:=(Qbh.1 hl3).1
  have out:∀(c:Code) (e:z0j),(c = .ret∧e = .ret∨∃id,c = .exit id∧e = .exit id)->Q e σ''.marked->∃v w',(Instr.endRound (W.heap.size+1) (some c)).run P W3 = .ok v w'∧((Ending.returned v = .returned (.bool true)∧K (lnB r) w')∨(Ending.returned v = .returned (.bool false)∧Kx w')):=λc e hce hq=>
   ⟨_,_,fin (some c),.inr ⟨rfl,c,e,σ'',g'',hce,hq,⟨m2.1.trans hE,stp.yuu (by omega) _⟩,m1.yo7 hl3 _,World.putObj_heap_same hlt3,zlw hl3 hD3 λr=>by simp⟩⟩
  cases k1 with
  |normal=>
   obtain⟨y1,y2⟩:=m3;have hgd:=(m1.yo7 hl3 (.loop (rec' .ready none))).good;have hbk:g''.blk τ.H.lv i=Bs:=by rw[<-hBs];exact m2.2.blk _ _ (hG1.good.dom _ _ _ hget)
   obtain⟨z1,z2⟩:=y51 hgd y1;rw[hbk]at z1 z2
   exact⟨_,_,fin none,.inl ⟨rfl,k,σ'',g'',by have:=z05v hne;omega,y2,⟨m2.1.trans hE,stp.yuu (by omega) _⟩,m1.yo7 hl3 _,World.putObj_heap_same hlt3,zlw hl3 hD3 λr=>by simp,z1,z2⟩⟩
  |ret=>exact out .ret .ret (.inl ⟨rfl,rfl⟩) m3
  |exit id=>exact out (.exit id) (.exit id) (.inr ⟨id,rfl,rfl⟩) m3
  |panic v c hr=>exact(k4.1 v rfl).elim
 refine(show CallsIn Fence.wide (n-1) P lf _ W1 _ from hcon).mono ?_
 rintro e W2 ⟨⟨v,rfl⟩,hk|hk⟩
 obtain⟨k,σ',g',hle,hR,hS',hG',hl,hD,hcell,hfroz⟩:=hk;unfold y3n at hR;obtain⟨τ,i,r2,hw,he0,hev,hget,_,hq,_⟩:=hR;obtain⟨g1,hS1,hG1⟩:=hw W0 g0 H0 W2 a g' hB hS' hG'
 have hBs:g1.blk τ.H.lv i=Bs:=by
  have he:=hG1.ev go;rw[hev,hev0]at he
  cases he with
  |fn f fs cs fs' cs' n1 n2 r1 r2=>
   have e1:=r2 0 _ rfl;simp at e1;cases e1;rfl
 obtain⟨b1,b2⟩:=y51 hG1.good hget;rw[hBs,hcell]at b1;have hr2:=str_inj (Option.some.inj b1);refine⟨none,_,run_endLoop hl (by simp[rec']),?_⟩;exact⟨g1,τ.marked,.normal,.normal,⟨hS1.1,hS1.2.yuu (by omega) _⟩,(hG1.yo7 hl _).mark (zlw hl hD λr=>by simp) (by rw[hS1.2.base];exact hbase),hq hr2.symm⟩;obtain⟨c,e,σ',g',hce,hq,hS',hG',hl,hD⟩:=hk;refine⟨some c,_,run_endLoop hl (by simp[rec']),?_⟩
 rcases hce with ⟨rfl,rfl⟩|⟨id,rfl,rfl⟩
 exact wpIn_ret ⟨g',σ'.marked,.ret,.ret,⟨hS'.1,hS'.2.yuu (by omega) _⟩,(hG'.yo7 hl _).mark (zlw hl hD λr=>by simp) (by rw[hS'.2.base];exact hbase),hq⟩;exact wpIn_exit ⟨g',σ'.marked,_,.exit id,⟨hS'.1,hS'.2.yuu (by omega) _⟩,(hG'.yo7 hl _).mark (zlw hl hD λr=>by simp) (by rw[hS'.2.base];exact hbase),hq⟩
end
end Go.Ab
