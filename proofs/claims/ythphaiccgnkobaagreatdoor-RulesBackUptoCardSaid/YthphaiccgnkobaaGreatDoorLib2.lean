/-
  WHAT A LAW IS GIVEN: arguments that read as data are abstract values over a memory in which nothing is owned.
-/
import Derived.Test.YthphaiccgnkobaaGreatDoorLib1
import Derived.WalkKit
import Derived.ProofKit
import Derived.OpenShut
import Derived.JoinedCond
import Derived.Carry
import Derived.Lib.Builder
import Derived.Lib.UnsafeStr
import Derived.Laws.MakeOwn
import Derived.Laws.IdiomStrings
import Derived.Recover
import Derived.RangeFuncCalls
import Derived.RangeFuncLeaves
set_option linter.defProp false
set_option linter.unusedSimpArgs false
set_option linter.unusedVariables false
namespace Go.Ab
open Go
mutual
def zqo{H:Type}:DataW H->Nat
 |.lit (.string bytes)=>bytes.length+1
 |.lit _=>1
 |.nil=>1
 |.ptr d=>zqo d+1
 |.slice elems spare=>zih elems+zih spare+1
 |.agg parts=>zih parts+1
 |.iface _ d=>zqo d+1
 |.map entries=>zsr entries+1
 |.held _=>1
def zih{H:Type}:List (DataW H)->Nat
 |[]=>0
 |d::r=>zqo d+zih r
def zsr{H:Type}:List (Lit×DataW H)->Nat
 |[]=>0
 |x::r=>ybh x+zsr r
def ybh{H:Type}:Lit×DataW H->Nat
 |(.string bytes,d)=>bytes.length+zqo d+1
 |(_,d)=>zqo d+1
end
def g0:Gh:=⟨λ_ _=>False,λ_ _=>0,λ_ _=>0,λ_ _=>0,0⟩
def H0:Heap:=⟨0,[],λ_ _=>none⟩
def get0(l i):H0.get l i=none:=by unfold Heap.get H0;split <;> simp
def own0(g)(b):¬Own g H0 b:=λ⟨l,i,o,h,_⟩=>by rw[get0]at h;cases h
def z0eg(W)(a:zn8 W g0 H0):Good W g0 H0 where
 dom l i o h:=by rw[get0]at h;cases h
 lt l i o h:=by rw[get0]at h;cases h
 inj l i o b d o' h:=by rw[get0]at h;cases h
 fresh l i h:=h.elim
 obj l i o h:=by rw[get0]at h;cases h
 zqr:=a
 base:=Qbo _
def yp1(cs):(V.agg cs).cells=cs:=rfl
structure Ty(α:Type) where
 el:α->V
 len:Nat
 size:α->Nat
 wf:α->Prop
 hlen:∀x,(el x).cells.length=len
def RelC(W:World)(cs:List Value)(o:Nat)(vs:List V):Prop:=∀(j) (v),vs[j]? = some v->∃c,cs[o+j]? = some c∧c.oneCell'=true∧Rel W g0 H0 v c
structure Reads(P:Program)(n t:Nat){α:Type}(T:Ty α):Prop where
 get:∀{H:Type}(enc:TypeId×Value->H) (W:World) (cs:List Value) (d:DataW H) (ps:List MemPlace),DataW.trod enc P W 0 (λ_=>true) true n t cs=some (d,ps) ->
  ∃x,cs.length=T.len∧RelC W cs 0 (T.el x).cells∧T.wf x∧T.size x<=zqo d
def Ty.int(k:IntKind):Ty Int:=⟨λn=>.int k n,1,λ_=>1,λn=>k.min<=n∧n<=k.max,λ_=>rfl⟩
def Ty.bool:Ty Bool:=⟨λn=>.bool n,1,λ_=>1,λ_=>True,λ_=>rfl⟩
def Ty.str:Ty B8:=⟨λn=>.str n,1,λs=>s.length+1,λ_=>True,λ_=>rfl⟩
def Ty.slice{α}(T:Ty α):Ty (List α):=⟨λxs=>.sl T.len (xs.map T.el) false,1,λxs=>(xs.map T.size).sum+1,λxs=>∀x∈xs,T.wf x,λ_=>rfl⟩
variable {P:Program}
def y2j{W c v}(d:c.oneCell'=true)(h:Rel W g0 H0 v c)(b:v.cells=[v]):RelC W [c] 0 v.cells:=λj u a=>by
 rw[b]at a
 cases j with
 |zero=>grind
 |succ j=>simp at a
def ziz{t:Nat}{k}(e:P.underlying t=some (.int k))(n):Reads P n t (.int k):=.mk λenc W cs d i h=>by
 obtain⟨m,rfl,a,b⟩:=DataW.trod_int e h;cases a;exact⟨m,rfl,y2j rfl (.int _ _) rfl,by simpa[Ty.int,Lit.wf]using b,by simp[Ty.int,zqo]⟩
def z029{t:Nat}(b:P.underlying t=some .bool)(n):Reads P n t .bool:=.mk λenc W cs d e h=>by
 obtain⟨m,rfl,a⟩:=DataW.trod_bool b h;cases a;exact⟨m,rfl,y2j rfl (.bool _) rfl,trivial,by simp[Ty.bool,zqo]⟩
def zlk{t:Nat}(b:P.underlying t=some .string)(n):Reads P n t .str:=.mk λenc W cs d e h=>by
 obtain⟨s,rfl,a,i⟩:=DataW.trod_string b h;cases a;exact⟨s.data.toList,rfl,y2j rfl (.str _) rfl,trivial,by simp[Ty.str,zqo]⟩
def yop{W:World}{a n cs}(h:W.cells? 0 a n=some cs):cs.length=n∧∀i,i<n->W.cell? (a.add i)=cs[i]? := by
 exact⟨by simpa using mapM_some_length h,λi hi=>mapM_some_get h i i (by simp[hi])⟩
def ywo{α:Type}{n}{p:Nat->α->Prop}(h:∀i,i<n->∃x,p i x):∃xs:List α,xs.length=n∧∀i x,xs[i]? = some x->p i x:=by
 induction n with
 |zero=>simp_all
 |succ n a=>
  have⟨xs,b,j⟩:=a λi hi=>h i (by omega)
  have⟨x,e⟩:=h n (by omega);refine⟨xs++[x],by simp[b],λi y d =>?_⟩
  grind
def ydj{H}{α:Type}(f):∀(xs:List α) (a),xs.length=a.length->(∀(i:Nat) (x) (d:DataW H),xs[i]? = some x->a[i]? = some d->f x<=zqo d)->(xs.map f).sum<=zih a
 |[],a,_,_=>by simp
 |x::xs,[],h,_=>by simp at h
 |x::xs,d::a,h,b=>by
  have j:=b 0 x d rfl rfl;have e:=ydj f xs a (by simpa using h) λi x d j e=>b (i+1) x d (by simpa using j) (by simpa using e)
  grind[zih]
def zb7{t e:Nat}(o:P.underlying t=some (.slice e)){α}{T:Ty α}(hc:P.cellsOf e=T.len)(K:0<T.len){n}(he:∀m,m<n->Reads P m e T):Reads P n t T.slice:=.mk λenc W cs d ps h=>by
 rcases DataW.trod_slice o h with ⟨rfl,q⟩|⟨a,len,u,elems,rest,m,rfl,rfl,q,_,h1,h2,h3,C,h5,_⟩
 cases q;refine⟨[],rfl,y2j rfl (.slnil _ _) rfl,by simp[Ty.slice],by simp[Ty.slice,zqo]⟩;cases q;rw[hc]at C
 have D:∀i,i<len->∃x:α,(∀j v,(T.el x).cells[j]? = some v->∃c,W.cell? (a.add (i * T.len+j))=some c∧c.oneCell'=true∧Rel W g0 H0 v c)∧T.wf x∧(∀d,elems[i]? = some d->T.size x<=zqo d.1)∧a.spot=none:=λi hi=>by
  have N:=C i hi;have E:i<elems.length:=by omega
  rw[Qab E,Qbw]at N;have⟨J,Z,Y⟩:=N;have⟨k1,k2⟩:=yop Z;have⟨x,x1,X,U,x4⟩:=(he m (by omega)).get enc W J _ _ Y;refine⟨x,λj v b =>?_,U,λd B=>by grind,?_⟩;have⟨c,r,c2,c3⟩:=X j v b;rw[Nat.zero_add]at r;refine⟨c,?_,c2,c3⟩;have h7:=(Qaa.1 r).1;rw[<-r,<-k2 j (by omega)];unfold Addr.add;split
  grind
  by_cases G:j=0
  grind
  rw[Qbr G];by_cases I:i * T.len=0;simp[I]
  grind
  have A:=C 0 (by omega);rw[Qab (show 0<elems.length by omega),Qbw]at A;have⟨s,R,_⟩:=A;have Q:=(yop R);have p:=Q.2 0 K;have:s[0]? = some (s[0]'(by omega)):=Qab _;rw[this]at p;simp[Addr.add,if_true]at p;unfold World.cell? at p;split at p
  simp_all
  cases p
 have⟨xs,hl,w⟩:=ywo D;refine⟨xs,rfl,?_,λx q =>?_,?_⟩;refine y2j rfl ?_ rfl;show Rel W g0 H0 (.sl T.len (xs.map T.el) false) _;by_cases A:len=0;have:xs=[]:=Qao (by omega);subst this;subst A;exact .sle _ _ a u (by simp);have M:=(w 0 (xs[0]'(by omega)) (Qab _)).2.2.2
 have O:∀k,a.add k=⟨a.block,a.off+k,none⟩:=λk=>by
  unfold Addr.add;split;rename_i hk;subst hk;cases a;grind;rfl
 have ha:a=⟨a.block,a.off,none⟩:=by cases a;simp at M;subst M;rfl
 have F:len=(xs.map T.el).length:=by simp[hl]
 have e1:∀(j:Nat) (x:V) (t:Nat) (v:V),(xs.map T.el)[j]? = some x->x.cells[t]? = some v->∃c,W.cell? ⟨a.block,a.off+j * T.len+t,none⟩=some c∧c.oneCell'=true∧Rel W g0 H0 v c:=λj x t v b o=>by
  rw[Qan,Qaf]at b;obtain⟨y,L,rfl⟩:=b
  grind
 rw[ha,F];refine .sl T.len (xs.map T.el) false a.block a.off u (λj t=>(W.cell? ⟨a.block,a.off+j * T.len+t,none⟩).getD undef) (own0 _ _) K (by omega) (by simp) (λj x b =>?_) (λj x t v b o =>?_) (λj x t v b o =>?_) (λj x t v b o =>?_);rw[Qan,Qaf]at b;obtain⟨y,L,rfl⟩:=b;exact T.hlen y;have⟨c,r,_,_⟩:=e1 j x t v b o;rw[r];rfl
 grind
 grind
 grind[List.mem_iff_getElem?]
 have:=ydj T.size xs (elems.map (·.1)) (by simp;omega) λi x d q B=>by
  rw[Qan,Qaf]at B;obtain⟨y,L,rfl⟩:=B
  grind
 simp[Ty.slice,zqo];omega
structure yto(P:Program)(n:Nat)(fs:List Field)(o:Nat){α:Type}(T:Ty α):Prop where
 get:∀{H:Type}(enc:TypeId×Value->H) (W:World) (cs:List Value) (xs:List (DataW H×List MemPlace)),xs.length=fs.length ->
  (∀(i:Nat) (f:Field),fs[i]? = some f->DataW.trod enc P W 0 (λ_=>true) true n f.type ((cs.drop f.offset).take (P.cellsOf f.type))=xs[i]?) ->
  ∃x,RelC W cs o (T.el x).cells∧T.wf x∧T.size x<=zih (xs.map (·.1))
def Ty.unit:Ty Unit:=⟨λ_=>.agg [],0,λ_=>0,λ_=>True,λ_=>rfl⟩
def Ty.pair{α β}(A:Ty α)(B:Ty β):Ty (α×β):=⟨λx=>.agg ((A.el x.1).cells++(B.el x.2).cells),A.len+B.len,λx=>A.size x.1+B.size x.2,λx=>A.wf x.1∧B.wf x.2,λx=>by rw[yp1,Qap,A.hlen,B.hlen]⟩
def Ty.struct{α}(A:Ty α):Ty α:=⟨λx=>.agg (A.el x).cells,A.len,λx=>A.size x+1,A.wf,λx=>by rw[yp1,A.hlen]⟩
def zf0{n o}:yto P n [] o .unit:=.mk λenc W cs xs h _=>by
 exact⟨(),λj v a=>by simp[Ty.unit,V.cells]at a,trivial,by simp[Ty.unit]⟩
def kzf{n o f m α β}{A:Ty α}{B:Ty β}(K:f.offset=o)(_hk:P.cellsOf f.type=A.len)(E:Reads P n f.type A)(D:yto P n m (o+A.len) B):yto P n (f::m) o (.pair A B):=.mk λenc W cs xs h k=>by
 obtain⟨y,a,rfl⟩:∃y a,xs=y::a:=by
  cases xs with
  |nil=>simp at h
  |cons y a=>grind
 have⟨x,J,w,u,I⟩:=E.get enc W _ _ _ (k 0 f rfl);have⟨z,s,r,G⟩:=D.get enc W cs a (by simpa using h) λi f C=>by have:=k (i+1) f (by simpa using C);simpa using this
 refine⟨(x,z),λj v b =>?_,⟨u,r⟩,by grind[Ty.pair,zih]⟩;rw[show((Ty.pair A B).el (x,z)).cells=(A.el x).cells++(B.el z).cells from rfl,Qaz]at b;split at b;rename_i F;have⟨c,d,q,p⟩:=w j v b
 simp_all[Qaw]
 rename_i e;have⟨c,d,q,p⟩:=s _ v b;refine⟨c,?_,q,p⟩;rw[A.hlen]at e d;rw[<-d];congr 1;omega
def zb1{t:Nat}{a}(k:P.underlying t=some (.struct a)){α}{A:Ty α}(o:P.cellsOf t=A.len){n}(h:∀m,m<n->yto P m a.toList 0 A):Reads P n t A.struct:=.mk λenc W cs d y q=>by
 obtain⟨xs,m,rfl,j,u,s,r⟩:=DataW.trod_struct k q;cases j;have⟨x,e,b,w⟩:=(h m (by omega)).get enc W cs xs (by simpa using s) λi f p=>r i f (by simpa using p)
 exact⟨x,by rw[u,o];rfl,e,b,by simp[Ty.struct,zqo];omega⟩
def Reads.conv{n t α β A B}(h:Reads P n t A)(g:α->β)(e:∀x,B.el (g x)=A.el x)(q:B.len=A.len)(o:∀x,A.wf x->B.wf (g x))(p:∀x,B.size (g x)<=A.size x):Reads P n t B:=.mk λenc W cs d a b=>by
 have⟨x,m,k,j,i⟩:=h.get enc W cs d a b
 grind
structure z0e4(P:Program)(t:Nat){α:Type}(T:Ty α):Prop where
 get:∀{H:Type}(enc:TypeId×Value->H) (W:World) (base:Nat) (v:Value) (d:DataW H) (ps:List MemPlace),DataW.Trod enc P W 0 (λ_=>true) true t v d ps->Value.okWide P W .any base t v ->
  ∃x,Rel W g0 H0 (T.el x) v∧T.wf x∧T.size x<=zqo d
def z01k{t:Nat}{w α}{T:Ty α}(s:P.underlying t=some (.struct w))(h:∀n,Reads P n t T)(u:∀x,T.el x = .agg (T.el x).cells):z0e4 P t T:=.mk λenc W base v d r e b=>by
 have⟨fuel,e⟩:=e;have⟨x,q,p,o,m⟩:=(h fuel).get enc W _ d r e;refine⟨x,?_,o,m⟩;unfold Value.okWide at b;rw[s]at b;obtain⟨cs,rfl,B,_⟩:=b;rw[u];have i:=by simpa[Value.cells]using q
 have get:∀j v,(T.el x).cells[j]? = some v->(cs.getD j undef).oneCell'=true∧Rel W g0 H0 v (cs.getD j undef):=λj v a=>by
  have⟨c,k,A,y⟩:=p j v a;simp[Value.cells,Array.getElem?_toList]at k;rw[Qae,k];exact⟨A,y⟩
 exact .agg _ _ (by rw[i,T.hlen]) (λj v a=>(get j v a).1) λj v a=>(get j v a).2
def z09p{fn:Func}{s:ChangeSpec}{W W' args H enc a gs before}{tb:Nat}{fresh handsOn}
  (J:laidOutB P=true) (r:s.vars=[]) (Q:∀t∈fn.params.toList,P.readableRec t=true∧t<P.types.size) (n:fn.resultTypes = #[tb]) (m:P.underlying tb=some .bool)
  (u:(s.fn H a).results=[.lit (.bool true)]∧(s.fn H a).args=a∧(s.fn H a).vars=[]) (A:DataW.Whole enc P fn.params.toList s.vars false W args.toList a gs before) (y:RowKit.Below W.heap.size W W') :
  s.post enc P fn false fresh handsOn false W args (.bool true) W':=by
 have e:=A;obtain⟨p,q,R,B,rfl,N,L⟩:=A;rw[r]at B;obtain⟨rfl,rfl⟩:=ChangeShapes.trodVars_none B;have M:=e.lt
 have again:∀(ts:List Nat) (vs:List Value) (a:List (DataW H)) (p:List MemPlace),(∀t∈ts,P.readableRec t=true∧t<P.types.size)->(∀x∈p,x.block<W.heap.size)->DataW.TrodAll enc P W 0 (λ_=>true) true ts vs a p ->
   DataW.TrodAll enc P W' 0 (λb=>decide (b<W.heap.size)) true ts vs a p:=by
  intro ts
  induction ts with
  |nil=>intro vs a p _ _ h;obtain⟨rfl,rfl,rfl⟩:=ChangeShapes.trodAll_nil h;exact ChangeShapes.trodAll_mk0
  |cons t ts G=>
   intro vs a p j C h;obtain⟨v,k,d,o,O,D,rfl,rfl,rfl,F,E⟩:=ChangeShapes.trodAll_cons h;exact trodAll_cons_mk (RowKit.Below.trod J (j t (by simp)).1 (j t (by simp)).2 F y λx i=>C x (by simp[i])) (G k o D (λt I=>j t (by simp[I])) (λx i=>C x (by simp[i])) E)
 refine⟨a,[],p++[],[],p,[],e,?_,?_,?_,?_,λh=>by cases h⟩;rw[List.append_nil,u.1,n]
 have K:=λb=>by
  have:=trodAll_cons_mk (P:=P) (enc:=enc) (w:=W') (base:=b) (spare:=λ_=>false) (held:=handsOn) (RowKit.shut_bool m true) ChangeShapes.trodAll_mk0;simpa using this
 exact K _
 grind
 rw[List.append_nil,u.2.2,r];rfl;exact y.frame _
def y5u{W W' g g' H'}(h:Step W g H0 W' g' H'):RowKit.Below W.heap.size W W' :=
 ⟨h.os,h.tape,h.output,h.size,λk a=>h.block k a (own0 _ _)⟩
def z060{f b H' a W}(h:y4u P f b H0 (.bool true) H')(i:∀args w,(callFunc f args).run P w = .ok (.enter f args) w)(o:zmy W g0 H0 b a)(m:zn8 W g0 H0) :
  Calls P f a W λe W'=>e = .returned (.bool true)∧RowKit.Below W.heap.size W W':=by
 rcases h W g0 a (z0eg W m) o with ⟨_,d⟩|⟨c,W',g',d,_⟩
 refine d.mono λe W' ⟨c,g',n,j,_,k⟩ =>?_
 cases k;exact⟨n,y5u j⟩
 grind
def z0cw{W g H vs}{cs:List Value}(h:cs.length=vs.length)(b:∀(j:Nat) (v:V),vs[j]? = some v->∃c,cs[j]? = some c∧Rel W g H v c):zmy W g H vs cs.toArray :=
 ⟨by simpa using h,λj v a=>by have⟨c,e,d⟩:=b j v a;simp_all⟩
mutual
def V.ren(a n:Nat):V->V
 |.ptr l i b=>if l=a+1 then .ptr a (n+i) b else .ptr l i b
 |.ref cs b=>.ref (V.zyg a n cs) b
 |.ap l i d e b=>if l=a+1 then .ap a (n+i) d e b else .ap l i d e b
 |.sl h xs full=>.sl h (V.zyg a n xs) full
 |.hs l i d b m full=>if l=a+1 then .hs a (n+i) d b m full else .hs l i d b m full
 |.map l i=>if l=a+1 then .map a (n+i)else .map l i
 |.fn f x y=>.fn f (V.zyg a n x) (V.zyg a n y)
 |.iface t v=>.iface t (V.ren a n v)
 |.agg cs=>.agg (V.zyg a n cs)
 |.tup vs=>.tup (V.zyg a n vs)
 |v=>v
def V.zyg(a n:Nat):List V->List V
 |[]=>[]
 |v::vs=>V.ren a n v::V.zyg a n vs
end
def yzm.ren(a n:Nat):yzm->yzm
 |.cells cs=>.cells (V.zyg a n cs)
 |.arr d ty h xs i=>.arr d ty h (V.zyg a n xs) i
 |.map es=>.map (es.map λp=>(V.ren a n p.1,V.ren a n p.2))
 |.siter s e=>.siter s e
 |.mit es b=>.mit es b
section
variable {P:Program}
structure BackX(H H':Heap)(σ:St)(v r:V):Prop where
 res:r=V.ren H.lv H.L.length v
 lv:H'.lv=H.lv
 len:H'.L.length=H.L.length+σ.H.L.length
 old:∀l i,(l<H.lv∨(l=H.lv∧i<H.L.length))->∀o',H'.get l i=some o'->∃o,σ.H.E l i=some o∧(o'=yzm.ren H.lv H.L.length o∨(o'=o∧H.get l i=some o))
 new:∀i o',H'.get H.lv (H.L.length+i)=some o'->∃o,σ.H.get (H.lv+1) i=some o∧o'=yzm.ren H.lv H.L.length o
 high:∀l i,H.lv<l->H'.E l i=H.E l i
end
end Go.Ab
namespace Go.Ab
open Go
section
variable {P:Program}
structure AccE where
 ty:Nat
 sz:Nat
 v:V
 xs:List V
 w:Bool
def z09h(lv:Nat)(L:List (Option yzm))(k:Option Nat)(a:AccE):Prop :=
 match k with
 |none=>(a.v = .nils∧a.xs=[])∨(a.v = .sl a.sz a.xs true∧(a.w=true->a.xs=[]))
 |some i=>∃b d,a.v = .hs lv i b 0 a.xs.length false∧L[i]? = some (some (.arr b a.ty a.sz a.xs d))
def zls(lv:Nat)(L:List (Option yzm))(d:List AccE)(e:List (Nat×yzm)):Prop :=
 ∃b:List (Option Nat),b.length=d.length∧(∀(j:Nat) (k) (a),b[j]? = some k->d[j]? = some a->z09h lv L k a) ∧
  (∀(i j:Nat) (n),b[i]? = some (some n)->b[j]? = some (some n)->i=j)∧(∀p∈e,L[p.1]? = some (some p.2)∧∀j:Nat,b[j]? ≠ some (some p.1))
def z09h.lt{lv L i a}(h:z09h lv L (some i) a):i<L.length:=by
 have⟨b,d,_,h⟩:=h
 grind
def zls.nil(lv)(L):zls lv L [] []:=⟨[],rfl,by simp,by simp,by simp⟩
def zls.cons{lv L m b}(h:zls lv L m b)(ty o)(w):zls lv L (⟨ty,o,.nils,[],w⟩::m) b:=by
 have⟨q,x,A,y,u⟩:=h;refine⟨none::q,by simp[x],λj k a d e =>?_,λi j n hi s =>?_,λp r=>⟨(u p r).1,λj s =>?_⟩⟩
 cases j with
 |zero=>simp at d e;subst d;subst e;exact .inl ⟨rfl,rfl⟩
 |succ j=>grind
 grind
 grind
def zls.grow{lv L e d}(h:zls lv L e d)(x):zls lv (L++[x]) e d:=by
 have⟨n,y,w,u,s⟩:=h;refine⟨n,y,λj k a q r =>?_,u,λp o=>⟨?_,(s p o).2⟩⟩;have:=w j k a q r
 cases k with
 |none=>exact this
 |some i=>have⟨b,A,m,B⟩:=this;exact⟨b,A,m,by grind⟩
 grind
def zls.obj{lv L b m}(h:zls lv L b m)(o):zls lv (L++[some o]) b ((L.length,o)::m):=by
 have⟨s,x,q,w,C⟩:=h;refine⟨s,x,λj k a u d =>?_,w,λp hp =>?_⟩;have:=q j k a u d
 cases k with
 |none=>exact this
 |some i=>have⟨e,y,r,A⟩:=this;exact⟨e,y,r,by grind⟩
 rcases Qbf.1 hp with rfl|hp
 refine⟨by simp,λj n =>?_⟩;have B:=(Qaa.1 n).1;have d:b[j]? = some (b[j]'(by omega)):=Qab _;have:=(q j _ _ n d).lt;simp at this
 grind
theorem zls.get{lv L e a}(h:zls lv L e a){i o}(b:(i,o)∈a):L[i]? = some (some o):=by
 have⟨j,n,m,k,d⟩:=h;exact(d _ b).1
theorem zls.sub{lv L d b a}(h:zls lv L d b)(i:∀p∈a,p∈b):zls lv L d a:=by
 have⟨e,o,n,m,k⟩:=h;exact⟨e,o,n,m,λp j=>k p (i p j)⟩
def zls.setObj{lv L m b}(h:zls lv L m b){i o}(s:(i,o)∈b)(o'):zls lv (L.set i (some o')) m (b.map λp=>if p.1=i then (i,o')else p):=by
 have⟨r,B,A,y,x⟩:=h;refine⟨r,B,λj k a e w =>?_,y,λp E =>?_⟩;have:=A j k a e w
 cases k with
 |none=>exact this
 |some n=>
  have⟨d,C,q,D⟩:=this;refine⟨d,C,q,?_⟩;have:n≠i:=λu=>(x _ s).2 j (by rw[e,u])
  grind
 grind
theorem zls.push{lv:Nat}{L:List (Option yzm)}{J:List AccE}{os:List (Nat×yzm)}(h:zls lv L J os){j:Nat}{ty B:Nat}{v:V}{xs:List V}{w:Bool}(hj:J[j]? = some ⟨ty,B,v,xs,w⟩)(G:List V)(hr:xs.length+G.length<=zi7)(E:Nat->Nat->Option yzm) :
  ∃v' L',z3o ⟨lv,L,E⟩ ty B v G=some (v',⟨lv,L',E⟩)∧zls lv L' (J.set j ⟨ty,B,v',xs++G,w⟩) os:=by
 have⟨A,U,I,M,u⟩:=h;have h7:=(Qaa.1 hj).1;have C:A[j]? = some (A[j]'(by omega)):=Qab _;generalize A[j]'(by omega)=k at C;have hA:=I j k _ C hj
 have o:∀(i:Nat) (a:AccE) (b:AccE),(J.set j b)[i]? = some a->(i=j∧a=b)∨(i≠j∧J[i]? = some a):=λi a b hi=>by
  by_cases D:i=j
  subst D;rw[Qaq (by omega)]at hi;injection hi with hi;exact .inl ⟨rfl,hi.symm⟩
  rw[Qam (Ne.symm D)]at hi;exact .inr ⟨D,hi⟩
 cases k with
 |none=>
  cases G with
  |nil=>
   rcases hA with ⟨hv,K⟩|hv
   simp only at hv K;subst hv;subst K;refine⟨.nils,L,rfl,A,by simp[U],λi k a d m =>?_,M,u⟩
   rcases o i a _ m with ⟨rfl,rfl⟩|⟨_,m⟩
   rw[C]at d;injection d with d;subst d;exact .inl ⟨rfl,rfl⟩
   exact I i k a d m;have⟨hv,T⟩:=hv;simp only at hv T;subst hv;refine⟨.sl B xs true,L,by simp[z3o],A,by simp[U],λi k a d m =>?_,M,u⟩
   rcases o i a _ m with ⟨rfl,rfl⟩|⟨_,m⟩
   rw[C]at d;injection d with d;subst d;exact .inr ⟨by simp,by simpa using T⟩
   exact I i k a d m
  |cons y r=>
   have Q:z3o ⟨lv,L,E⟩ ty B v (y::r)=some (.hs lv L.length 0 0 (xs.length+(y::r).length) false,⟨lv,L++[some (.arr 0 ty B (xs++y::r) none)],E⟩):=by
    rcases hA with ⟨hv,K⟩|hv
    simp only at hv K;subst hv;subst K;simp only[z3o,Heap.push];rw[Qbq (by simpa using hr)];simp;have⟨hv,T⟩:=hv;simp only at hv T;subst hv;simp only[z3o,Heap.push,if_true];rw[Qbq (by simpa using hr)]
   refine⟨_,_,Q,A.set j (some L.length),by simp[U],λi k a d m =>?_,λi Z n hi e =>?_,λp x=>⟨?_,λi hi =>?_⟩⟩
   rcases o i a _ m with ⟨rfl,rfl⟩|⟨s,m⟩
   rw[Qaq (by omega)]at d;injection d with d;subst d
   exact⟨0,none,by simp,by simp⟩;rw[Qam (Ne.symm s)]at d;have:=I i k a d m
   cases k with
   |none=>exact this
   |some n=>have⟨q,cp,Y,R⟩:=this;exact⟨q,cp,Y,by rw[Qal (Qaa.1 R).1];exact R⟩
   have N:∀i n,i≠j->(A.set j (some L.length))[i]? = some (some n)->n<L.length:=λi n s hi=>by
    rw[Qam (Ne.symm s)]at hi;have hl:=(Qaa.1 hi).1;exact(I i _ (J[i]'(by omega)) hi (Qab _)).lt
   by_cases F:i=j <;> by_cases X:Z=j
   rw[F,X]
   subst F;rw[Qaq (by omega)]at hi;injection hi with hi;injection hi with hi
   have:=N Z n X e;omega
   subst X;rw[Qaq (by omega)]at e;injection e with e;injection e with e
   have:=N i n F hi;omega;rw[Qam (Ne.symm F)]at hi;rw[Qam (Ne.symm X)]at e;exact M i Z n hi e;rw[Qal (Qaa.1 (u p x).1).1];exact(u p x).1;have h5:=(Qaa.1 (u p x).1).1;by_cases F:i=j
   subst F;rw[Qaq (by omega)]at hi;injection hi with hi;injection hi with hi;omega
   rw[Qam (Ne.symm F)]at hi;exact(u p x).2 i hi
 |some n=>
  have⟨q,cp,hv,hL⟩:=hA;simp only at hv hL;subst hv;have hn:=(Qaa.1 hL).1;refine⟨.hs lv n (q+1) 0 (xs.length+G.length) false,L.set n (some (.arr (q+1) ty B (xs++G) none)),?_,A,by simp[U],λi k a d m =>?_,M,λp x=>⟨?_,(u p x).2⟩⟩;simp only[z3o,Heap.get,Heap.set,if_true,hL,Option.join_some];rw[Qbq (by simpa using hr)]
  rcases o i a _ m with ⟨rfl,rfl⟩|⟨s,m⟩
  rw[C]at d;injection d with d;subst d
  exact⟨q+1,none,by simp,by simp[hn]⟩;have:=I i k a d m
  cases k with
  |none=>exact this
  |some n'=>
   have⟨O,h6,Y,R⟩:=this;refine⟨O,h6,Y,?_⟩;have:n'≠n:=λD=>s (M i j n (by rw[d,D]) C)
   rw[Qam (Ne.symm this)];exact R
  have h5:=(Qaa.1 (u p x).1).1;have:p.1≠n:=λD=>(u p x).2 j (by rw[C,D])
  rw[Qam (Ne.symm this)];exact(u p x).1
def z9a{D}{α:Type}{f}{l:List α}(h:∀x∈l,V.kin D (f x)):V.ze2 D (l.map f) :=
 zhd λv a=>by grind
end
section
variable {P:Program}
end
def ix{α:Type}(l:List α)(i:Int):Option α:=if 0<=i then l[i.toNat]? else none
def sub{α:Type}(l:List α)(lo hi:Int):Option (List α):=if 0<=lo∧lo<=hi∧hi<=l.length then some ((l.take hi.toNat).drop lo.toNat)else none
def cat(x y:B8):Option B8:=if x.length+y.length<=maxLen then some (x++y)else none
def ext{α:Type}(x y:List α):Option (List α):=if x.length+y.length<=zi7 then some (x++y)else none
def zau{T:Type}(m:List (B8×T))(k:B8):Option T:=(m.find? λp=>k==p.1).map (·.2)
def ze4{T:Type}(m:List (B8×T))(k:B8)(x:T):List (B8×T):=match m.findIdx? (λp=>k==p.1)with|none=>m++[(k,x)]|some j=>m.set j (k,x)
def quo(k:IntKind)(x y:Int):Option Int:=if y=0 then none else some (k.wrap (x.tdiv y))
def rem(k:IntKind)(x y:Int):Option Int:=if y=0 then none else some (x.tmod y)
def zm4{α l i}{x:α}(h:ix l i=some x):0<=i∧l[i.toNat]? = some x:=by
 grind[ix]
def yxp{α}{l y:List α}{lo hi}(h:sub l lo hi=some y):0<=lo∧lo<=hi∧hi<=l.length∧y=(l.take hi.toNat).drop lo.toNat∧0<=hi∧lo<=(hi.toNat:Int):=by
 grind[sub]
def z07b{x y z}(h:cat x y=some z):x.length+y.length<=maxLen∧z=x++y:=by
 grind[cat]
def y80{α}{x y z:List α}(h:ext x y=some z):x.length+y.length<=zi7∧z=x++y:=by
 simp_all[ext]
def z09v{k x y z}(h:quo k x y=some z):y≠0∧z=k.wrap (x.tdiv y):=by
 grind[quo]
def z06q{k x y z}(h:rem k x y=some z):y≠0∧z=x.tmod y:=by
 grind[rem]
def ztc{α:Type}{o}{β:Type}{f:α->Option β}{r}(h:o.bind f=some r):∃x,o=some x∧f x=some r:=by
 cases o with
 |none=>cases h
 |some x=>exact⟨x,rfl,h⟩
def an:Nat->List V->List V
 |0,l=>l
 |n+1,l=>.any::an n l
structure zd7(lv:Nat)(L:List (Option yzm))(as:List AccE)(os:List (Nat×yzm)):Prop where
 accs:zls lv L as os
 nodup:(os.map (·.1)).Nodup
def zd7.nil(lv):zd7 lv [] [] []:=⟨zls.nil _ _,by simp⟩
theorem zd7.get{lv L d a}(h:zd7 lv L d a){k i:Nat}{o}(b:a[k]? = some (i,o)):L[i]? = some (some o) :=
 h.accs.get (Qax b)
def zd7.obj{lv L b a}(h:zd7 lv L b a)(o):zd7 lv (L++[some o]) b ((L.length,o)::a):=by
 refine⟨h.accs.obj o,?_⟩;rw[List.map_cons,List.nodup_cons];refine⟨λe =>?_,h.nodup⟩;have⟨p,d,i⟩:=Qbb.1 e;have:=(Qaa.1 (h.accs.get (show(p.1,p.2)∈a from d))).1;omega
def zd7.upd{lv L r a}(h:zd7 lv L r a){k i o}(e:a[k]? = some (i,o))(o'):zd7 lv (L.set i (some o')) r (a.set k (i,o')):=by
 have s:=Qax e
 have d:a.map (λp=>if p.1=i then (i,o')else p)=a.set k (i,o'):=by
  apply List.ext_getElem?;intro j;rw[Qan,Qbc];by_cases b:k=j;subst b;rw[Qbq rfl,e,Qbq (Qaa.1 e).1];simp;rw[Qbr b]
  cases u:a[j]? with
  |none=>rfl
  |some p=>
   simp only[Qbk];rw[Qbr];intro w;have q:(a.map (·.1))[j]? = some i:=by grind
   have n:(a.map (·.1))[k]? = some i:=by grind
   have m:=(Qaa.1 q).1;exact b (((List.getElem?_inj m h.nodup).1 (q.trans n.symm)).symm)
 refine⟨?_,?_⟩;rw[<-d];exact h.accs.setObj s o'
 have:(a.set k (i,o')).map (·.1)=a.map (·.1):=by
  rw[List.map_set];apply List.ext_getElem?;intro j;rw[Qbc];split;rename_i b;subst b;have n:(a.map (·.1))[k]? = some i:=by grind
  grind
  rfl
 rw[this];exact h.nodup
def zd7.pick{lv L e b a}(h:zd7 lv L e b)(d:a.Sublist b):zd7 lv L e a :=
 ⟨h.accs.sub λp i=>d.subset i,h.nodup.sublist (d.map _)⟩
def zd7.cons{lv L d b}(h:zd7 lv L d b)(ty a)(w):zd7 lv L (⟨ty,a,.nils,[],w⟩::d) b:=⟨h.accs.cons ty a w,h.nodup⟩
theorem zd7.push{lv L e i}(h:zd7 lv L e i){j ty d v xs w}(m:e[j]? = some ⟨ty,d,v,xs,w⟩)(a)(k:xs.length+a.length<=zi7)(E) :
  ∃b L',z3o ⟨lv,L,E⟩ ty d v a=some (b,⟨lv,L',E⟩)∧zd7 lv L' (e.set j ⟨ty,d,b,xs++a,w⟩) i:=by
 have⟨b,L',o,n⟩:=h.accs.push m a k E;exact⟨b,L',o,n,h.nodup⟩
def zd7.form{lv L p q}(h:zd7 lv L p q){j:Nat}{ty b v xs w}(m:p[j]? = some ⟨ty,b,v,xs,w⟩) :
  (v = .nils∧xs=[])∨(v = .sl b xs true∧(w=true->xs=[]))∨∃i a o,v = .hs lv i a 0 xs.length false∧L[i]? = some (some (.arr a ty b xs o)):=by
 have⟨d,B,r,A,y⟩:=h.accs;have s:=(Qaa.1 m).1;have e:d[j]? = some (d[j]'(by omega)):=Qab _;generalize d[j]'(by omega)=k at e;have hA:=r j k _ e m
 cases k with
 |none=>rcases hA with hA|hA
        exact .inl hA
        grind
 |some n=>have⟨a,o,x,u⟩:=hA;grind
def zd7.len{P lv L b k}(h:zd7 lv L b k){j:Nat}{ty d v xs w}(m:b[j]? = some ⟨ty,d,v,xs,w⟩){t e:Nat}(a:P.underlying t=some (.slice e))(E) :
  zt3 P ⟨lv,L,E⟩ t v=some (.int .i64 xs.length):=by
 rcases h.form m with ⟨rfl,rfl⟩|⟨rfl,p⟩|⟨i,o,q,rfl,n⟩
 simp[zt3,a];simp[zt3,a];simp[zt3,a,Heap.get,n]
def zd7.whole{lv L a d}(h:zd7 lv L a d){j:Nat}{ty b v xs w}(e:a[j]? = some ⟨ty,b,v,xs,w⟩):v.yzo=true∧v.cells=[v]∧v.leaf=true:=by
 rcases h.form e with ⟨rfl,rfl⟩|⟨rfl,m⟩|⟨i,k,o,rfl,n⟩
 exact⟨rfl,rfl,rfl⟩;exact⟨rfl,rfl,rfl⟩;exact⟨rfl,rfl,rfl⟩
def zd7.at{P lv L r u}(h:zd7 lv L r u){j:Nat}{ty p v xs w}(B:r[j]? = some ⟨ty,p,v,xs,w⟩){t e:Nat}(A:P.underlying t=some (.slice e))
  (y:p=P.cellsOf e) (C:(P.underlying e).isSome=true) {i x} (F:0<=i) (d:xs[i.toNat]? = some x) (E) :
  ∃q:Nat->V,yzz P ⟨lv,L,E⟩ t v (.int .i64 i)=some (q 0)∧(∀s f o a,zvk P s f=some o->zd6 P s f (q a)=some (q (a+o)))∧∀b a,zej P ⟨lv,L,E⟩ b (q a)=rd P b x.cells a:=by
 rcases h.form B with ⟨rfl,rfl⟩|⟨rfl,G⟩|⟨k,n,I,rfl,D⟩
 simp at d;exact⟨λo=>.ref x.cells o,by simp[yzz,A,F,y,C,d],λs f o a m=>by simp[zd6,m],λb a=>by simp[zej]⟩;refine⟨λo=>.ap lv k n i.toNat o,?_,λs f o a m=>by simp[zd6,m],λb a=>by simp[zej,y5i,Heap.get,D,d]⟩
 grind[yzz,Heap.get]
def zls.setAt{lv L B E}(h:zls lv L B E){j n b a A}(I:B[j]? = some a)(F:a.v = .hs lv n b 0 a.xs.length false)(Y:L[n]? = some (some (.arr b a.ty a.sz a.xs A)))(X:a.xs≠[]){x}(C:x.length=a.xs.length) :
  zls lv (L.set n (some (.arr b a.ty a.sz x A))) (B.set j ⟨a.ty,a.sz,a.v,x,a.w⟩) E:=by
 have⟨o,Q,K,J,O⟩:=h;have T:=(Qaa.1 I).1;have r:o[j]? = some (o[j]'(by omega)):=Qab _;generalize o[j]'(by omega)=k at r
 have G:o[j]? = some (some n):=by
  have q:=K j k _ r I
  cases k with
  |none=>rcases q with ⟨h,_⟩|⟨h,_⟩ <;> rw[F]at h <;> cases h
  |some m=>
   have⟨e,s,D,_⟩:=q
   grind
 refine⟨o,by simp[Q],λi k R d u =>?_,J,λp M=>⟨?_,(O p M).2⟩⟩;by_cases y:i=j;subst y;rw[Qaq (by omega)]at u;cases u;rw[G]at d;cases d;exact⟨b,A,by rw[F,C],by grind⟩;rw[Qam (Ne.symm y)]at u;have q:=K i k R d u
 cases k with
 |none=>exact q
 |some m=>
  have⟨e,s,D,U⟩:=q;have:m≠n:=λN=>y (J i j n (by rw[d,N]) G)
  exact⟨e,s,D,by grind⟩
 grind
theorem zd7.put{P lv L p u}(h:zd7 lv L p u){j ty m v xs}(w:p[j]? = some ⟨ty,m,v,xs,true⟩){t e:Nat}(O:P.underlying t=some (.slice e))
  (M:m=P.cellsOf e) (Q:(P.underlying e).isSome=true) {i x} (R:0<=i) (n:xs[i.toNat]? = some x) (E) :
  ∃q:Nat->V,yzz P ⟨lv,L,E⟩ t v (.int .i64 i)=some (q 0)∧(∀s f o a,zvk P s f=some o->zd6 P s f (q a)=some (q (a+o)))∧(∀b a,zej P ⟨lv,L,E⟩ b (q a)=rd P b x.cells a) ∧
   ∀(b a:Nat) (y),y.yzo=true->(P.info? b).isSome=true->y.cells.length=P.cellsOf b->a+y.cells.length<=x.cells.length->fits x (z0m x.cells a y.cells)=true ->
    ∃L',zgl P ⟨lv,L,E⟩ b (q a) y=some (.any,⟨lv,L',E⟩)∧zd7 lv L' (p.set j ⟨ty,m,v,xs.set i.toNat (ze9 x (z0m x.cells a y.cells)),true⟩) u:=by
 have r:xs≠[]:=λB=>by subst B;simp at n
 rcases h.form w with ⟨rfl,rfl⟩|⟨rfl,N⟩|⟨k,d,D,rfl,A⟩
 simp at n
 grind
 refine⟨λo=>.ap lv k d i.toNat o,?_,λs f o a C=>by simp[zd6,C],λb a=>by simp[zej,y5i,Heap.get,A,n],λb a y K J I G F =>?_⟩
 grind[yzz,Heap.get]
 refine⟨L.set k (some (.arr d ty m (xs.set i.toNat (ze9 x (z0m x.cells a y.cells))) D)),?_,h.accs.setAt w rfl A r (by simp),h.nodup⟩
 grind[zgl,Heap.get,Heap.set]
def zd7.arr{lv L m r}(h:zd7 lv L m r)(b ty q)(xs)(y)(w) :
  zd7 lv (L++[some (.arr b ty q xs y)]) (⟨ty,q,.hs lv L.length b 0 xs.length false,xs,w⟩::m) r:=by
 have⟨⟨s,C,x,M,K⟩,B⟩:=h
 have D:∀(i n:Nat),s[i]? = some (some n)->n<L.length:=λi n hi=>by
  have J:=(Qaa.1 hi).1;exact(x i _ (m[i]'(by omega)) hi (Qab _)).lt
 refine⟨⟨some L.length::s,by simp[C],λi k a e j =>?_,λi G n hi E =>?_,λp I=>⟨?_,λi hi =>?_⟩⟩,B⟩
 cases i with
 |zero=>simp at e j;subst e;subst j;exact⟨b,y,rfl,by simp⟩
 |succ i=>
  have u:=x i k a (by simpa using e) (by simpa using j)
  cases k with
  |none=>exact u
  |some n=>have⟨d,o,A,F⟩:=u;exact⟨d,o,A,by grind⟩
 grind
 grind
 grind
@[simp] def vc_any:V.cells V.any=[V.any]:=rfl
@[simp] def vl_any:V.leaf V.any=false:=rfl
@[simp] def vso_any:V.yzo V.any=false:=rfl
@[simp] def vc_bool (b):V.cells (V.bool b)=[(V.bool b)]:=rfl
@[simp] def vl_bool (b):V.leaf (V.bool b)=true:=rfl
@[simp] def vso_bool (b):V.yzo (V.bool b)=true:=rfl
@[simp] def vc_int (k) (n):V.cells (V.int k n)=[(V.int k n)]:=rfl
@[simp] def vl_int (k) (n):V.leaf (V.int k n)=true:=rfl
@[simp] def vso_int (k) (n):V.yzo (V.int k n)=true:=rfl
@[simp] def vc_str (s):V.cells (V.str s)=[(V.str s)]:=rfl
@[simp] def vl_str (s):V.leaf (V.str s)=true:=rfl
@[simp] def vso_str (s):V.yzo (V.str s)=true:=rfl
@[simp] def vc_nilp:V.cells V.nilp=[V.nilp]:=rfl
@[simp] def vl_nilp:V.leaf V.nilp=true:=rfl
@[simp] def vso_nilp:V.yzo V.nilp=true:=rfl
@[simp] def vc_ptr (l i o):V.cells (V.ptr l i o)=[(V.ptr l i o)]:=rfl
@[simp] def vl_ptr (l i o):V.leaf (V.ptr l i o)=true:=rfl
@[simp] def vso_ptr (l i o):V.yzo (V.ptr l i o)=true:=rfl
@[simp] def vc_ref (cs) (o):V.cells (V.ref cs o)=[(V.ref cs o)]:=rfl
@[simp] def vl_ref (cs) (o):V.leaf (V.ref cs o)=true:=rfl
@[simp] def vso_ref (cs) (o):V.yzo (V.ref cs o)=true:=rfl
@[simp] def vc_ap (l i v x o):V.cells (V.ap l i v x o)=[(V.ap l i v x o)]:=rfl
@[simp] def vl_ap (l i v x o):V.leaf (V.ap l i v x o)=true:=rfl
@[simp] def vso_ap (l i v x o):V.yzo (V.ap l i v x o)=true:=rfl
@[simp] def vc_nils:V.cells V.nils=[V.nils]:=rfl
@[simp] def vl_nils:V.leaf V.nils=true:=rfl
@[simp] def vso_nils:V.yzo V.nils=true:=rfl
@[simp] def vc_sl (z) (xs) (f):V.cells (V.sl z xs f)=[(V.sl z xs f)]:=rfl
@[simp] def vl_sl (z) (xs) (f):V.leaf (V.sl z xs f)=true:=rfl
@[simp] def vso_sl (z) (xs) (f):V.yzo (V.sl z xs f)=true:=rfl
@[simp] def vc_hs (l i v o n) (f):V.cells (V.hs l i v o n f)=[(V.hs l i v o n f)]:=rfl
@[simp] def vl_hs (l i v o n) (f):V.leaf (V.hs l i v o n f)=true:=rfl
@[simp] def vso_hs (l i v o n) (f):V.yzo (V.hs l i v o n f)=true:=rfl
@[simp] def vc_mapn:V.cells V.mapn=[V.mapn]:=rfl
@[simp] def vl_mapn:V.leaf V.mapn=true:=rfl
@[simp] def vso_mapn:V.yzo V.mapn=true:=rfl
@[simp] def vc_map (l i):V.cells (V.map l i)=[(V.map l i)]:=rfl
@[simp] def vl_map (l i):V.leaf (V.map l i)=true:=rfl
@[simp] def vso_map (l i):V.yzo (V.map l i)=true:=rfl
@[simp] def vc_fn (f) (a b):V.cells (V.fn f a b)=[(V.fn f a b)]:=rfl
@[simp] def vl_fn (f) (a b):V.leaf (V.fn f a b)=true:=rfl
@[simp] def vso_fn (f) (a b):V.yzo (V.fn f a b)=true:=rfl
@[simp] def vc_nilf:V.cells V.nilf=[V.nilf]:=rfl
@[simp] def vl_nilf:V.leaf V.nilf=true:=rfl
@[simp] def vso_nilf:V.yzo V.nilf=true:=rfl
@[simp] def vc_iface (t) (v):V.cells (V.iface t v)=[(V.iface t v)]:=rfl
@[simp] def vl_iface (t) (v):V.leaf (V.iface t v)=true:=rfl
@[simp] def z0fy (t) (v):V.yzo (V.iface t v)=true:=rfl
@[simp] def vc_nili:V.cells V.nili=[V.nili]:=rfl
@[simp] def vl_nili:V.leaf V.nili=true:=rfl
@[simp] def vso_nili:V.yzo V.nili=true:=rfl
@[simp] def vc_agg (cs):V.cells (V.agg cs)=cs:=rfl
@[simp] def vl_agg (cs):V.leaf (V.agg cs)=false:=rfl
@[simp] def vso_agg (cs):V.yzo (V.agg cs)=true:=rfl
@[simp] def vc_tup (vs):V.cells (V.tup vs)=[(V.tup vs)]:=rfl
@[simp] def vl_tup (vs):V.leaf (V.tup vs)=false:=rfl
@[simp] def vso_tup (vs):V.yzo (V.tup vs)=false:=rfl
section
variable {P:Program}{H:Heap}
@[simp] def z0fv (t) (cs) (o):zej P H t (.ref cs o)=rd P t cs o:=rfl
@[simp] def z0fz (t l i o):zej P H t (.ptr l i o)=match H.get l i with|some (.cells cs)=>rd P t cs o|_=>none:=rfl
@[simp] def pLoad_ap (t l i v x o):zej P H t (.ap l i v x o)=(y5i H l i v x).bind λp=>rd P t p.2 o:=rfl
@[simp] def pLen_str (t) (s):zt3 P H t (.str s)=match P.underlying t with|some .string=>some (.int .i64 s.length)|_=>none:=rfl
@[simp] def ypj (t):zt3 P H t .nils=match P.underlying t with|some (.slice _)=>some (.int .i64 0)|_=>none:=rfl
@[simp] def z03u (t z) (xs) (b):zt3 P H t (.sl z xs b)=match P.underlying t with|some (.slice _)=>some (.int .i64 xs.length)|_=>none:=rfl
@[simp] def z0fw (t):zt3 P H t .mapn=match P.underlying t with|some (.map _ _)=>some (.int .i64 0)|_=>none:=rfl
@[simp] def pLen_agg (t) (cs):zt3 P H t (.agg cs)=match P.underlying t with|some (.array n _)=>some (.int .i64 n)|_=>none:=rfl
@[simp] def z0bg (t z) (xs) (b) (k) (n):yzz P H t (.sl z xs b) (.int k n)=if 0<=n then match P.underlying t with
   |some (.slice e)=>if z=P.cellsOf e∧(P.underlying e).isSome then (xs[n.toNat]?).map λy=>.ref y.cells 0 else none
   |some (.array len e)=>if n<len∧(P.underlying e).isSome then none else none
   |_=>none else none:=by rfl
@[simp] def z07r (t l i o) (k) (n):yzz P H t (.ptr l i o) (.int k n)=if 0<=n then match P.underlying t with
   |some (.slice e)=>none
   |some (.array len e)=>if n<len∧(P.underlying e).isSome then some (.ptr l i (o+n.toNat * P.cellsOf e))else none
   |_=>none else none:=by rfl
end
section
variable {P:Program}
def zgn(P:Program)(ops:Array Oper)(k:Nat)(σ:St)(Q:z27->St->Prop):Prop :=
 ∀W0 g0 H0 W a g,Base W0 g0 H0->(σ.e0=H0.E∧Step W0 g0 H0 W g σ.H)->yze W a g σ->wpOps P ops (ylf W0 g0 H0 Q) (List.range' k (ops.size-k)) a W
def z070{ops k σ Q}(e:ops.size<=k)(h:Q .normal σ):zgn P ops k σ Q:=λW0 g0 H0 W a g _ b d=>by
 rw[show ops.size-k=0 by omega];exact⟨g,σ,.normal,.normal,b,d,h⟩
theorem z07h{id ops σ Q}(h:zgn P ops 0 σ Q):Sat P (.region id ops false) σ Q:=λW0 g0 H0 W a g e b d=>by
 refine z01g y0q ?_;rw[List.range_eq_range'];have:=h W0 g0 H0 W a g e b d;simpa using this
def y31{ops k σ Q}(n)(b)(d)(cl)(h:y7c P ops ((ops.toList.drop k).take n) b σ=some (d,[],cl))(p:∀c∈cl,c.ok P)(o:zgn P ops (k+n) d Q):zgn P ops k σ Q:=λW0 g0 H0 W a g s q r=>by
 have m:List.range' k (ops.size-k)=List.range' k ((ops.toList.drop k).take n).length++List.range' (k+n) (ops.size-(k+n)):=by
  grind
 rw[m]
 exact y2v (P:=P) _ ((ops.toList.drop k).take n) k b [] σ d cl W a g (λj w=>by
  simp_all) h p r q (λW' u g' i e=>o W0 g0 H0 W' u g' s i e)
theorem z0b8{id ops σ Q}(d:P.follows .mixedOrders=true)(j:Region.lexB .any ops=true)(a)(b)(cl)(h:zqn P ops ops.toList a σ=some (b,[],cl))(e:∀c∈cl,c.ok P)(i:Q .normal b) :
 Sat P (.region id ops true) σ Q:=z0by d j a h e i
theorem z0ax{id ops σ Q}(n)(d:P.follows .mixedOrders=true)(j:Region.lexTailB .any ops n=true)
  (a) (b) (cl) (h:zqn P ops (ops.toList.take n) a σ=some (b,[],cl)) (i:∀c∈cl,c.ok P) (e:zgn P ops n b Q):Sat P (.region id ops true) σ Q :=
 ylo n d j a h i e
inductive VSL (H:Heap) (D:Nat->Nat->Prop):List V->List V->Prop where
 |nil:VSL H D [] []
 |cons {v u:V} {vs us:List V}(h:VS H D v u) (r:VSL H D vs us):VSL H D (v::vs) (u::us)
def VSL.length{H D vs a}(h:VSL H D vs a):vs.length=a.length:=by induction h <;> simp_all
theorem VSL.get{H D vs a}(h:VSL H D vs a):∀(j:Nat) (v u),vs[j]? = some v->a[j]? = some u->VS H D v u:=by
 induction h with
 |nil=>grind
 |cons h r b=>
  grind
def VS.agg'{H D vs a}(h:VSL H D vs a):VS H D (.agg vs) (.agg a):=.agg _ _ h.length h.get
def VS.tup'{H D vs a}(h:VSL H D vs a):VS H D (.tup vs) (.tup a):=.tup _ _ h.length h.get
end
section
variable {P:Program}
inductive Out where
 |ret (r:V)
 |pan (v:V)
def z039(W:World)(g:Gh)(H:Heap):Out->Ending->Prop
 |.ret r,e=>∃c,e = .returned c∧Rel W g H r c
 |.pan v,e=>∃c,e = .panicked [{v:=c,recovered:=false}]∧Rel W g H v c
def zqp(P:Program)(f:Nat)(args:List V)(H:Heap)(b:Out->Heap->Prop):Prop :=
 ∀(W) (g) (a),Good W g H->zmy W g H args a ->
  (callFunc f a).run P W = .ok (.enter f a) W∧Calls P f a W (λe W'=>∃o H' g',b o H'∧Step W g H W' g' H'∧Good W' g' H'∧z039 W' g' H' o e)
theorem zqp.mono{f args H Q Q'}(h:zqp P f args H Q)(i:∀o H',Q o H'->Q' o H'):zqp P f args H Q':=λW g a j k=>by
 have⟨n,m⟩:=h W g a j k;exact⟨n,m.mono λe W' ⟨o,H',g',d,b⟩=>⟨o,H',g',i _ _ d,b⟩⟩
def zqp.le{f e bs H Q}(h:zqp P f bs H Q)(d:yak e bs):zqp P f e H Q:=λW g a m i=>
 h W g a m ⟨i.1.trans d.length,λj v k=>by
  have b:j<e.length:=by rw[d.length];grind
  exact(d.get j _ v (Qab b) k).rel (i.2 j _ (Qab b))⟩
def z0du(P:Program)(fn:Func)(a:Out->Heap->Prop)(e:z27)(σ:St):Prop :=
 match e with
 |.normal| .ret=>∃v r,z2g P fn σ=some v∧σ.d=[]∧VLe v r∧a (.ret r) σ.H
 |.panic v=>σ.d=[]∧a (.pan v) σ.H
 |.exit _=>False
def z05z{f:Nat}{fn c n}(Q:P.funcs[f]? = some fn)(R:fn.body=some c)(C:fn.ntmps=n)(y:∀args w,(callFunc f args).run P w = .ok (.enter f args) w){args lv L E i}
  (h:Sat P c ⟨args++List.replicate (n-args.length) .any,⟨lv,L,E⟩,[],E⟩ (z0du P fn i)):zqp P f args ⟨lv,L,E⟩ i:=by
 intro W g b I B;subst C;refine⟨y b W,calls_of_wp Q R ?_⟩
 have F:yze W {tmps:=b++Array.replicate (fn.ntmps-b.size) undef,defers:=[]} g ⟨args++List.replicate (fn.ntmps-args.length) .any,⟨lv,L,E⟩,[],E⟩:=by
  refine⟨I,by simp[B.1],λj v k =>?_,rfl,by simp⟩;rw[Qaz]at k;split at k;rename_i D;rw[z3j (by rw[B.1];exact D)];exact B.2 j v k;rw[Qbi]at k;split at k;cases k;exact .any _;cases k
 refine wp_mono (h W g ⟨lv,L,E⟩ W _ g ⟨I⟩ ⟨rfl,.refl _ _ _⟩ F).wp λe a W' ⟨J,σ,T,K,G,q,A⟩ =>?_
 have x:∀v r,z2g P fn σ=some v->σ.d=[]->VLe v r->i (.ret r) σ.H->a.defers=[]∧∃c,(results fn a.tmps).run P W' = .ok c W'∧∃o H' g',i o H'∧Step W g ⟨lv,L,E⟩ W' g' H'∧Good W' g' H'∧z039 W' g' H' o (.returned c):=λv r p m u s=>by
  have⟨c,N,M⟩:=zff q p;exact⟨Qao (by rw[q.dlen,m];rfl),c,N,.ret r,σ.H,J,s,G.2,q.good,c,rfl,u.rel M⟩
 cases K with
 |normal=>have⟨v,r,p,m,u,s⟩:=A;exact x v r p m u s
 |ret=>have⟨v,r,p,m,u,s⟩:=A;exact x v r p m u s
 |exit id=>exact A.elim
 |panic v c O=>
  have⟨p,m⟩:=A;exact⟨Qao (by rw[q.dlen,p];rfl),.pan v,σ.H,J,m,G.2,q.good,c,rfl,O⟩
def z06b{ops k σ Q o c f args b}(E:ops[k]? = some o)(A:z0r ops σ o=some true)(p:o.op = .call c)(B:target σ.ev c=some (f,args))(G:zqp P f args σ.H b)
  (C:∀r H',b (.ret r) H'->zgn P ops (k+1) ({σ with H:=H'}.put o.dst r) Q) (D:∀v H',b (.pan v) H'->Q (.panic v) {σ with H:=H'}):zgn P ops k σ Q:=λW0 g0 H0 W a g I m j=>by
 have L:k<ops.size:=by
  grind
 rw[show ops.size-k=(ops.size-(k+1))+1 by omega,List.range'_succ];simp[wpOps,E];rw[z1u j A,Qbq rfl];left;unfold Oper.wp;have⟨d,y,x⟩:=zh5 (P:=P) (ty:=o.type) j.ev B
 have q:(execOp a.eval o).run P W=(callFunc f d).run P W:=by
  rw[<-x W];unfold execOp;rw[p]
 have⟨K,J⟩:=G W g d j.good y;rw[q,K];refine J.mono λe W' ⟨o',H',g',w,p2,u,s⟩ =>?_
 cases o' with
 |ret r=>
  have⟨n,i,h⟩:=s;subst i
  exact C r H' w W0 g0 H0 W' (a.put o.dst n) g' I (by
   have:({σ with H:=H'}.put o.dst r).H=H':=by cases o.dst <;> rfl
   have i:({σ with H:=H'}.put o.dst r).e0=σ.e0:=by cases o.dst <;> rfl
   rw[this,i];exact⟨m.1,m.2.trans p2⟩) (j.next p2 u h o.dst)
 |pan v=>
  have⟨n,i,h⟩:=s;subst i;have F:=j.next p2 u (.any undef) none;exact⟨g',{σ with H:=H'},.panic v,.panic v n h,⟨m.1,m.2.trans p2⟩,F,D v H' w⟩
def z02a{ops k σ Q o x t v}(n:ops[k]? = some o)(i:z0r ops σ o=some true)(q:o.op = .panic x)(j:σ.ev x = .iface t v)(m:Q (.panic (.iface t v)) σ):zgn P ops k σ Q:=λW0 g0 H0 W a g u p d=>by
 have s:k<ops.size:=by
  grind
 rw[show ops.size-k=(ops.size-(k+1))+1 by omega,List.range'_succ];simp[wpOps,n];rw[z1u d i,Qbq rfl];left;have b:=d.ev x;rw[j]at b;generalize r:a.eval x=w at b
 cases b with
 |iface _ _ c h=>
  unfold Oper.wp
  have e:(execOp a.eval o).run P W = .halt (.panic (.iface t c)) W:=by
   simp_all[execOp,Instr.panic]
  rw[e];exact⟨g,σ,.panic (.iface t v),.panic _ _ (.iface _ _ _ h),p,d,m⟩
def Rel.ycl{W g H H'}(r:∀b,Own g H' b->Own g H b)(e:∀l i j ty p xs B,H'.get l i=some (.arr j ty p xs B)->H.get l i=some (.arr j ty p xs B)){v c}(h:Rel W g H v c):Rel W g H' v c:=by
 induction h with
 |any c=>exact .any c
 |bool b=>exact .bool b
 |int k n=>exact .int k n
 |str s=>exact .str s
 |nilp=>exact .nilp
 |ptr l i d y=>exact .ptr l i d y
 |ref cs d b o c C I A F u=>exact .ref cs d b o c (λL w=>C L (r b w)) I A u
 |ap l i j K d a y E J=>exact .ap l i j K d a y (λv ty p xs B x=>E _ _ _ _ _ (e _ _ _ _ _ _ _ x)) λty p xs B x=>J _ _ _ _ (e _ _ _ _ _ _ _ x)
 |nils=>exact .nils
 |slnil p full=>exact .slnil p full
 |sle p full a q G=>exact .sle p full a q G
 |sl p xs full b o q c C R D G hs I A F u=>exact .sl p xs full b o q c (λw=>C (r b w)) R D G hs I A u
 |hs l i j d n full a m q y E J=>exact .hs l i j d n full a m q y (λv ty p xs B x=>E _ _ _ _ _ (e _ _ _ _ _ _ _ x)) λty p xs B x=>J _ _ _ _ (e _ _ _ _ _ _ _ x)
 |mapn=>exact .mapn
 |mapc es b Z clock C T U=>exact .mapc es b Z clock (λw=>C (r b w)) T U
 |map l i y=>exact .map l i y
 |fn f Y cs M N A X r1 r2 Q O=>exact .fn f Y cs M N A X Q O
 |nilf=>exact .nilf
 |iface t v c h u=>exact .iface t v c u
 |nili=>exact .nili
 |agg vs cs w A F u=>exact .agg vs cs w A u
 |tup vs cs w F u=>exact .tup vs cs w u
inductive FV (v r:V):V->V->Prop where
 |keep (x:V):FV v r x x
 |any (x:V):FV v r x .any
 |it:FV v r v r
 |agg (vs us:List V) (hn:vs.length=us.length) (h:∀(j:Nat) (x y:V),vs[j]? = some x->us[j]? = some y->FV v r x y):FV v r (.agg vs) (.agg us)
 |tup (vs us:List V) (hn:vs.length=us.length) (h:∀(j:Nat) (x y:V),vs[j]? = some x->us[j]? = some y->FV v r x y):FV v r (.tup vs) (.tup us)
inductive FVL (v r:V):List V->List V->Prop where
 |nil:FVL v r [] []
 |cons {x y:V} {xs ys:List V}(h:FV v r x y) (t:FVL v r xs ys):FVL v r (x::xs) (y::ys)
def FVL.length{v r vs a}(h:FVL v r vs a):vs.length=a.length:=by induction h <;> simp_all
theorem FVL.get{v r vs a}(h:FVL v r vs a):∀(j:Nat) (x y),vs[j]? = some x->a[j]? = some y->FV v r x y:=by
 induction h with
 |nil=>grind
 |cons h t b=>
  grind
def FV.agg'{v r vs a}(h:FVL v r vs a):FV v r (.agg vs) (.agg a):=.agg _ _ h.length h.get
def FV.tup'{v r vs a}(h:FVL v r vs a):FV v r (.tup vs) (.tup a):=.tup _ _ h.length h.get
def FV.rel{W g H H' v r}(o:∀{x:V}{c:Value},Rel W g H x c->Rel W g H' x c)(i:∀{c:Value},Rel W g H v c->Rel W g H' r c){x y}(h:FV v r x y):∀{c},Rel W g H x c->Rel W g H' y c:=by
 induction h with
 |keep x=>exact λh=>o h
 |any x=>exact λ_=>.any _
 |it=>exact λh=>i h
 |agg vs d n h e=>
  intro c a
  cases a with
  |agg _ cs k p m=>
   refine .agg _ cs (by omega) (λj u b =>?_) (λj u b =>?_)
   grind
   grind
 |tup vs d n h e=>
  intro c a
  cases a with
  |tup _ cs k m=>
   refine .tup _ cs (by omega) (λj u b =>?_)
   grind
def FO(v r:V)(o o':yzm):Prop:=o'=o∨∃cs a,o = .cells cs∧o' = .cells a∧FVL v r cs a
def FO.blk{v r o o'}(h:FO v r o o')(g)(l i):o'.blk g l i=o.blk g l i:=by
 rcases h with rfl|⟨cs,a,rfl,rfl,_⟩ <;> rfl
def FO.arr{v r o a ty b xs d}(h:FO v r o (.arr a ty b xs d)):o = .arr a ty b xs d:=by
 rcases h with h|⟨cs,e,_,h,_⟩
 exact h.symm;cases h
def yii{σ L' t' v r}(hlen:L'.length=σ.H.L.length)(hL:∀(k:Nat) (o':yzm),L'[k]? = some (some o')->∃o,σ.H.L[k]? = some (some o)∧FO v r o o')(T:FVL v r σ.t t')(Z:σ.d=[])
  (hv:∀(W:World) (g:Gh),Good W g σ.H->(∀b,Own g ⟨σ.H.lv,L',σ.H.E⟩ b->Own g σ.H b)->(∀{x:V}{c:Value},Rel W g σ.H x c->Rel W g ⟨σ.H.lv,L',σ.H.E⟩ x c)->∀{c:Value},Rel W g σ.H v c->Rel W g ⟨σ.H.lv,L',σ.H.E⟩ r c):znz σ ⟨t',⟨σ.H.lv,L',σ.H.E⟩,[],σ.e0⟩:=λW0 g0 H0 W a g hB w D=>by
 have e:∀l i o',Heap.get ⟨σ.H.lv,L',σ.H.E⟩ l i=some o'->∃o,σ.H.get l i=some o∧FO v r o o':=λl i o' h=>by
  unfold Heap.get at h ⊢;dsimp only at h;by_cases Y:l=σ.H.lv;rw[Qbq Y]at h ⊢
  grind
  rw[Qbr Y]at h ⊢;exact⟨o',h,.inl rfl⟩
 have m:∀b,Own g ⟨σ.H.lv,L',σ.H.E⟩ b->Own g σ.H b:=λb ⟨l,i,o',K,X⟩=>by
  have⟨o,B,G⟩:=e l i o' K;exact⟨l,i,o,B,by rw[<-G.blk];exact X⟩
 have M:∀l i A ty O xs Q,Heap.get ⟨σ.H.lv,L',σ.H.E⟩ l i=some (.arr A ty O xs Q)->σ.H.get l i=some (.arr A ty O xs Q):=λl i A ty O xs Q h=>by
  have⟨o,B,G⟩:=e l i _ h;rw[G.arr]at B;exact B
 have U:∀{x:V}{c:Value},Rel W g σ.H x c->Rel W g ⟨σ.H.lv,L',σ.H.E⟩ x c:=λh=>Rel.ycl m M h
 have hr:∀{x y:V},FV v r x y->∀{c:Value},Rel W g σ.H x c->Rel W g ⟨σ.H.lv,L',σ.H.E⟩ y c:=λh=>FV.rel U (hv W g D.good m U) h
 have N:Good W g ⟨σ.H.lv,L',σ.H.E⟩:=by
  refine⟨λl i o' h =>?_,λl i o' h =>?_,λl i o1 l' i' o2 B G X =>?_,λl i h =>?_,λl i o' h =>?_,D.good.zqr.ycl m,D.good.base⟩;have⟨o,B,_⟩:=e l i o' h;exact D.good.dom l i o B;have⟨o,B,G⟩:=e l i o' h;rw[G.blk];exact D.good.lt l i o B;have⟨p,C,J⟩:=e l i o1 B;have⟨q,m1,m2⟩:=e l' i' o2 G;rw[J.blk,m2.blk]at X;exact D.good.inj l i p l' i' q C m1 X
  rcases D.good.fresh l i h with q|⟨q1,q2⟩
  exact .inl q
  grind
  have⟨o,B,G⟩:=e l i o' h;have K:=D.good.obj l i o B
  rcases G with rfl|⟨cs,h5,rfl,rfl,hc⟩
  cases o' with
  |cells cs=>
   have⟨c,ty,C,J,I,F⟩:=K
   exact⟨c,ty,C,J,I,λj x n=>U (F j x n)⟩
  |arr A ty O xs Q=>
   have⟨c,C,I,F,h3,k5,k6,k7,k8,k9⟩:=K
   exact⟨c,C,I,F,h3,k5,k6,k7,k8,λj x t v n T=>U (k9 j x t v n T)⟩
  |map es=>
   have⟨en,clock,C,J,I,F,k5⟩:=K;refine⟨en,clock,C,J,I,F,λj p n =>?_⟩
   grind
  |siter s h7=>exact K
  |mit es h6=>
   have⟨en,clock,mb,C,J,I,F⟩:=K;exact⟨en,clock,mb,C,λhn=>J (m _ hn),I,F⟩
  have⟨c,ty,C,J,I,F⟩:=K;have Y:=hc.length
  have get:∀j u,h5[j]? = some u->∃x,cs[j]? = some x:=λj u n=>by
   have:=(Qaa.1 n).1;exact⟨_,Qab (by omega)⟩
  refine⟨c,ty,C,by omega,λj u n =>?_,λj u n =>?_⟩
  grind
  have⟨x,R⟩:=get j u n;exact hr (hc.get j x u R n) (F j x R)
 refine⟨g,⟨w.1,⟨w.2.os,w.2.tape,w.2.output,w.2.size,w.2.block,λb h=>w.2.own b (m b h),w.2.dom,w.2.new,w.2.blk,λl i A ty O xs Q Z h=>w.2.arr l i A ty O xs Q Z (M l i _ _ _ _ _ h),w.2.lv,w.2.base⟩⟩,N,D.size.trans T.length,λj u n =>?_,by rw[D.dlen,Z],λj f vs n=>by simp at n⟩;have h4:=(Qaa.1 n).1
 have R:σ.t[j]? = some (σ.t[j]'(by rw[T.length];exact h4)):=Qab _;exact hr (T.get j _ u R n) (D.tmps j _ R)
inductive FOL (v r:V):List (Nat×yzm)->List (Nat×yzm)->Prop where
 |refl (os:List (Nat×yzm)):FOL v r os os
 |cons {i:Nat} {o o':yzm}{os os':List (Nat×yzm)}(h:FO v r o o') (t:FOL v r os os'):FOL v r ((i,o)::os) ((i,o')::os')
def FOL.map{v r b a}(h:FOL v r b a):a.map (·.1)=b.map (·.1):=by
 induction h with
 |refl b=>rfl
 |cons h t d=>simp[d]
def FOL.mem{v r b a}(h:FOL v r b a):∀d∈a,∃o,(d.1,o)∈b∧FO v r o d.2:=by
 induction h with
 |refl b=>exact λp hp=>⟨p.2,hp,.inl rfl⟩
 |cons h t e=>
  intro p hp
  rcases Qbf.1 hp with rfl|hp
  grind
  grind
def told(L:List (Option yzm))(a:Option Nat)(b:List (Nat×yzm)):List (Option yzm) :=
 (List.range L.length).map λk=>if a=some k then none else match b.find? (λp=>p.1==k)with|some p=>some p.2|none=>(L[k]?).join
theorem zmk(L)(a)(b):(told L a b).length=L.length:=by simp[told]
def zie{L a b k}(d:k<L.length):(told L a b)[k]? = some (if a=some k then none else match b.find? (λp=>p.1==k)with|some p=>some p.2|none=>(L[k]?).join):=by
 simp[told,d]
def zd7.z02j{lv L as os d}(h:zd7 lv L as os){j ty K v xs w}(D:as[j]? = some ⟨ty,K,v,xs,w⟩){t t'}
  (C:FVL v (.sl K xs false) t t') (I:FOL v (.sl K xs false) os d) (E e0):∃L',(zd7 lv L' (as.eraseIdx j) d∧znz ⟨t,⟨lv,L,E⟩,[],e0⟩ ⟨t',⟨lv,L',E⟩,[],e0⟩)∧L'.length=L.length∧∀i,i<L.length->(∀p∈os,p.1≠i)->(∀G n,v ≠ .hs lv i G 0 n false)->L'[i]? = L[i]? := by
 have hA:=h;have⟨⟨R,h1,h2,h3,h4⟩,h5⟩:=h;have k9:=(Qaa.1 D).1;have hk:R[j]? = some (R[j]'(by omega)):=Qab _;generalize R[j]'(by omega)=k at hk;have h8:=h2 j k _ hk D
 have M:∀B∈d,∀t:Nat,R[t]? ≠ some (some B.1):=λB A t=>by
  have⟨o,T,_⟩:=I.mem B A;exact(h4 _ T).2 t
 have k8:(d.map (·.1)).Nodup:=by rw[I.map];exact h5
 have h9:∀B∈d,d.find? (λp=>p.1==B.1)=some B:=λB A=>by
  cases hq:d.find? (λp=>p.1==B.1)with
  |none=>grind
  |some q=>
   have he:=List.find?_some hq;have hx:=List.mem_of_find?_eq_some hq;simp at he;have⟨a,ha⟩:=List.mem_iff_getElem?.1 A;have⟨b,hb⟩:=List.mem_iff_getElem?.1 hx;have kn:(d.map (·.1))[a]? = some B.1:=by simp[ha]
   have km:(d.map (·.1))[b]? = some B.1:=by simp[hb,he]
   grind[List.getElem?_inj]
 have F:∀n:Nat,n<L.length->k≠some n->(∀B∈d,B.1≠n)->(told L k d)[n]? = some (L[n]?).join:=λn hn h6 h7=>by
  rw[zie hn,Qbr h6]
  grind
 refine⟨told L k d,⟨⟨⟨R.eraseIdx j,?_,λt kk a hh ha =>?_,λt t2 n hw ki =>?_,λB A=>⟨?_,λt hw =>?_⟩⟩,k8⟩,?_⟩,zmk _ _ _,λi hi Y hv =>?_⟩
 rotate_right
 rw[F i hi (λe=>by
  subst e;have⟨G,cp,J,Q⟩:=h8
  exact hv _ _ J) (λB A e=>by
  have⟨o,T,_⟩:=I.mem B A
  exact Y _ T e),Qab hi];rfl
 grind
 obtain⟨t2,e1,e2,e3⟩:∃t2:Nat,t2≠j∧R[t2]? = some kk∧as[t2]? = some a:=by
  rw[List.getElem?_eraseIdx]at hh ha;by_cases s:t<j
  grind
  rw[Qbr s]at hh ha;grind
 have Z:=h2 t2 kk a e2 e3
 cases kk with
 |none=>exact Z
 |some n=>
  have s:=Z.lt;have⟨G,cp,J,Q⟩:=Z;refine⟨G,cp,J,?_⟩;rw[F n s (λe=>e1 (h3 t2 j n e2 (by rw[hk,e]))) (λB A e=>M B A t2 (by rw[e2,e])),Q];rfl
 have ke:∀t:Nat,(R.eraseIdx j)[t]? = some (some n)->∃t2:Nat,R[t2]? = some (some n)∧t2=if t<j then t else t+1:=λt C=>by
  rw[List.getElem?_eraseIdx]at C;by_cases s:t<j;rw[Qbq s]at C;grind;rw[Qbr s]at C;grind
 grind
 have⟨o,T,_⟩:=I.mem B A;have s:=(Qaa.1 (h4 _ T).1).1;rw[zie s,Qbr (λe=>M B A j (by rw[hk,e])),h9 B A]
 grind
 refine yii (σ:=⟨t,⟨lv,L,E⟩,[],e0⟩) (v:=v) (r:=.sl K xs false) (zmk _ _ _) (λm o' U =>?_) C rfl (λW g hG kd hf c hc =>?_);have s:m<L.length:=by grind[zmk]
 rw[zie s]at U;injection U with U;split at U;cases U;split at U;rename_i p Y;injection U with U;have N:=List.find?_some Y;simp at N;have⟨o,T,hr⟩:=I.mem p (List.mem_of_find?_eq_some Y)
 grind
 refine⟨o',?_,.inl rfl⟩
 grind
 cases k with
 |none=>
  rcases h8 with ⟨J,Q⟩|⟨J,_⟩
  simp at J Q;subst J;subst Q;exact(VLe.nil _ _).rel (hf hc)
  simp at J;subst J;exact(VLe.full _ _).rel (hf hc)
 |some i=>
  have⟨G,cp,J,Q⟩:=h8;simp at J Q;subst J;have hg:Heap.get ⟨lv,L,E⟩ lv i=some (.arr G ty K xs cp):=by unfold Heap.get;grind
  have hi:=(Qaa.1 Q).1
  have hz:¬Own g ⟨lv,told L (some i) d,E⟩ (g.ab lv i):=λ⟨l,X,o',x,hy⟩=>by
   have hu:∃o,Heap.get ⟨lv,L,E⟩ l X=some o∧o'.blk g l X=o.blk g l X∧¬(l=lv∧X=i):=by
    unfold Heap.get at x ⊢;dsimp only at x ⊢;by_cases hl:l=lv;rw[Qbq hl]at x ⊢
    cases hq:(told L (some i) d)[X]? with
    |none=>grind
    |some q=>
     have s:X<L.length:=by grind[zmk]
     rw[zie s]at hq;injection hq with hq;rw[zie s]at x;simp only[Option.join_some]at x;split at x;cases x;rename_i k7;split at x;rename_i p Y;injection x with x;have N:=List.find?_some Y;simp at N;have⟨o,T,hr⟩:=I.mem p (List.mem_of_find?_eq_some Y);have:=(h4 _ T).1;rw[N]at this;exact⟨o,by rw[this];rfl,by rw[<-x];exact hr.blk g l X,λe=>k7 (by rw[e.2])⟩
     grind
    rw[Qbr hl]at x ⊢
    grind
   have⟨o,w1,w2,w3⟩:=hu;exact w3 (hG.inj _ _ _ _ _ _ w1 hg (by rw[<-w2];exact hy))
  cases hc with
  |hs _ _ _ _ _ _ a m ka hd hv ha=>
   obtain⟨rfl,rfl,⟨kc,kb,kl⟩,kj⟩:=ha _ _ _ _ hg;have⟨O,k1,k2,k3,kf,k4,k5,k6⟩:=y84 hG hg
   have cells:∀(j:Nat) (y:V) (t:Nat) (u:V),xs[j]? = some y->y.cells[t]? = some u->Rel W g ⟨lv,told L (some i) d,E⟩ u (O.getD (j * K+t) undef)∧(O.getD (j * K+t) undef).oneCell'=true∧j * K+t<O.size:=λj y t u D C=>by
    have k9:=(Qaa.1 D).1;have kg:=k6.1 _ _ D;have kh:=(Qaa.1 C).1;refine⟨hf (k6.2.2 _ _ _ _ D C),k6.2.1 _ _ _ _ D C,?_⟩;rw[k3];exact ybd (by omega) (by omega)
   refine .sl K xs false (g.ab lv i) (0 * K) ka (λj t=>O.getD (j * K+t) undef) hz k2 (by omega) (by simp) (λj y D=>k6.1 _ _ D) (λj y t u D C =>?_) (λj y t u D C=>(cells j y t u D C).2.1) (λj y t u D C=>(cells j y t u D C).1);have:=cell_of k1 (cells j y t u D C).2.2;rw[<-this];congr 2;omega
theorem zd7.freeze{lv L e m a}(h:zd7 lv L e m){j ty b v xs w}(o:e[j]? = some ⟨ty,b,v,xs,w⟩){t k}
  (n:FVL v (.sl b xs false) t k) (i:FOL v (.sl b xs false) m a) (E d):∃L',zd7 lv L' (e.eraseIdx j) a∧znz ⟨t,⟨lv,L,E⟩,[],d⟩ ⟨k,⟨lv,L',E⟩,[],d⟩:=by
 have⟨L',p,_⟩:=h.z02j o n i E d;exact⟨L',p⟩
def yuh{W g H u v cs}(h:zmy W g H [u,v] cs):∃x y,cs = #[x,y]∧Rel W g H u x∧Rel W g H v y:=by
 have⟨b,a⟩:=h
 cases cs with|mk l=>
 match l,b with
 |[x,y],_=>exact⟨x,y,rfl,a 0 u rfl,a 1 v rfl⟩
def y9z{T:Type}(f:T->V)(k):∀(m:List (B8×T)) (i),ycu .string (.str k) (m.map λp=>(.str p.1,f p.2)) i =
  some (match m.findIdx? (λp=>k==p.1)with|none=>none|some j=>(m[j]?).map λp=>(i+j,f p.2))
 |[],i=>rfl
 |p::m,i=>by
  simp only[List.map_cons,ycu,yu9]
  cases a:k==p.1 with
  |true=>grind
  |false=>
   rw[y9z f k m (i+1),List.findIdx?_cons,a]
   grind
def z09w{T}(m:List (B8×T))(k):zau m k=match m.findIdx? (λp=>k==p.1)with|none=>none|some j=>(m[j]?).map (·.2):=by
 unfold zau
 induction m with
 |nil=>rfl
 |cons p m a=>
  rw[List.find?_cons,List.findIdx?_cons]
  cases b:k==p.1 with
  |true=>simp
  |false=>
   grind
def z027{T}{f:T->V}{m H}{t b e l i:Nat}{z}(h:P.underlying t=some (.map b e))(n:P.underlying b=some .string)(d:zeroV P e=some z)(q:H.get l i=some (.map (m.map λp=>(.str p.1,f p.2))))(k)(a)(r:f a=z) :
  zwm P H t (.map l i) (.str k) false=some (f ((zau m k).getD a))∧zwm P H t (.map l i) (.str k) true=some (.tup [f ((zau m k).getD a),.bool (zau m k).isSome]):=by
 unfold zwm;simp[h,z06v,q,y2o,n,d,y9z,z09w]
 cases s:m.findIdx? (λp=>k==p.1)with
 |none=>simp[r]
 |some j=>
  have o:j<m.length:=by
   grind[List.findIdx?_eq_some_iff_getElem]
  simp[o]
def z01j{T}{f:T->V}{m lv L E}{t b e i:Nat}(d:P.underlying t=some (.map b e))(h:P.underlying b=some .string)(n:L[i]? = some (some (.map (m.map λp=>(.str p.1,f p.2)))))(k)(x){y}(j:y=f x) :
  ziq P ⟨lv,L,E⟩ t (.map lv i) (.str k) y=some (.any,⟨lv,L.set i (some (.map ((ze4 m k x).map λp=>(.str p.1,f p.2)))),E⟩):=by
 have a:Heap.get ⟨lv,L,E⟩ lv i=some (.map (m.map λp=>(.str p.1,f p.2))):=by unfold Heap.get;grind
 unfold ziq;simp[d,a,y2o,h,y9z,ze4,Heap.set,if_true]
 grind[y5l,List.findIdx?_eq_some_iff_getElem,List.map_set]
@[simp] def z0aj (t l i) (H):zt3 P H t (.map l i)=match P.underlying t with|some (.map _ _)=>(match H.get l i with|some (.map es)=>some (.int .i64 es.length)|_=>none)|_=>none:=rfl
end
def y60{α:Type}(xs:List α)(a b:Int):Option (List α) :=
 if 0<=a∧a<=xs.length∧0<=b∧b<xs.length then
  some (xs.take a.toNat++((xs.drop b.toNat).take (min (xs.length-b.toNat) (xs.length-a.toNat))++xs.drop (a.toNat+min (xs.length-b.toNat) (xs.length-a.toNat))))else none
section
variable {P:Program}
def y7b{t e d:Nat}{H l i b n ty xs p}(j:P.underlying t=some (.slice e))(h:d=P.cellsOf e)(m:(P.underlying e).isSome=true)(k:H.get l i=some (.arr b ty d xs p)){a}(r:0<=a)(q:a.toNat<=n) :
  zkf P H t (.hs l i b 0 n false) (some (.int .i64 a)) none none=some (if a.toNat=0∨a.toNat<n then .hs l i b a.toNat (n-a.toNat) false else .sl d [] false):=by
 have o:zm3 n (some (.int .i64 a)) none none=some (a.toNat,n,none):=by
  grind[zm3,bnd]
 simp only[zkf,j,k];rw[Qbq ⟨trivial,h,m⟩,o];simp[Bool.false_and];split <;> rfl
def zd7.shift{lv L p C}(h:zd7 lv L p C){j ty i v xs}(G:p[j]? = some ⟨ty,i,v,xs,true⟩){t e:Nat}(F:P.underlying t=some (.slice e))
  (D:i=P.cellsOf e) (J:(P.underlying e).isSome=true) (hi:(P.info? e).isSome=true) {a b u} (o:y60 xs a b=some u) (E) :
  ∃(B A:V) (L':List (Option yzm)) (m:Int),zkf P ⟨lv,L,E⟩ t v (some (.int .i64 a)) none none=some B∧zkf P ⟨lv,L,E⟩ t v (some (.int .i64 b)) none none=some A ∧
   y7i P ⟨lv,L,E⟩ t B A=some (.int .i64 m,⟨lv,L',E⟩)∧zd7 lv L' (p.set j ⟨ty,i,v,u,true⟩) C:=by
 unfold y60 at o;split at o;rename_i O;injection o with o;have⟨R,Z,Q,Y⟩:=O;have r:xs≠[]:=λU=>by grind
 rcases h.form G with ⟨rfl,rfl⟩|⟨rfl,T⟩|⟨k,d,M,rfl,K⟩
 exact(r rfl).elim
 grind
 have I:(⟨lv,L,E⟩:Heap).get lv k=some (.arr d ty i xs M):=by simp[Heap.get,K]
 have w:=y7b (n:=xs.length) F D J I R (by omega);have x:=y7b (n:=xs.length) F D J I Q (by omega);rw[Qbq (show b.toNat=0∨b.toNat<xs.length by omega)]at x;by_cases s:a.toNat=0∨a.toNat<xs.length;rw[Qbq s]at w;refine⟨_,_,L.set k (some (.arr d ty i u M)),(min (xs.length-b.toNat) (xs.length-a.toNat):Nat),w,x,?_,h.accs.setAt G rfl K r ?_,h.nodup⟩
 simp_all[y7i,Heap.set]
 rw[<-o];simp;omega;rw[Qbr s]at w;have X:=by omega
 have y:u=xs:=by
  simp_all
 refine⟨_,_,L,0,w,x,?_,?_⟩
 simp_all[y7i]
 rw[y]
 have:p.set j ⟨ty,i,.hs lv k d 0 xs.length false,xs,true⟩=p:=by
  refine List.ext_getElem? λq =>?_
  rw[Qbc];split;rename_i N;subst N
  grind
  rfl
 rw[this];exact h;cases o
end
def z074{W g H H'}(m:∀b,Own g H' b->Own g H b)(w:∀{x:V}{c:Value},Rel W g H x c->Rel W g H' x c){l i o}(k:zgm W g H l i o):zgm W g H' l i o:=by
 cases o with
 |cells cs=>
  have⟨c,ty,e,h,d,a⟩:=k
  exact⟨c,ty,e,h,d,λj x n=>w (a j x n)⟩
 |arr I ty K xs L=>
  have⟨c,e,d,a,r,u,D,C,B,A⟩:=k
  exact⟨c,e,d,a,r,u,D,C,B,λj x t v n E=>w (A j x t v n E)⟩
 |map es=>
  have⟨q,clock,e,h,d,a,u⟩:=k;refine⟨q,clock,e,h,d,a,λj p n =>?_⟩
  grind
 |siter s J=>exact k
 |mit es G=>
  have⟨q,clock,y,e,h,d,a⟩:=k;exact⟨q,clock,y,e,λF=>h (m _ F),d,a⟩
def Heap.y4l(H:Heap)(i:Nat):Heap:=⟨H.lv,H.L.set i none,H.E⟩
def Heap.zf5{H:Heap}{i l k o}(h:(H.y4l i).get l k=some o):H.get l k=some o∧¬(l=H.lv∧k=i):=by
 unfold Heap.get Heap.y4l at h;by_cases b:l=H.lv;rw[Qbq b,Qbc]at h;by_cases a:i=k;subst a
 grind
 rw[Qbr a]at h;exact⟨by simp_all[Heap.get],λe=>a e.2.symm⟩
 simp_all[Heap.get]
def yp6{W g H i o}(e:Good W g H)(hi:H.get H.lv i=some o) :
  Good W g (H.y4l i)∧Step W g H W g (H.y4l i)∧(∀{x c},Rel W g H x c->Rel W g (H.y4l i) x c)∧¬Own g (H.y4l i) (o.blk g H.lv i):=by
 have a:∀b,Own g (H.y4l i) b->Own g H b:=λb ⟨l,k,q,r,m⟩=>⟨l,k,q,(Heap.zf5 r).1,m⟩
 have j:∀l k d ty p xs n,(H.y4l i).get l k=some (.arr d ty p xs n)->H.get l k=some (.arr d ty p xs n):=λl k d ty p xs n h=>(Heap.zf5 h).1
 have s:∀{x:V}{c:Value},Rel W g H x c->Rel W g (H.y4l i) x c:=λh=>Rel.ycl a j h
 refine⟨⟨λl k q h=>e.dom l k q (Heap.zf5 h).1,λl k q h=>e.lt l k q (Heap.zf5 h).1,λl k q w y u h C m=>e.inj l k q w y u (Heap.zf5 h).1 (Heap.zf5 C).1 m,λl k h =>?_,λl k q h=>z074 a s (e.obj l k q (Heap.zf5 h).1),e.zqr.ycl a,e.base⟩,
  ⟨rfl,rfl,rfl,Qbp _,λ_ _ _=>rfl,λb h=>.inl (a b h),λ_ _ h=>h,λ_ _ h=>.inl h,λ_ _ _=>rfl,λl k d ty p xs n F h=>⟨d,xs,n,j _ _ _ _ _ _ _ h,Qbp _,λ_=>⟨rfl,rfl,Qbp _⟩⟩,rfl,rfl⟩,s,λ⟨l,k,q,r,m⟩ =>?_⟩
 rcases e.fresh l k h with q|⟨E,D⟩
 exact .inl q
 grind[Heap.y4l]
 have⟨B,A⟩:=Heap.zf5 r;exact A (e.inj _ _ _ _ _ _ B hi m)
section
variable {W:World}{g:Gh}{H:Heap}{P:Program}
def Rel.z0fg(l i){W' g' H' ty a xs b}(d:g'.dom l i)(e:H'.get l i=some (.arr 0 ty a xs b)):Rel W' g' H' (.ap l i 0 0 0) (.pointer (some ⟨g'.ab l i,0,none⟩)):=by
 refine .ap l i 0 0 0 _ d (λ_ _ _ _ _ _=>Qbo _) λty a xs b _ =>?_
 simp
def z0dx(P:Program)(t:Nat):Bool:=match P.info? t with
 |some i=>match i.desc with
  |.named n _=>n == "strings.Builder"
  |_=>false
 |none=>false
def yg3(P:Program)(H:Heap)(t:Nat):Option (V×Heap):=match zeroV P t,P.info? t with
 |some z,some i=>if z.yzo&&z.cells.length==i.size&&Nat.blt 0 i.size then some (.ap H.lv H.L.length 0 0 0,H.push (.arr 0 t i.size [z] (some 1)))else none
 |_,_=>none
def yuk{W' g' H' l i m ty b z c}(k:g'.cap l i=1)(h:W'.heap[g'.ab l i]? = some (.cells c ty (0,0)))(o:0<b)(p:z.cells.length=b)(e:zyj W' g' H' z.cells c):zgm W' g' H' l i (.arr m ty b [z] (some 1)):=by
 have one:∀{j:Nat}{x:V},[z][j]? = some x->j=0∧x=z:=λ{j x} a=>by
  cases j with
  |zero=>grind
  |succ j=>simp at a
 refine⟨c,h,o,by rw[e.1,p,k,Nat.one_mul],by rw[k];decide,by rw[k];simp,λn q=>by grind,λj x a =>?_,λj x t v a d =>?_,λj x t v a d =>?_⟩
 grind
 obtain⟨rfl,rfl⟩:=one a;rw[Nat.zero_mul,Nat.zero_add];exact e.2.1 t v d;obtain⟨rfl,rfl⟩:=one a;rw[Nat.zero_mul,Nat.zero_add];exact e.2.2 t v d
theorem yt8(r:Good W g H){t v H'}(h:yg3 P H t=some (v,H')):za2 P W g H (do pure (.value (<-Instr.alloc t true (.tuple #[])))) v H':=by
 unfold yg3 at h;split at h;rename_i z i n hi;split at h;rename_i m;simp[Nat.blt_eq]at m;have⟨⟨y,x⟩,w⟩:=m;injection h with h;cases h;have⟨a,d,b⟩:=zu3 (W:=W) (g:=g) (H:=H) n;have p:=zh2 y b
 have⟨u,s⟩:=zj5 r (O:=.cells a.cells t) (o:=.arr 0 t i.size [z] (some 1)) 1 (λW' g' H' q k A e=>by
  refine yuk (c:=a.cells) (by rw[k];simp[Gh.add]) ?_ w x (p.mono e);rw[q,k];simp only[Gh.add,if_true]
  exact z4l _ _)
 refine⟨.pointer (some ⟨W.heap.size,0,none⟩),_,_,.inl (by simp[Instr.alloc,d,newVar,newRow]),u,s,?_⟩;have j:(H.push (.arr 0 t i.size [z] (some 1))).get H.lv H.L.length=some (.arr 0 t i.size [z] (some 1)):=by rw[Heap.zjv,Qbq ⟨rfl,rfl⟩]
 have:=Rel.z0fg (W':=W.alloc (.cells a.cells t)) (g':=g.add H.lv H.L.length W.heap.size 1) H.lv H.L.length (.inr ⟨rfl,rfl⟩) j;simpa[Gh.add]using this;cases h;cases h
def apAt(H:Heap):V->Option (Nat×Nat×Nat×Nat)
 |.ap l i h b a=>match H.get l i with
  |some (.arr d ty e xs j)=>match Nat.beq d h&&Nat.blt (Nat.add (Nat.mul b e) a) (Nat.mul xs.length e)with
   |true=>some (ty,e,xs.length,Nat.add (Nat.mul b e) a)
   |false=>none
  |_=>none
 |_=>none
def y2u(y:Good W g H){x c ty d n o}(h:apAt H x=some (ty,d,n,o))(u:Rel W g H x c):∃b q cells,c = .pointer (some ⟨b,o,none⟩)∧W.heap[b]? = some (.cells cells ty (0,0))∧cells.size=q * d∧n<=q∧0<d∧o<n * d:=by
 unfold apAt at h;split at h;rename_i l i G M K;split at h;rename_i k I J xs X e;split at h;rename_i j;simp only[Qag]at j;have A:=Qaj j.1;subst A;injection h with h;injection h with F h;injection h with E h;injection h with D C;subst F;subst E;subst D;subst C
 cases u with
 |ap _ _ _ _ _ a U T w=>
  obtain rfl:=w _ _ _ _ e;have⟨B,s,r,p,L,m,R,Q,O,N⟩:=y.obj _ _ _ e;exact⟨_,g.cap l i,B,rfl,s,p,m,r,by simp_all⟩
 cases h;cases h;cases h
def z00m:V->V->Bool
 |.ap l i v x o,.ap d e b a o'=>Nat.beq l d&&Nat.beq i e&&Nat.beq v b&&Nat.beq x a&&Nat.beq o o'
 |_,_=>false
def z069{x y}(h:z00m x y=true):x=y:=by
 unfold z00m at h;split at h
 simp_all
 cases h
def z0a3(P:Program)(H:Heap)(op:BinOp)(t:Nat)(x y:V):Option V :=
 match z00m x y,apAt H x,P.underlying t with
 |true,some _,some (.pointer e)=>match (P.info? e).isSome,op with
  |true,.eql=>some (.bool true)
  |true,.neq=>some (.bool false)
  |_,_=>none
 |_,_,_=>none
def ye5{tp te j}(a)(e:P.underlying tp=some (.pointer te))(b:P.info? te=some j) :
  (binOp .eql tp (.pointer (some a)) (.pointer (some a))).run P W = .ok (.bool true) W:=by
 have h:∀d:Nat,(Op.equalIn (d+1) tp (.pointer (some a)) (.pointer (some a))).run P W = .ok true W:=λd=>by
  simp[Op.equalIn,run_underlying e,sizeOf,typeInfo,b,run_sameAddr_same]
 simp_all[binOp,Op.equal,Op.maxDepth]
theorem z00k(m:Good W g H){op t x y v a b}(E D)(h:z0a3 P H op t x y=some v)(w:Rel W g H x a)(u:Rel W g H y b) :
  za2 P W g H (do pure (.value (<-(do eqGuard op t E D a b;binOp op t a b)))) v H:=by
 unfold z0a3 at h;split at h;rename_i p e K d J;obtain rfl:=z069 K;have⟨ty,R,n,o⟩:=p;obtain⟨blk,q,cells,rfl,k1,k2,k3,k4,k5⟩:=y2u m d w
 have G:b = .pointer (some ⟨blk,o,none⟩):=by
  obtain⟨C,T,r,rfl,m1,Z,Y,X,U⟩:=y2u m d u;unfold apAt at d;split at d;rename_i l i s O N;split at d;rename_i k L M xs cp F;split at d;rename_i B;simp only[Qag]at B;obtain rfl:k=s:=Qaj B.1
  cases w with
  |ap _ _ _ _ _ _ _ _ I=>
   have e1:=I _ _ _ _ F
   cases u with
   |ap _ _ _ _ _ _ _ _ Q=>
    grind
  cases d;cases d;cases d
 subst G;split at h;rename_i hi;have⟨j,A⟩:=Option.isSome_iff_exists.1 hi;cases h;exact⟨_,W,g,.inl (by simp[eqGuard,ye5 _ J A]),.refl _ _ _,m,.bool _⟩;rename_i hi;have⟨j,A⟩:=Option.isSome_iff_exists.1 hi;cases h;exact⟨_,W,g,.inl (by simp_all[eqGuard,Lib.run_neq_ptr_same]),.refl _ _ _,m,.bool _⟩;cases h;cases h
def z09o(H:Heap):V->Bool
 |.ap l i _ _ _=>match H.get l i with
  |some (.arr _ _ _ _ (some 1))=>true
  |_=>false
 |_=>false
def z087(P:Program)(H:Heap)(s d:Nat)(x:V):Option V :=
 match P.underlying s,P.underlying d,apAt H x with
 |some (.pointer t),some .unsafePointer,some _=>match P.info? t with
  |some j=>match Nat.blt 0 j.size with
   |true=>some x
   |false=>none
  |none=>none
 |some .unsafePointer,some (.pointer u),some (ty,a,n,o)=>match P.info? u with
  |some _=>match Nat.beq (P.cellsOf ty) a&&Nat.beq n 1&&z09o H x&&liesAt P P.depth ty 1 o u 1 with
   |true=>some x
   |false=>none
  |none=>none
 |_,_,_=>none
theorem z004(y:Good W g H){s d x v c}(h:z087 P H s d x=some v)(w:Rel W g H x c):za2 P W g H (do pure (.value (<-convert s d c))) v H:=by
 unfold z087 at h;split at h;rename_i t p D G b;have⟨ty,L,n,o⟩:=p;obtain⟨blk,q,cells,rfl,B,Q,O,N,M⟩:=y2u y b w;split at h;rename_i j E;split at h;rename_i C;rw[Nat.blt_eq]at C;cases h;have J:o<cells.size:=by rw[Q];exact Qbd M (Qau _ O)
 exact⟨_,W,g,.inl (by simp[Lib.run_to_unsafe W ⟨blk,o,none⟩ D G E (by omega) (show W.shape? blk=some (ty,cells.size) by simp[World.shape?,B]) J]),.refl _ _ _,y,w⟩;cases h;cases h;rename_i u ty L n o D G b;obtain⟨blk,q,cells,rfl,B,Q,O,N,M⟩:=y2u y b w;split at h;rename_i j E;split at h;rename_i C;simp only[Qag]at C;have⟨⟨⟨U,z2⟩,m⟩,T⟩:=C
 have Z:=Qaj U;cases h
 have k:cells.size=L:=by
  unfold z09o at m;split at m;rename_i l i I h5 h3;split at m;rename_i A h1 h2 xs F
  cases w with
  |ap _ _ _ _ _ a _ _ Y=>
   simp[apAt,F]at b;split at b;rename_i R;simp only[Qag]at R;obtain rfl:A=I:=Qaj R.1;injection b with b;injection b with a1 b;injection b with a2 b;injection b with a3 a4;have:=Y _ _ _ _ F;injection this with K h6;have⟨cc,r,m2,m3,h4,m4,m5,_⟩:=y.obj _ _ _ F;rw[<-K,B]at r;injection r with r;injection r with r _ _
   grind
   cases b
  cases m;cases m
 have X:cells.size / P.cellsOf ty=1:=by rw[k,Z];exact Nat.div_self N
 exact⟨_,W,g,.inl (by simp[Lib.run_from_unsafe W (e:=ty) (cells:=cells.size) ⟨blk,o,none⟩ D G E (by simp[World.shape?,B]) (by rw[X];exact T)]),.refl _ _ _,y,w⟩;cases h;cases h;cases h
def y6g(H:Heap)(x:V):Option V:=match x with
 |.nils=>some .nilp
 |.hs l i a d n full=>match H.get l i with
  |some (.arr b _ _ _ _)=>match Nat.beq b a&&Nat.blt 0 n with
   |true=>some (.ap l i a d 0)
   |false=>none
  |_=>none
 |_=>none
theorem ye1(p:Good W g H){x v c ts ty}(h:y6g H x=some v)(k:Rel W g H x c):za2 P W g H (do pure (.value (<-Builtin.unsafeSliceData_ ts ty #[c]))) v H:=by
 unfold y6g at h;split at h;cases h
 cases k with
 |nils=>exact⟨_,W,g,.inl (by simp[Lib.run_unsafeSliceData_nil]),.refl _ _ _,p,.nilp⟩
 rename_i l i d e n full;split at h;rename_i b A D xs L r;split at h;rename_i o;simp only[Qag]at o;obtain rfl:b=d:=Qaj o.1;have E:0<n:=by simp_all
 cases h
 cases k with
 |hs _ _ _ _ _ _ a m j s q u=>
  obtain⟨rfl,rfl,⟨K,J,I⟩,G⟩:=u _ _ _ _ r;refine⟨_,W,g,.inl (by rw[Qbt,Lib.run_unsafeSliceData_row W ts ty _ _ j (by omega)];rfl),.refl _ _ _,p,?_⟩;refine .ap l i b e 0 _ s q λy B w C F =>?_
  grind
 cases h;cases h;cases h
def zn5:List V->Option B8
 |[]=>some []
 |v::r=>match v,zn5 r with
  |.int .u8 (.ofNat m),some s=>match Nat.ble m 255 with
   |true=>some (m.toUInt8::s)
   |false=>none
  |_,_=>none
def zr6:∀{vs s},zn5 vs=some s->s.length=vs.length∧∀(j:Nat) (x),s[j]? = some x->vs[j]? = some (.int .u8 x.toNat)
 |[],s,h=>by simp[zn5,Qbn]at h;grind
 |v::r,s,h=>by
  simp[zn5]at h;split at h;rename_i m i e;split at h;rename_i b;cases h;have⟨d,k⟩:=zr6 e;refine⟨by simp[d],λj x a =>?_⟩
  cases j with
  |zero=>
   simp only[Qbv,Qbn]at a ⊢;subst a;have b:=Nat.le_of_ble_eq_true b
   have:(m.toUInt8).toNat=m:=by
    simp[UInt8.toNat_ofNat'];omega
   rw[this];rfl
  |succ j=>grind
  cases h;cases h
def z00j(P:Program)(H:Heap)(h:Nat)(p n:V):Option (V×Heap) :=
 match p,n with
 |.nilp,.int .i64 (.ofNat 0)=>some (.str [],H)
 |.ap l i b 0 0,.int .i64 (.ofNat m)=>match H.get l i,P.underlying h with
  |some (.arr a ty d xs j),some (.pointer e)=>match Nat.beq a b&&Nat.beq d 1&&Nat.beq l H.lv&&Nat.beq e ty&&Nat.beq (P.cellsOf ty) 1&&Nat.blt 0 m&&Nat.ble m xs.length&&Nat.ble m zi7 with
   |true=>match zn5 (xs.take m)with
    |some s=>some (.str s,H.y4l i)
    |none=>none
   |false=>none
  |_,_=>none
 |_,_=>none
theorem yx2(w:Good W g H){L N ty:Nat}{p n v H' cp cn}(h:z00j P H L p n=some (v,H'))(hp:Rel W g H p cp)(hn:Rel W g H n cn) :
  za2 P W g H (do pure (.value (<-Builtin.unsafeString_ #[L,N] ty #[cp,cn]))) v H':=by
 unfold z00j at h;split at h;injection h with h;cases h;cases hp;cases hn;exact⟨_,W,g,.inl (by rw[Qbt,show Int.ofNat 0=(0:Int)from rfl,Lib.run_unsafeString_none W L N ty none];rfl),.refl _ _ _,w,.str []⟩;rename_i l i T m;split at h;rename_i I U sz xs h6 e C X;split at h;rename_i hc;simp only[Qag]at hc;have⟨⟨⟨⟨⟨⟨⟨c1,c2⟩,c3⟩,c4⟩,R⟩,c6⟩,c7⟩,Q⟩:=hc
 obtain rfl:I=T:=Qaj c1;obtain rfl:sz=1:=Qaj c2;obtain rfl:l=H.lv:=Qaj c3;obtain rfl:e=U:=Qaj c4;have R:=Qaj R;rw[Nat.blt_eq]at c6;have c7:=Nat.le_of_ble_eq_true c7;have Q:=Nat.le_of_ble_eq_true Q;unfold zi7 at Q;split at h;rename_i s hs;injection h with h;cases h;have⟨b1,b2⟩:=zr6 hs
 have E:s.length=m:=by grind
 cases hn
 cases hp with
 |ap _ _ _ _ _ a hd hv ha=>
  obtain rfl:=ha _ _ _ _ C;have⟨O,k1,k2,k3,h4,k4,k5,k6,k7,k8⟩:=w.obj _ _ _ C;have h5:=w.lt _ _ _ C
  have y:=Lib.run_unsafeString_row (P:=P) W L N ty e X R (g.ab H.lv i) O.size (by simp[World.shape?,k1]) s (by grind) (by rw[E,k3];omega) (by omega) (λj x hj=>by
   have F:=b2 j x hj;have h2:j<m:=by grind
   rw[Qaw,Qbq h2]at F;have d:=k8 j _ 0 _ F rfl;have K:(⟨g.ab H.lv i,0,none⟩:Addr).add j=⟨g.ab H.lv i,j,none⟩:=by unfold Addr.add;split <;> simp_all
   have h3:j<O.size:=by rw[k3];omega
   rw[K,cell_of k1 h3];rw[Nat.mul_one,Nat.add_zero]at d;generalize O.getD j undef=q at d
   cases d;rfl)
  rw[E]at y;have⟨M,D,g3,g4⟩:=yp6 w C
  have G:∀k,k≠g.ab H.lv i->(W.freeze ⟨g.ab H.lv i,0,none⟩ m).heap[k]? = W.heap[k]? := λk hk=>by
   unfold World.freeze;split;rfl;simp[Qbx]
   grind
  have r:(W.freeze ⟨g.ab H.lv i,0,none⟩ m).heap.size=W.heap.size:=by unfold World.freeze;split <;> simp
  have A:(W.freeze ⟨g.ab H.lv i,0,none⟩ m).os=W.os∧(W.freeze ⟨g.ab H.lv i,0,none⟩ m).tape=W.tape∧(W.freeze ⟨g.ab H.lv i,0,none⟩ m).output=W.output:=by unfold World.freeze;grind
  have Y:Own g H (g.ab H.lv i):=⟨_,_,_,C,rfl⟩
  have u:Step W g H (W.freeze ⟨g.ab H.lv i,0,none⟩ m) g (H.y4l i) :=
   ⟨A.1,A.2.1,A.2.2,Nat.le_of_eq r.symm,λb hb h1=>G b (λe=>h1 (by rw[e];exact Y)),D.own,D.dom,D.new,D.blk,D.arr,D.lv,rfl⟩
  have J:∀l k o,(H.y4l i).get l k=some o->o.blk g l k≠g.ab H.lv i:=λl k o B e=>by
   have⟨q1,q2⟩:=Heap.zf5 B;exact q2 (w.inj _ _ _ _ _ _ q1 C e)
  refine⟨.string ⟨s.toArray⟩,_,g,.inl (by rw[Qbt,show Int.ofNat m=((m:Nat):Int)from rfl,y];rfl),u,⟨M.dom,λl k o B=>by rw[r];exact M.lt l k o B,M.inj,M.fresh,λl k o B =>?_,w.zqr.step u,Qbe w.base u.size⟩,.str s⟩;have Z:=w.obj l k o (Heap.zf5 B).1;exact Z.mono u (G _ (J l k o B)) rfl rfl rfl
 cases h;cases h;cases h;cases h
def y72(P:Program)(H:Heap)(t:Nat)(n c:V):Option (V×Heap) :=
 match n,c with
 |.int _ (.ofNat n),.int _ (.ofNat c)=>match P.underlying t with
  |some (.slice e)=>match P.info? e,zeroV P e with
   |some i,some z=>match z.yzo&&Nat.beq z.cells.length i.size&&Nat.blt 0 i.size&&Nat.ble n c&&Nat.ble c 1000000&&Nat.ble i.bytes 100000 with
    |true=>some (.hs H.lv H.L.length 0 0 n false,H.push (.arr 0 e i.size (List.replicate n z) none))
    |false=>none
   |_,_=>none
  |_=>none
 |_,_=>none
theorem ydv(hG:Good W g H){t n c v H' J K}(h:y72 P H t n c=some (v,H'))(Z:Rel W g H n J)(E:Rel W g H c K):za2 P W g H (do pure (.value (<-Instr.makeSlice t J K))) v H':=by
 unfold y72 at h;split at h
 ·rename_i X n U c;split at h
  ·rename_i e Y;split at h
   ·rename_i i z hi F;split at h
    ·rename_i I;simp only[Qag]at I;have⟨⟨⟨⟨⟨c1,r⟩,M⟩,y⟩,w⟩,s⟩:=I;have r:=Qaj r;rw[Nat.blt_eq]at M;have y:=Nat.le_of_ble_eq_true y;have w:=Nat.le_of_ble_eq_true w;have s:=Nat.le_of_ble_eq_true s;injection h with h;cases h;cases Z;cases E
     obtain⟨a,B,A⟩:∃a,i.zero=some a∧Rel W g H z a:=by
      simp[zeroV,hi,Qaf]at F;obtain⟨a,T,rfl⟩:=F;exact⟨a,T,zqw a⟩
     have⟨R,Q,N⟩:=zh2 c1 A;have hb:=Nat.mul_le_mul s w;have k:=run_make (P:=P) W t e i a Y hi B X U (Int.ofNat n) (Int.ofNat c) (Int.natCast_nonneg n) (by grind) (by grind) (by grind);simp[Int.ofNat_eq_natCast]at k
     have⟨h1,h2⟩:=zj5 hG (O:=.cells (madeCells a.cells (c * i.size)) e) (o:=.arr 0 e i.size (List.replicate n z) none) c (λW' g' H' hW G hH D=>by
      have m:g'.cap H.lv H.L.length=c:=by rw[G];simp[Gh.add]
      refine⟨madeCells a.cells (c * i.size),?_,M,by rw[m,size_madeCells],by rw[m];unfold maxLen;omega,by grind,by simp,λj x p =>?_,λj x q u p b =>?_,λj x q u p b =>?_⟩;rw[hW,G];simp only[Gh.add,if_true];exact z4l _ _
      all_goals
       rw[Qbi]at p;split at p;rename_i h6;cases p
       first
       |exact r
       |(have C:q<i.size:=by rw[<-r];exact(Qaa.1 b).1
         rw[y5b a.cells c j q i.size (by rw[R,r]) C (by omega)]
         first|exact Q q u b|exact(N q u b).mono D)
       cases p)
     refine⟨.slice (some ⟨W.heap.size,0,none⟩) n c,_,_,.inl (by rw[Qbt,show Int.ofNat n=((n:Nat):Int)from rfl,show Int.ofNat c=((c:Nat):Int)from rfl,k];rfl),h1,h2,?_⟩;refine .hs H.lv H.L.length 0 0 n false _ n c (.inr ⟨rfl,rfl⟩) (λ_ _ _ _ _ _=>Qbo _) λh4 h5 h3 h7 d =>?_
     rw[Heap.zjv,Qbq ⟨rfl,rfl⟩]at d;injection d with d;injection d with _ _ _ e4 _;refine⟨by simp[Gh.add],rfl,⟨y,by simp[Gh.add],λhh=>by cases hh⟩,by rw[<-e4];simp⟩
    cases h
   cases h
  cases h
 cases h
def yi3(b:Good W g H){t n c v d e}(h:zln P t n c=some v)(i:Rel W g H n d)(a:Rel W g H c e):za2 P W g H (do pure (.value (<-Instr.makeSlice t d e))) v H :=
 (yxj b h i a).op.turns b
def isC:Operand->Bool
 |.const _=>true
 |_=>false
def yc2(P:Program)(op:BinOp)(t:Nat)(b a:Operand)(x y:V):Option V:=match x,y,isC b||isC a,P.underlying t with
 |.nili,.nili,true,some (.interface _)=>match op with
  |.eql=>some (.bool true)
  |.neq=>some (.bool false)
  |_=>none
 |_,_,_,_=>none
theorem yub(m:Good W g H){op t j i x y v a b}(h:yc2 P op t j i x y=some v)(o:Rel W g H x a)(n:Rel W g H y b) :
  za2 P W g H (do pure (.value (<-(do eqGuard op t j i a b;binOp op t a b)))) v H:=by
 unfold yc2 at h;split at h;rename_i ms r p;cases o;cases n
 have k:(eqGuard op t j i .nilIface .nilIface).run P W = .ok () W:=by
  cases j <;> cases i <;> first|(simp[isC]at r;done)|(cases op <;> simp[eqGuard])
 have q:∀d:Nat,(Op.equalIn (d+1) t .nilIface .nilIface).run P W = .ok true W:=λd=>by
  simp[Op.equalIn,yz3 p]
 have e:(Op.equal t .nilIface .nilIface).run P W = .ok true W:=q 9999;split at h;cases h;exact⟨_,W,g,.inl (by simp[k,binOp_eql (a:=.nilIface) rfl,e]),.refl _ _ _,m,.bool _⟩;cases h;exact⟨_,W,g,.inl (by simp[k,binOp_neq (a:=.nilIface) rfl,e]),.refl _ _ _,m,.bool _⟩;cases h;cases h
def hEq2(P:Program)(H:Heap)(op:BinOp)(t:Nat)(b a:Operand)(x y:V):Option V:=match yc2 P op t b a x y with
 |some v=>some v
 |none=>z0a3 P H op t x y
theorem z06m(k:Good W g H){op t e d x y v a b}(h:hEq2 P H op t e d x y=some v)(j:Rel W g H x a)(i:Rel W g H y b) :
  za2 P W g H (do pure (.value (<-(do eqGuard op t e d a b;binOp op t a b)))) v H:=by
 grind[hEq2,yub,z00k]
def hStr(P:Program)(s d:Nat)(x:V):Option V:=match P.underlying s,P.underlying d with
 |some (.slice e),some .string=>match P.underlying e with
  |some (.int .u8)=>match x with
   |.nils=>some (.str [])
   |.sl 1 ws _=>(zn5 ws).map .str
   |_=>none
  |_=>none
 |_,_=>none
def y7e{s d e:Nat}(a)(c)(b:P.underlying s=some (.slice e))(h:P.underlying e=some (.int .u8))(i:P.underlying d=some .string):(convert s d (.slice a 0 c)).run P W = .ok (.string ⟨#[]⟩) W:=by
 rw[run_convert_bytes_string W s d e _ 0 c b h i];cases a <;> simp[Conv.bytesToString,loadCells]
 all_goals rfl
theorem ykj(r:Good W g H){s d x v c}(h:hStr P s d x=some v)(u:Rel W g H x c):za2 P W g H (do pure (.value (<-convert s d c))) v H:=by
 unfold hStr at h;split at h;rename_i e m p;split at h;rename_i n;split at h;cases h;cases u;exact⟨_,W,g,.inl (by simp[y7e none 0 m n p]),.refl _ _ _,r,.str []⟩;rename_i ws O;rw[Qaf]at h;obtain⟨l,C,rfl⟩:=h;have⟨b1,b2⟩:=zr6 C;have nil:ws=[]->l=[]:=λe=>Qao (by rw[b1,e];rfl)
 cases u with
 |slnil=>
  obtain rfl:=nil rfl
  exact⟨_,W,g,.inl (by simp[y7e none 0 m n p]),.refl _ _ _,r,.str []⟩
 |sle _ _ a k E=>
  obtain rfl:=nil rfl
  exact⟨_,W,g,.inl (by simp[y7e (some a) k m n p]),.refl _ _ _,r,.str []⟩
 |sl _ _ _ b o k I M K A E J F N B=>
  have i:=run_convert_bytes_back (P:=P) W s d e ⟨b,o,none⟩ k l m n p λj D=>by
   have y:=b2 j _ (Qab D);have G:=F j _ 0 (.int .u8 l[j].toNat) y rfl;have w:=B j _ 0 (.int .u8 l[j].toNat) y rfl;generalize L:I j 0=q at G w;cases w
   grind[Addr.add]
  rw[b1]at i;exact⟨_,W,g,.inl (by simp[i]),.refl _ _ _,r,.str l⟩
 cases h;cases h;cases h
def z00c(P:Program)(H:Heap)(s d:Nat)(x:V):Option V:=match z087 P H s d x with
 |some v=>some v
 |none=>hStr P s d x
theorem yuq(b:Good W g H){s d x v c}(h:z00c P H s d x=some v)(a:Rel W g H x c):za2 P W g H (do pure (.value (<-convert s d c))) v H:=by
 grind[z00c,z004,ykj]
def zu0(P:Program)(H:Heap)(ρ:Operand->V)(op:Op):Option (V×Heap):=match op with
 |.alloc t=>match z0dx P t with
  |true=>yg3 P H t
  |false=>none
 |.makeSlice t n c=>y72 P H t (ρ n) (ρ c)
 |.convert s d x=>(z00c P H s d (ρ x)).map λv=>(v,H)
 |.binOp op t x y _=>(hEq2 P H op t x y (ρ x) (ρ y)).map λv=>(v,H)
 |.call c=>match c.callee with
  |.builtin .unsafeSliceData=>match c.args.toList with
   |[x]=>(y6g H (ρ x)).map λv=>(v,H)
   |_=>none
  |.builtin .unsafeString=>match c.args.toList,c.argTypes.toList with
   |[p,n],[a,_]=>z00j P H a (ρ p) (ρ n)
   |_,_=>none
  |_=>none
 |_=>none
def zx2{ρ r o v H'}(m:Good W g H)(k:∀x,Rel W g H (ρ x) (r x))(h:zu0 P H ρ o.op=some (v,H')):za2 P W g H (execOp r o) v H':=by
 have pure':∀{q:Option V},(q.map λv=>(v,H))=some (v,H')->q=some v∧H'=H:=λ{q} h=>by
  grind[Qaf]
 unfold zu0 at h;split at h
 grind[execOp,yt8]
 grind[execOp,ydv]
 rename_i s d x b;obtain⟨h,rfl⟩:=pure' h;grind[execOp,yuq];rename_i op t x y _ b;obtain⟨h,rfl⟩:=pure' h;grind[execOp,z06m];rename_i c b;unfold execOp;rw[b];have⟨callee,args,argTypes⟩:=c;simp at h;split at h;split at h;rename_i x a;obtain⟨h,rfl⟩:=pure' h;obtain rfl:=z1o a
 grind[ye1,resolve,invoke,builtin]
 cases h;split at h;rename_i p n i j a e;obtain rfl:=z1o a;obtain rfl:=z1o e
 grind[yx2,resolve,invoke,builtin]
 cases h;cases h;cases h
end
section
variable {W:World}{g:Gh}{H:Heap}{P:Program}
def ygs:Heap:=⟨0,[],λ_ _=>none⟩
def yvo{b x a}(h:zqe ygs b x=some a)(H):zqe H b x=some a:=by
 have d:∀l i,ygs.get l i=none:=λl i=>by unfold Heap.get ygs;split <;> simp
 cases x <;> simp_all[zqe,zeo]
def y1j(P:Program)(t u:Nat)(s x:V):Option V :=
 match s with
 |.sl b xs true=>match P.underlying t,P.underlying u with
  |some (.slice e),some d=>match P.info? e with
   |some i=>match i.zero,zqe ygs i.size x with
    |some z,some a=>match y0t d&&decide (0<i.size)&&decide (i.bytes<=524288)&&z.cells.size==i.size&&Nat.beq b i.size&&Nat.ble (xs.length+a.length) zi7 with
     |true=>some (.sl b (xs++a) false)
     |false=>none
    |_,_=>none
   |none=>none
  |_,_=>none
 |_=>none
def z001{i xs c}(h:Rel W g H (.sl i xs true) c):Rel W g H (.sl i xs false) c:=by
 cases h with
 |slnil=>exact .slnil _ _
 |sle _ _ a d n=>exact .sle _ _ a d (λh=>by cases h)
 |sl _ _ _ b o d c q j e n k p r m=>exact .sl _ _ _ b o d c q j e (λh=>by cases h) k p r m
def ylc(F:Good W g H){t u ty:TypeId}{s x v:V}{cs cx:Value}(h:y1j P t u s x=some v)(M:Rel W g H s cs)(hx:Rel W g H x cx) :
  za2 P W g H (do pure (.value (<-Builtin.append_ #[t,u] ty #[cs,cx]))) v H:=by
 unfold y1j at h;split at h
 case h_2=>cases h
 rename_i sz xs;split at h
 case h_2=>cases h
 rename_i e du ht I;split at h
 case h_2=>cases h
 rename_i i hi;split at h
 case h_2=>cases h
 rename_i z ys hz T;split at h
 case h_2=>cases h
 rename_i hc;cases h;simp only[Qag,Qar,Qbg]at hc;have⟨⟨⟨⟨⟨c1,Q⟩,c3⟩,c4⟩,O⟩,c6⟩:=hc;have O:=Qaj O;have D:=Nat.le_of_ble_eq_true c6;subst O;have G:∀k,du ≠ .int k:=λk hk=>by subst hk;simp[y0t]at c1
 have⟨hlen,news,L,n2,n3,Z⟩:=yp0 (P:=P) F Q (yvo T H) hx;obtain⟨a,n,C,rfl,rfl,o2,m,K,o4,o5,o6⟩:=zqs (P:=P) F Q (show zeo H i.size (.sl i.size xs true)=some xs by simp[zeo]) M
 have Y:C=xs.length:=by
  cases M with
  |slnil=>rfl
  |sle _ _ _ _ N=>exact N rfl
  |sl _ _ _ _ _ _ _ _ _ _ N=>exact N rfl
 cases ys with
 |nil=>
  have R:news = #[]:=by simpa using L
  have:=zxo (P:=P) (W:=W) (ty:=ty) (base:=a) ht I G hi hlen (Z W.drawn) R o2;refine⟨.slice a xs.length C,W,g,.inl (by rw[Qbt,this];rfl),.refl _ _ _,F,?_⟩
  rw[List.append_nil];exact z001 M
 |cons y r=>
  have hb:xs.length+(y::r).length<=268435456:=D
  have w:(xs.length+(y::r).length) * i.bytes<=140737488355328:=by
   calc (xs.length+(y::r).length) * i.bytes<=268435456 * 524288:=Nat.mul_le_mul hb c3
    _=_:=by decide
  have A:C<xs.length+(y::r).length:=by simp;omega
  have⟨b,d,k1,k2,k3⟩:=zye (P:=P) (W:=W) (ty:=ty) (base:=a) ht I G hi hz hlen o6 Z A (by omega) (growslice_fits A w)
  have U:(m++news++Builtin.zeroCells z.cells (b-(xs.length+(y::r).length))).size=b * i.size:=by
   rw[Array.size_append,Array.size_append,size_zeroCells,K,L,c4,<-Nat.add_mul,<-Nat.add_mul]
   congr 1;omega
  have hF:y2k W g H i.size (xs++y::r) (m++news++Builtin.zeroCells z.cells (b-(xs.length+(y::r).length))):=by
   refine o5.append n3 (λj E =>?_) (λj E =>?_);rw[Array.append_assoc,z3j (by rw[K];exact E)];rw[Array.append_assoc,<-K,zjy,z3j (by rw[L];exact E)]
  have B:=(Grow.drawn W d).trans (Grow.alloc {W with drawn:=d} (.cells (m++news++Builtin.zeroCells z.cells (b-(xs.length+(y::r).length))) e));have q:=hF.mono (B.step (g:=g) (H:=H));have p:xs.length+(y::r).length=(xs++y::r).length:=by simp
  refine⟨.slice (some ⟨W.heap.size,0,none⟩) (xs.length+(y::r).length) b,_,g,.inl (by rw[Qbt,k3];rfl),B.step,F.grow B,?_⟩;rw[show Value.slice (some ⟨W.heap.size,0,none⟩) (xs.length+(y::r).length) b=Value.slice (some ⟨W.heap.size,0,none⟩) (xs++y::r).length b by rw[p]]
  refine Rel.sl i.size (xs++y::r) false W.heap.size 0 b (λj J=>(m++news++Builtin.zeroCells z.cells (b-(xs.length+(y::r).length))).getD (j * i.size+J) undef) (λhn=>by
   have⟨l,k,o,ho,hb⟩:=hn;have:=F.lt l k o ho
   omega) Q (by rw[<-p];exact k1) (λh=>by cases h) q.1 (λj x J u E I =>?_) q.2.1 q.2.2
  have hl:=q.1 j x E;have h2:=(Qaa.1 E).1;have h1:=(Qaa.1 I).1
  have X:j * i.size+J<b * i.size:=by
   have:(j+1) * i.size<=b * i.size:=Qau _ (by omega);rw[Nat.succ_mul]at this;omega
  rw[Nat.zero_add];show World.cell? (({W with drawn:=d}:World).alloc _) ⟨({W with drawn:=d}:World).heap.size,_,none⟩=_;rw[World.cell?_alloc_new,Qae,Qas (by rw[U];exact X)];rfl
end
inductive znm where
 |ret
 |pan (v:V) (recovered:Bool)
def znm.settle:znm->znm
 |.pan v true=>.ret
 |m=>m
def znm.value:znm->V
 |.pan v false=>v
 |_=>.nili
def znm.zw7:znm->znm
 |.pan v false=>.pan v true
 |m=>m
def isRec(o:Oper):Bool:=match o.op with
 |.call c=>(match c.callee with
  |.builtin .recover=>o.guard.isNone&&c.args.isEmpty
  |_=>false)
 |_=>false
theorem LetsOut.mono{Q Q'}(b:∀e a w,Q e a w->Q' e a w)(h:LetsOut Q):LetsOut Q':=by
 have⟨a,w,h⟩:=h;exact⟨a,w,b _ _ _ h⟩
def Oper.ypk{P}{o:Oper}{a next next' Q Q'}(h:∀a w,next a w->next' a w)(b:∀e a w,Q e a w->Q' e a w){r}(q:o.upon P a next Q r):o.upon P a next' Q' r:=by
 unfold Oper.upon at q ⊢;split at q;exact h _ _ q;exact h _ _ q;exact h _ _ q
 grind[Calls.mono,LetsOut.mono]
 exact Rows.mono q λv w k=>h _ _ k
 exact b _ _ _ q;exact q.elim
def zwd{P ops Q Q'}(b:∀e a w,Q e a w->Q' e a w):∀(l) (a) (w),wpOps P ops Q l a w->wpOps P ops Q' l a w
 |[],a,w,h=>b _ _ _ h
 |i::rest,a,w,h=>by
  simp[wpOps]at h ⊢;split at h;exact zwd b rest a w h;split at h;rename_i d;rw[Qbq d]
  rcases h with h|⟨m,j⟩
  exact .inl (Oper.ypk (λa w k=>zwd b rest a w k) b h)
  grind[LetsOut.mono]
  rename_i d;rw[Qbr d];exact zwd b rest _ w h
def y3j{P ops Q cs}(d:∀a w,¬Q .outgrown a cs w):∀(l) (a) (w),wpOps P ops (λe a w=>Q e a cs w) l a w->wpOpsS P ops Q l a cs w
 |[],a,w,h=>h
 |i::rest,a,w,h=>by
  simp[wpOps]at h;simp[wpOpsS]
  cases j:ops[i]? with
  |none=>
   simp[j]at h ⊢
   exact y3j d rest a w h
  |some o=>
   simp[j]at h ⊢;split at h;rename_i b;rw[Qbq b]
   rcases h with h|⟨_,p,m,h⟩
   unfold Oper.wp at h;generalize n:(execOp a.eval o).run P w=r at h ⊢;split;exact h.elim;exact Oper.ypk (λa w q=>y3j d rest a w q) (λ_ _ _ k=>k) h
   grind
   rename_i b;rw[Qbr b];exact y3j d rest _ w h
def y7r(W:World)(g:Gh)(H:Heap):znm->FrameMode->Prop
 |.ret,u=>u = .returning
 |.pan v r,u=>∃c,u = .panicking [{v:=c,recovered:=r}]∧Rel W g H v c
theorem y7r.mono{W g H m u}(h:y7r W g H m u){W' g' H'}(s:Step W g H W' g' H'):y7r W' g' H' m u:=by
 cases m with
 |ret=>exact h
 |pan v r=>have⟨c,b,a⟩:=h;exact⟨c,b,a.mono s⟩
def y7r.settle{W g H m u}(h:y7r W g H m u):y7r W g H m.settle (settle u):=by
 cases m with
 |ret=>subst h;rfl
 |pan v r=>
  have⟨c,b,a⟩:=h;subst b
  cases r with
  |true=>rfl
  |false=>exact⟨c,rfl,a⟩
def y7r.run{W g H m u}(h:y7r W g H m u):u ≠ .run:=by
 cases m with
 |ret=>subst h;simp
 |pan v r=>have⟨c,a,b⟩:=h;subst a;simp
def y8f(W0:World)(g0:Gh)(H0:Heap)(j:Frame)(cs:List Frame)(Q:z27->St->Prop)(i:znm)(e:Exit)(a:Act)(b:List Frame)(W:World):Prop :=
 ∃g σ h d,ERel W g σ.H e h∧(σ.e0=H0.E∧Step W0 g0 H0 W g σ.H)∧yze W a g σ∧b={j with mode:=d}::cs∧y7r W g σ.H i d∧Q h σ
def y8f.out{W0 g0 H0 e cs Q d a b W}:¬y8f W0 g0 H0 e cs Q d .outgrown a b W:=λ⟨_,_,_,_,h,_⟩=>by cases h
def z0an{P}{c:Code}{Q Q' a cs w}(h:c.wpS P Q a cs w)(m:∀e a cs w,Q e a cs w->Q' e a cs w):c.wpS P Q' a cs w :=
 λb k n j=>let ⟨e,o,d,i,q,r⟩:=h b k n j;⟨e,o,d,i,m _ _ _ _ q,r⟩
section
variable {P:Program}
def y79{n W g H args a}(h:Good W g H)(d:zmy W g H args a):yze W {tmps:=a++Array.replicate (n-a.size) undef,defers:=[]} g ⟨args++List.replicate (n-args.length) .any,H,[],H.E⟩:=by
 refine⟨h,by simp[d.1],λj v b =>?_,rfl,by simp⟩;rw[Qaz]at b;split at b;rename_i e;rw[z3j (by rw[d.1];exact e)];exact d.2 j v b;rw[Qbi]at b;split at b;cases b;exact .any _;cases b
end
end Go.Ab
namespace Go.Ab
open Go
open Go.RowKit
def lnA:B8->B8
 |[]=>[]
 |c::r=>match c==10 with
  |true=>[c]
  |false=>c::lnA r
def lnB:B8->B8
 |[]=>[]
 |c::r=>match c==10 with
  |true=>r
  |false=>lnB r
def noS:B8->Bool
 |[]=>true
 |_::_=>false
theorem z07q{s}:noS s=true↔s=[]:=by cases s <;> simp[noS]
theorem z09g:∀s:B8,(lnB s).length<=s.length
 |[]=>Qbp _
 |c::r=>by
  have:=z09g r
  grind[lnB]
def z0f6{s}(h:s≠[]):(lnB s).length<s.length:=by
 cases s with
 |nil=>exact(h rfl).elim
 |cons c r=>
  grind[z09g,lnB]
section
def Obj.aside:Obj->Bool
 |.loop _=>true
 |.deferred _=>true
 |_=>false
variable {W W':World}{g g':Gh}{H H':Heap}{l:Nat}{rc:Loop}{z:Obj}
def zok{b:Nat}{o o'}(d:W.heap[l]? = some (.loop rc))(h:W.heap[b]? = some o)(a:∀r,o ≠ .loop r):(W.putObj l o').heap[b]? = some o:=by
 grind[World.putObj_heap_other]
def zh9{b:Nat}{o o'}(e:W.heap[l]? = some z)(a:Obj.aside z=true)(h:W.heap[b]? = some o)(d:Obj.aside o=false):(W.putObj l o').heap[b]? = some o:=by
 grind[World.putObj_heap_other]
def yx8{a v o'}(d:W.heap[l]? = some z)(b:Obj.aside z=true)(h:W.cell? a=some v):(W.putObj l o').cell? a=some v:=by
 rw[<-h];unfold World.cell? at h ⊢;have:a.block≠l:=λe=>by rw[e,d]at h;cases z <;> first|(cases b;done)|(simp at h;done)
 rw[World.putObj_heap_other this]
theorem Rel.put{v c}(h:Rel W g H v c)(F:W.heap[l]? = some z)(B:Obj.aside z=true)(o'):Rel (W.putObj l o') g H v c:=by
 induction h with
 |any c=>exact .any c
 |bool b=>exact .bool b
 |int k n=>exact .int k n
 |str s=>exact .str s
 |nilp=>exact .nilp
 |ptr l i d q=>exact .ptr l i d q
 |ref cs d b o c y J r D p=>exact .ref cs d b o c y (λj v G=>yx8 F B (J j v G)) r p
 |ap l i u L d a q C K=>exact .ap l i u L d a q C K
 |nils=>exact .nils
 |slnil w full=>exact .slnil w full
 |sle w full a e I=>exact .sle w full a e I
 |sl w xs full b o e c y M A I hs J r D p=>exact .sl w xs full b o e c y M A I hs (λj x t v G U=>yx8 F B (J j x t v G U)) r p
 |hs l i u d n full a m e q C K=>exact .hs l i u d n full a m e q C K
 |mapn=>exact .mapn
 |map l i q=>exact .map l i q
 |mapc es b en clock y T X=>exact .mapc es b en clock y (zh9 F B T rfl) X
 |fn f Z cs N O r Y r1 r2 R Q=>exact .fn f Z cs N O r Y R Q
 |nilf=>exact .nilf
 |iface t v c h p=>exact .iface t v c p
 |nili=>exact .nili
 |agg vs cs E r D p=>exact .agg vs cs E r p
 |tup vs cs E D p=>exact .tup vs cs E p
theorem zgm.put{i j o}(h:zgm W g H i j o)(k:W.heap[l]? = some z)(d:Obj.aside z=true)(o'):zgm (W.putObj l o') g H i j o:=by
 cases o with
 |cells cs=>
  have⟨c,ty,r,q,n,m⟩:=h
  exact⟨c,ty,zh9 k d r rfl,q,n,λj v u=>(m j v u).put k d o'⟩
 |arr I ty K xs L=>
  have⟨c,r,q,n,m,w,F,E,D,C⟩:=h
  exact⟨c,zh9 k d r rfl,q,n,m,w,F,E,D,λj x t v u B=>(C j x t v u B).put k d o'⟩
 |map es=>
  have⟨y,clock,r,q,n,m,w⟩:=h
  exact⟨y,clock,zh9 k d r rfl,q,n,m,λj p u=>let ⟨e,a,b,c⟩:=w j p u;⟨e,a,b.put k d o',c.put k d o'⟩⟩
 |siter s J=>exact zh9 k d h rfl
 |mit es G=>
  have⟨y,clock,A,r,q,n,m⟩:=h;exact⟨y,clock,A,zh9 k d r rfl,q,zh9 k d n rfl,m⟩
theorem Good.put(h:Good W g H)(j:W.heap[l]? = some z)(d:Obj.aside z=true)(o'):Good (W.putObj l o') g H :=
 ⟨h.dom,λl i o e=>by rw[World.putObj_size];exact h.lt l i o e,h.inj,h.fresh,λl i o e=>(h.obj l i o e).put j d o',
  ⟨λk cs m=>let ⟨a,ty,q,b⟩:=h.zqr.1 k cs m;⟨a,ty,q,zh9 j d b rfl⟩,λk m=>let ⟨a,v,ty,q,b,c⟩:=h.zqr.2 k m;⟨a,v,ty,q,zh9 j d b rfl,c⟩⟩,by rw[World.putObj_size];exact h.base⟩
def yze.yv0{a σ}(h:yze W a g σ)(e:W.heap[l]? = some (.loop rc))(o'):yze (W.putObj l o') a g σ :=
 ⟨h.good.put e rfl o',h.size,λj v b=>(h.tmps j v b).put e rfl o',h.dlen,λj f vs b=>by
  rcases h.defs j f vs b with ⟨m,d,o,k,i⟩|⟨m,D,k,i,n⟩
  exact .inl ⟨m,d,o,k,i.1,λj v b=>(i.2 j v b).put e rfl o'⟩
  exact .inr ⟨m,D,k,zok e i (λr=>by simp),n⟩⟩
def Step.putR(h:Step W g H W' g' H')(e:W.heap.size<=l)(o):Step W g H (W'.putObj l o) g' H' :=
 ⟨h.os,h.tape,h.output,by rw[World.putObj_size];exact h.size,λb d a=>(World.putObj_heap_other (by omega)).trans (h.block b d a),h.own,h.dom,h.new,h.blk,h.arr,h.lv,h.base⟩
def Step.put2(h:Step W g H W' g' H')(d:l<W.heap.size)(o):Step (W.putObj l o) g H (W'.putObj l o) g' H' :=
 ⟨h.os,h.tape,h.output,by rw[World.putObj_size,World.putObj_size];exact h.size,λb a i=>by
  rw[World.putObj_size]at a;by_cases e:b=l;subst e;rw[World.putObj_heap_same d,World.putObj_heap_same (Qbd d h.size)]
  rw[World.putObj_heap_other e,World.putObj_heap_other e];exact h.block b a i,λb a=>by rw[World.putObj_size];exact h.own b a,h.dom,h.new,h.blk,h.arr,h.lv,h.base⟩
end
def y8y{W g H}(j:Good W g H){b x}(h:W.heap[b]? = some (.loop x)):¬Own g H b:=λ⟨l,i,o,e,d⟩=>by
 have a:=j.obj l i o e
 cases o with
 |cells cs=>have⟨c,ty,k,_⟩:=a;rw[show g.blk l i=b from d,h]at k;cases k
 |arr p ty r xs w=>have⟨c,k,_⟩:=a;rw[show g.ab l i=b from d,h]at k;cases k
 |map es=>have⟨m,clock,k,_⟩:=a;rw[show g.blk l i=b from d,h]at k;cases k
 |siter s q=>have k:W.heap[g.blk l i]? = _:=a;rw[show g.blk l i=b from d,h]at k;cases k
 |mit es n=>have⟨m,clock,u,k,_⟩:=a;rw[show g.blk l i=b from d,h]at k;cases k
section
variable {P:Program}
def zjm(P:Program)(b:Nat):Prop :=
 (∀args w,(callFunc b args).run P w = .ok (.enter b args) w) ∧
 ∀(n l a) (K:B8->World->Prop) (d:World->Prop) (s) (W),
  (∀r W,K r W->W.cell? ⟨a,0,none⟩=some (.string ⟨r.toArray⟩)∧W.frozen? ⟨a,0,none⟩=false) ->
  (∀r W W',K r W->Grow W W'->K r W') ->
  (∀r W,r≠[]->K r W->YieldAt Fence.wide (n-1) P l #[.string ⟨(lnA r).toArray⟩] (W.setCell ⟨a,0,none⟩ (.string ⟨(lnB r).toArray⟩)) λe W'=>
   (e = .returned (.bool true)∧K (lnB r) W')∨(e = .returned (.bool false)∧d W')) ->
  s.length<=4611686018427387904->K s W->CallsIn Fence.wide n P b #[.func (.yield l) #[] #[],.pointer (some ⟨a,0,none⟩)] W λe W'=>(∃v,e = .returned v)∧(K [] W'∨d W')
def St.marked(σ:St):St:={σ with d:=(znq,[])::σ.d}
def St.begin(τ:St)(p i:Nat)(r:B8):St:={τ with t:=τ.t.set p (.str (lnA r)),H:=τ.H.set τ.H.lv i (.cells [.str (lnB r)]),d:=[]}
def RQ(τ d:St)(φ:z27->St->Prop)(e:z27)(σ':St):Prop :=
 (∀v,e ≠ .panic v)∧∀j i W g a k,Good j i d.H->(σ'.e0=d.H.E∧Step j i d.H W g σ'.H)->yze j a i {τ with H:=d.H}->yze W k g σ' ->
  ∃b h,yze W a h b∧(b.e0=d.H.E∧Step j i d.H W h b.H)∧φ e b
def y9j(P:Program)(b:Nat)(go:Operand)(p:Nat)(assign body:Code)(Q:z27->St->Prop):Nat->St->Prop
 |k,σ=>∃τ i r,znz σ τ∧τ.e0=τ.H.E∧τ.ev go = .fn b [] [.ptr τ.H.lv i 0]∧τ.H.get τ.H.lv i=some (.cells [.str r])∧r.length<=4611686018427387904∧(r=[]->Q .normal τ.marked) ∧
  (r≠[]->r.length<=k->match k with
   |0=>False
   |k+1=>Sat P assign (τ.begin p i r) (z27.then (λd=>Sat P body d (RQ τ (τ.begin p i r) λe a=>match e with
    |.normal=>a.H.get τ.H.lv i=some (.cells [.str (lnB r)])∧y9j P b go p assign body Q k a
    |e=>Q e a.marked)) λ_ _=>False))
def yze.grow{W W' a g σ}(h:yze W a g σ)(k:Grow W W'):yze W' a g σ :=
 ⟨h.good.grow k,h.size,λj v b=>(h.tmps j v b).mono k.step,h.dlen,λj f vs b=>(h.defs j f vs b).mono h.good k.step⟩
def yze.later{W W' a g g' σ H'}(h:yze W a g σ)(s:Step W g σ.H W' g' H')(d:Good W' g' H'):yze W' a g' {σ with H:=H'} :=
 ⟨d,h.size,λj v b=>(h.tmps j v b).mono s,h.dlen,λj f vs b=>(h.defs j f vs b).mono h.good s⟩
def yze.mark{W a g σ}(h:yze W a g σ){D}(hD:W.heap[D]? = some (.deferred (some [])))(d:g.base<=D):yze W {a with defers:={target:=.collected D,args := #[]}::a.defers} g σ.marked :=
 ⟨h.good,h.size,h.tmps,by simp[St.marked,h.dlen],λj f vs b=>by
  cases j with
  |zero=>obtain⟨rfl,rfl⟩:=b;exact .inr ⟨rfl,D,rfl,hD,d⟩
  |succ j=>exact h.defs j f vs (by simpa[St.marked]using b)⟩
def z08a{W g H}(m:Good W g H){l i r x}(h:H.get l i=some (.cells [.str r])) :
  Step W g H (W.setCell ⟨g.blk l i,0,none⟩ (.string ⟨x.toArray⟩)) g (H.set l i (.cells [.str x]))∧Good (W.setCell ⟨g.blk l i,0,none⟩ (.string ⟨x.toArray⟩)) g (H.set l i (.cells [.str x])):=by
 have⟨c,ty,w,n,u,s⟩:=m.obj _ _ _ h;refine zgk (o':=.cells [.str x]) m h rfl rfl rfl rfl ?_ (λb q k =>?_) (λo ty p xs y e=>by cases e) λ_ =>?_
 simp_all
 show(W.heap.modify _ _)[b]? = _;rw[Qbx,Qbr (λe=>k e.symm)]
 ·refine⟨c.setIfInBounds 0 (.string ⟨x.toArray⟩),ty,?_,by simpa using n,λj v a =>?_,λj v a =>?_⟩;show(W.heap.modify _ _)[g.blk l i]? = _
  grind
  all_goals
   cases j with
   |succ j=>simp at a
   |zero=>
    simp at a;subst a;have d:0<c.size:=by rw[n];simp
    simp[d,Option.getD_some]
    first|rfl|exact .str _
def y7q{W g H}(d:Good W g H){l i r}(h:H.get l i=some (.cells [.str r])):W.cell? ⟨g.blk l i,0,none⟩=some (.string ⟨r.toArray⟩)∧W.frozen? ⟨g.blk l i,0,none⟩=false:=by
 have⟨c,ty,k,j,m,e⟩:=d.obj _ _ _ h;have a:0<c.size:=by rw[j];simp
 have b:=e 0 _ rfl;refine⟨?_,?_⟩;unfold World.cell?;simp[k,if_false];rw[Qae,Qas a,Option.getD_some]at b;rw[Qas a];generalize c[0]=z at b;cases b;rfl
 grind[World.frozen?]
def str_inj{r s:B8}(h:Value.string ⟨r.toArray⟩ = .string ⟨s.toArray⟩):r=s:=by
 grind
def z0cd{Y go p assign body σ Q}(hL:zjm P Y)(hc:(calm assign&&calm body)=true)
  (h:∀k,y9j P Y go p assign body Q k σ):Sat P (.rangeFunc go #[p] assign body) σ Q:=λW0 g0 H0 W a g hB hS hG=>by
 intro rr hr n;have hr:=hr.resolve_right (by simp[calm]);subst hr;simp[Qag]at hc
 have read:∀{k σ W g},y9j P Y go p assign body Q k σ->(σ.e0=H0.E∧Step W0 g0 H0 W g σ.H)->yze W a g σ->∃(F:Gh) (s:Nat) (r:B8),a.eval go = .func (.func Y) #[] #[.pointer (some ⟨s,0,none⟩)]∧W.cell? ⟨s,0,none⟩=some (.string ⟨r.toArray⟩)∧W.frozen? ⟨s,0,none⟩=false∧r.length<=4611686018427387904:=λ{k σ W g} hk hS hG=>by
  unfold y9j at hk;have⟨τ,i,r,hw,_,M,o,k7,_⟩:=hk;have⟨F,w,m⟩:=hw W0 g0 H0 W a g hB hS hG;have R:=m.ev go;rw[M]at R;generalize a.eval go=cg at R
  cases R with
  |fn f fs cs hx I n1 n2 r1 r2=>
   have Z:=r2 0 _ rfl;have hf:=Array.eq_empty_of_size_eq_zero n1
   have hp:I = #[I.getD 0 undef]:=by
    have⟨l⟩:=I
    match l,n2 with
    |[x],_=>rfl
   generalize I.getD 0 undef=z at Z hp;cases Z;have⟨b1,b2⟩:=y7q m.good o;exact⟨F,_,r,by rw[hf,hp],b1,b2,k7⟩
 have⟨_,s,s0,O,h6,kb,ha⟩:=read (h 0) hS hG;refine wpIn_rangeFunc λfn ki =>?_
 let b:LoopState->Option Code->Loop:=λst pe=>{state:=st,pending:=pe,fn,tmps:=a.tmps,params := #[p],assign,body,defers:=W.heap.size}
 obtain⟨W1,hs⟩:∃W1,(W.alloc (.deferred (some []))).alloc (.loop (b .ready none))=W1:=⟨_,rfl⟩
 have kd:W1.heap[W.heap.size+1]? = some (.loop (b .ready none)):=by
  grind[World.alloc_heap_new,World.size_alloc]
 have ke:W1.heap[W.heap.size]? = some (.deferred (some [])):=by
  grind[Below.heap_alloc,World.alloc_heap_new]
 have U:Grow W W1:=by rw[<-hs];exact(Grow.alloc _ _).trans (Grow.alloc _ _)
 refine⟨W.heap.size+1,[{target:=.collected W.heap.size,args := #[]}],W1,{target:=.fn (.func Y) #[.pointer (some ⟨s,0,none⟩)],args := #[.func (.yield (W.heap.size+1)) #[] #[]]},W1,Y,
  #[.func (.yield (W.heap.size+1)) #[] #[]] ++ #[.pointer (some ⟨s,0,none⟩)],W1,?_,?_,?_,?_,λh=>(by cases h),?_⟩
 grind[run_enterLoop_outer]
 ·simp[resolve,O];simp[go_sem]
 intro f' kj;trivial
 ·simp[invoke,go_sem,hL.1]
 have kh:=hS.2.size;have D:g0.base<=W.heap.size:=by rw[<-hS.2.base];exact hG.good.base
 let K:=λ(r:B8) W'=>∃k σ' g',r.length<=k∧y9j P Y go p assign body Q k σ'∧(σ'.e0=H0.E∧Step W0 g0 H0 W' g' σ'.H)∧yze W' a g' σ' ∧
  W'.heap[W.heap.size+1]? = some (.loop (b .ready none))∧W'.heap[W.heap.size]? = some (.deferred (some []))∧W'.cell? ⟨s,0,none⟩=some (.string ⟨r.toArray⟩)∧W'.frozen? ⟨s,0,none⟩=false
 let Kx:=λW'=>∃c e σ' g',(c = .ret∧e = .ret∨∃id,c = .exit id∧e = .exit id)∧Q e σ'.marked∧(σ'.e0=H0.E∧Step W0 g0 H0 W' g' σ'.H)∧yze W' a g' σ' ∧
  W'.heap[W.heap.size+1]? = some (.loop (b .done (some c)))∧W'.heap[W.heap.size]? = some (.deferred (some []))
 have k6:=hL.2 (n-1) (W.heap.size+1) s K Kx s0 W1 (λr W' hk =>?cell) (λr W' kk hk hg =>?grow) (λr W' hh hk =>?round) ha ?start
 case cell=>grind
 case grow=>
  have⟨k,σ',g',q1,q2,q3,q4,q5,q6,q7,q8⟩:=hk
  have cg:∀{a:Addr}{v:Value},W'.cell? a=some v->a.block<W'.heap.size:=λ{a v} hc=>by
   grind[World.cell?]
  have hb:=hg.block s (cg q7);refine⟨k,σ',g',q1,q2,⟨q3.1,q3.2.trans hg.step⟩,q4.grow hg,(hg.block _ (Qbh.1 q5).1).trans q5,(hg.block _ (Qbh.1 q6).1).trans q6,?_,?_⟩
  grind[World.cell?]
  grind[World.frozen?]
 case start=>
  refine⟨s0.length,σ,g,Qbp _,h _,⟨hS.1,hS.2.trans U.step⟩,hG.grow U,kd,ke,?_,?_⟩;have h4:=y95 h6;rw[<-h6];unfold World.cell?;simp[U.block s h4];have h4:=y95 h6;rw[<-kb];unfold World.frozen?;simp[U.block s h4]
 case round=>
  have⟨k,σ',g',hm,hR,q,G,L,hD,C,h9⟩:=hk
  cases k with
  |zero=>grind
  |succ k=>
  unfold y9j at hR;have⟨τ,i,r2,hw,ho,M,o,_,_,k8⟩:=hR;have⟨F,w,m⟩:=hw W0 g0 H0 W' a g' hB q G
  have N:F.blk τ.H.lv i=s:=by
   have R:=m.ev go;rw[M,O]at R
   cases R with
   |fn f fs cs hx I n1 n2 r1 r2=>
    have Z:=r2 0 _ rfl;simp at Z;cases Z;rfl
  have⟨b1,b2⟩:=y7q m.good o;rw[N,C]at b1;have h3:=str_inj (Option.some.inj b1);subst h3;have k5:=k8 hh hm;have⟨T,y⟩:=z08a (x:=lnB r) m.good o;rw[N]at T y
  have k9:W.heap.size+1≠s:=λe=>by
   grind[World.cell?]
  have kg:W.heap.size≠s:=λe=>by
   grind[World.cell?]
  have u:(W'.setCell ⟨s,0,none⟩ (.string ⟨(lnB r).toArray⟩)).heap[W.heap.size+1]? = some (.loop (b .ready none)):=(Below.heap_setCell _ _ _ _ k9).trans L;have hv:(W'.setCell ⟨s,0,none⟩ (.string ⟨(lnB r).toArray⟩)).heap[W.heap.size]? = some (.deferred (some [])):=(Below.heap_setCell _ _ _ _ kg).trans hD
  generalize hs:W'.setCell ⟨s,0,none⟩ (.string ⟨(lnB r).toArray⟩)=W1 at T y u hv ⊢
  have hE:(τ.begin p i r).H.E=H0.E:=by
   rw[<-w.1,ho];show(τ.H.set τ.H.lv i _).E=_;unfold Heap.set;rw[Qbq rfl]
  have X:=m.later T y
  have kf:yze W1 {tmps:=a.tmps.setIfInBounds p (.string ⟨(lnA r).toArray⟩),defers:=[]} F (τ.begin p i r):=by
   have h0:yze W1 {tmps:=a.tmps,defers:=[]} F {τ with H:=(τ.begin p i r).H,d:=[]}:=⟨X.good,X.size,X.tmps,rfl,λj f vs hj=>by simp at hj⟩;exact h0.next (.refl _ _ _) y (.str _) (some p)
  have B:=(Qbh.1 u).1
  have hy:=by
   have:=run_yield (P:=P) (args := #[.string ⟨(lnA r).toArray⟩]) u rfl;simpa[b]using this
  refine⟨fn,_,assign,body,hy,roundIn_of_wpIn trivial ?_⟩
  let J:Obj:=.loop (b .busy none)
  have a1:=k5 W1 F (τ.begin p i r).H W1 _ F ⟨y⟩ ⟨w.1.trans hE.symm,.refl _ _ _⟩ kf (some (W.heap.size+1)) (.inr hc.1) (n-1-1);refine wpIn_mono (show assign.wpIn (Fence.wide.inRound (W.heap.size+1)) (n-1-1) P _ _ _ from a1) ?_
  rintro e am Wm ⟨gm,σ1,e',q1,q2,q3,q4⟩
  have hi:=(q2.2.block _ B (y8y y u)).trans u
  cases q1 with
  |exit id=>exact q4
  |ret=>exact q4
  |panic v c hr=>exact q4
  |normal=>
  refine⟨Wm.putObj (W.heap.size+1) J,run_beginRound hi rfl,?_⟩;have a2:=q4 (W1.putObj (W.heap.size+1) J) F (τ.begin p i r).H (Wm.putObj (W.heap.size+1) J) am gm ⟨y.put u rfl J⟩ ⟨q2.1,q2.2.put2 B J⟩ (q3.yv0 hi J) (some (W.heap.size+1)) (.inr hc.2) (n-1-1);refine wpIn_mono (show body.wpIn (Fence.wide.inRound (W.heap.size+1)) (n-1-1) P _ _ _ from a2) ?_
  rintro e a3 W3 ⟨g3,σ3,e',k1,k2,k3,k4⟩
  have hn:(W1.putObj (W.heap.size+1) J).heap[W.heap.size+1]? = some (.loop (b .busy none)):=World.putObj_heap_same B;have hu:(W1.putObj (W.heap.size+1) J).heap[W.heap.size]? = some (.deferred (some [])):=(World.putObj_heap_other (by omega)).trans hv;have h7:=y.put u rfl J;have A:=(k2.2.block _ (by grind) (y8y h7 hn)).trans hn
  have ht:=(k2.2.block _ (by grind) (z02p h7 hu)).trans hu;have⟨h2,h8,m1,m2,m3⟩:=k4.2 _ F W3 g3 a a3 h7 k2 (X.yv0 u J) k3;have hd:=((w.2.trans T).putR (by omega) J).trans m2.2
  have hz:∀jump:Option Code,(Instr.endRound (W.heap.size+1) jump).run P W3 = .ok (.bool jump.isNone) (W3.putObj (W.heap.size+1) (.loop (b (if jump.isNone then .ready else .done) jump))):=λjump=>run_endRound jump A
  have h1:=(Qbh.1 A).1
  have out:∀(c:Code) (e:z27),(c = .ret∧e = .ret∨∃id,c = .exit id∧e = .exit id)->Q e h2.marked->∃v w',(Instr.endRound (W.heap.size+1) (some c)).run P W3 = .ok v w'∧((Ending.returned v = .returned (.bool true)∧K (lnB r) w')∨(Ending.returned v = .returned (.bool false)∧Kx w')):=λc e h5 hq=>
   ⟨_,_,hz (some c),.inr ⟨rfl,c,e,h2,h8,h5,hq,⟨m2.1.trans hE,hd.putR (by omega) _⟩,m1.yv0 A _,World.putObj_heap_same h1,zok A ht λr=>by simp⟩⟩
  cases k1 with
  |normal=>
   have⟨y1,y2⟩:=m3;have ka:=(m1.yv0 A (.loop (b .ready none))).good;have kc:h8.blk τ.H.lv i=s:=by rw[<-N];exact m2.2.blk _ _ (m.good.dom _ _ _ o)
   have⟨z1,z2⟩:=y7q ka y1;rw[kc]at z1 z2
   exact⟨_,_,hz none,.inl ⟨rfl,k,h2,h8,by have:=z0f6 hh;omega,y2,⟨m2.1.trans hE,hd.putR (by omega) _⟩,m1.yv0 A _,World.putObj_heap_same h1,zok A ht λr=>by simp,z1,z2⟩⟩
  |ret=>exact out .ret .ret (.inl ⟨rfl,rfl⟩) m3
  |exit id=>exact out (.exit id) (.exit id) (.inr ⟨id,rfl,rfl⟩) m3
  |panic v c hr=>exact(k4.1 v rfl).elim
 refine(show CallsIn Fence.wide (n-1) P Y _ W1 _ from k6).mono ?_
 rintro e W2 ⟨⟨v,rfl⟩,hk|hk⟩
 have⟨k,σ',g',hm,hR,q,G,L,hD,C,h9⟩:=hk;unfold y9j at hR;have⟨τ,i,r2,hw,ho,M,o,_,hq,_⟩:=hR;have⟨F,w,m⟩:=hw W0 g0 H0 W2 a g' hB q G
 have N:F.blk τ.H.lv i=s:=by
  have R:=m.ev go;rw[M,O]at R
  cases R with
  |fn f fs cs hx I n1 n2 r1 r2=>
   have Z:=r2 0 _ rfl;simp at Z;cases Z;rfl
 have⟨b1,b2⟩:=y7q m.good o;rw[N,C]at b1;have h3:=str_inj (Option.some.inj b1);refine⟨none,_,run_endLoop L (by simp[b]),?_⟩;exact⟨F,τ.marked,.normal,.normal,⟨w.1,w.2.putR (by omega) _⟩,(m.yv0 L _).mark (zok L hD λr=>by simp) (by rw[w.2.base];exact D),hq h3.symm⟩;have⟨c,e,σ',g',h5,hq,q,G,L,hD⟩:=hk;refine⟨some c,_,run_endLoop L (by simp[b]),?_⟩
 rcases h5 with ⟨rfl,rfl⟩|⟨id,rfl,rfl⟩
 exact wpIn_ret ⟨g',σ'.marked,.ret,.ret,⟨q.1,q.2.putR (by omega) _⟩,(G.yv0 L _).mark (zok L hD λr=>by simp) (by rw[q.2.base];exact D),hq⟩;exact wpIn_exit ⟨g',σ'.marked,_,.exit id,⟨q.1,q.2.putR (by omega) _⟩,(G.yv0 L _).mark (zok L hD λr=>by simp) (by rw[q.2.base];exact D),hq⟩
end
end Go.Ab
