/-
  WHAT A LAW IS GIVEN: arguments that read as data are abstract values over a memory in which nothing is owned.
-/
import Derived.Test.YtomdnlaakelghaaGreatLib1
import Derived.WalkKit
import Derived.ProofKit
import Derived.OpenShut
import Derived.JoinedCond
import Derived.Carry
import Derived.Lib.Builder
import Derived.Lib.UnsafeStr
import Derived.Laws.MakeOwn
import Derived.Laws.IdiomStrings
namespace Go.Ab
open Go
set_option linter.unusedSimpArgs false
set_option linter.unusedVariables false
mutual
def zlm {H:Type}:DataW H->Nat
 | .lit (.string bytes)=>bytes.length+1
 | .lit _=>1
 | .nil=>1
 | .ptr d=>zlm d+1
 | .slice elems spare=>zgt elems+zgt spare+1
 | .agg parts=>zgt parts+1
 | .iface _ d=>zlm d+1
 | .map entries=>zns entries+1
 | .held _=>1
def zgt {H:Type}:List (DataW H)->Nat
 |[]=>0
 |d::r=>zlm d+zgt r
def zns {H:Type}:List (Lit×DataW H)->Nat
 |[]=>0
 |x::r=>y33 x+zns r
def y33 {H:Type}:Lit×DataW H->Nat
 |(.string bytes,d)=>bytes.length+zlm d+1
 |(_,d)=>zlm d+1
end
def g0:Gh:=⟨λ_ _=>False,λ_ _=>0,λ_ _=>0,λ_ _=>0⟩
def H0:kz3:=⟨0,[],λ_ _=>none⟩
theorem get0 (l i:Nat):H0.get l i=none:=by unfold kz3.get H0;split <;> simp
theorem own0 (g:Gh) (b:Nat):¬Own g H0 b:=λ⟨l,i,o,h,_⟩=>by rw [get0] at h;cases h
theorem good0 (W:World) (hl:zn6 W g0 H0):Good W g0 H0 where
 dom l i o h:=by rw [get0] at h;cases h
 lt l i o h:=by rw [get0] at h;cases h
 inj l i o l' i' o' h:=by rw [get0] at h;cases h
 fresh l i h:=h.elim
 obj l i o h:=by rw [get0] at h;cases h
 glob:=hl
theorem yi3 (cs:List V):(V.agg cs).cells=cs:=rfl
structure Ty (α:Type) where
 el:α->V
 len:Nat
 size:α->Nat
 wf:α->Prop
 hlen:∀x,(el x).cells.length=len
def RelC (W:World) (cs:List Value) (o:Nat) (vs:List V):Prop:=∀(j:Nat) (v:V),vs[j]? = some v->∃c,cs[o+j]? = some c∧c.oneCell'=true∧Rel W g0 H0 v c
structure Reads (P:Program) (n t:Nat) {α:Type} (T:Ty α):Prop where
 get:∀{H:Type} (enc:TypeId×Value->H) (W:World) (cs:List Value) (d:DataW H) (ps:List MemPlace),DataW.trod enc P W 0 (λ_=>true) true n t cs=some (d,ps) ->
  ∃x,cs.length=T.len∧RelC W cs 0 (T.el x).cells∧T.wf x∧T.size x<=zlm d
def Ty.int (k:IntKind):Ty Int:=⟨λn=>.int k n,1,λ_=>1,λn=>k.min<=n∧n<=k.max,λ_=>rfl⟩
def Ty.bool:Ty Bool:=⟨λn=>.bool n,1,λ_=>1,λ_=>True,λ_=>rfl⟩
def Ty.str:Ty (List UInt8):=⟨λn=>.str n,1,λs=>s.length+1,λ_=>True,λ_=>rfl⟩
def Ty.slice {α:Type} (T:Ty α):Ty (List α):=⟨λxs=>.sl T.len (xs.map T.el) false,1,λxs=>(xs.map T.size).sum+1,λxs=>∀x∈xs,T.wf x,λ_=>rfl⟩
variable {P : Program}
theorem zty {W:World} {c:Value} {v:V} (h1:c.oneCell'=true) (h:Rel W g0 H0 v c) (hv:v.cells=[v]):RelC W [c] 0 v.cells:=λj u hj=>by
 rw [hv] at hj
 cases j with
 |zero=>simp at hj;subst hj;exact ⟨c,rfl,h1,h⟩
 |succ j=>simp at hj
theorem zex {t:Nat} {k:IntKind} (ht:P.underlying t=some (.int k)) (n:Nat):Reads P n t (.int k):=.mk λenc W cs d ps h=>by
 obtain ⟨m,rfl,hx,hw⟩:=DataW.trod_int ht h;injection hx with h1 h2;subst h1;exact ⟨m,rfl,zty rfl (.int _ _) rfl,by simpa [Ty.int,Lit.wf] using hw,by simp [Ty.int,zlm]⟩
theorem yui {t:Nat} (ht:P.underlying t=some .bool) (n:Nat):Reads P n t .bool:=.mk λenc W cs d ps h=>by
 obtain ⟨m,rfl,hx⟩:=DataW.trod_bool ht h;injection hx with h1 h2;subst h1;exact ⟨m,rfl,zty rfl (.bool _) rfl,trivial,by simp [Ty.bool,zlm]⟩
theorem zet {t:Nat} (ht:P.underlying t=some .string) (n:Nat):Reads P n t .str:=.mk λenc W cs d ps h=>by
 obtain ⟨s,rfl,hx,hw⟩:=DataW.trod_string ht h;injection hx with h1 h2;subst h1;exact ⟨s.data.toList,rfl,zty rfl (.str _) rfl,trivial,by simp [Ty.str,zlm]⟩
theorem yii {W:World} {a:Addr} {n:Nat} {cs:List Value} (h:W.cells? 0 a n=some cs):cs.length=n∧∀i,i<n->W.cell? (a.add i)=cs[i]? := by
 unfold World.cells? at h;rw [Qbt (Qbr _)] at h;exact ⟨by simpa using mapM_some_length h,λi hi=>mapM_some_get h i i (by simp [hi])⟩
theorem ypp {α:Type} {n:Nat} {p:Nat->α->Prop} (h:∀i,i<n->∃x,p i x):∃xs:List α,xs.length=n∧∀i x,xs[i]? = some x->p i x:=by
 induction n with
 |zero=>exact ⟨[],rfl,by simp⟩
 |succ n ih=>
  obtain ⟨xs,h1,h2⟩:=ih λi hi=>h i (by omega)
  obtain ⟨x,hx⟩:=h n (by omega);refine ⟨xs++[x],by simp [h1],λi y hy => ?_⟩;rw [Qbd] at hy;split at hy
  · exact h2 i y hy
  · have:=(Qaa.1 hy).1;simp at this;have e:i=n:=by omega
    subst e;rw [h1] at hy;simp at hy;subst hy;exact hx
theorem y3q {H:Type} {α:Type} (f:α->Nat):∀(xs:List α) (ds:List (DataW H)),xs.length=ds.length->(∀(i:Nat) (x:α) (d:DataW H),xs[i]? = some x->ds[i]? = some d->f x<=zlm d)->(xs.map f).sum<=zgt ds
 |[],ds,_,_=>by simp
 |x::xs,[],h,_=>by simp at h
 |x::xs,d::ds,h,hh=>by
  have h1:=hh 0 x d rfl rfl;have h2:=y3q f xs ds (by simpa using h) λi x d h1 h2=>hh (i+1) x d (by simpa using h1) (by simpa using h2)
  simp only [List.map_cons,List.sum_cons,zgt];omega
theorem z7g {t e:Nat} (ht:P.underlying t=some (.slice e)) {α:Type} {T:Ty α} (hc:P.cellsOf e=T.len) (hz:0<T.len) {n:Nat} (he:∀m,m<n->Reads P m e T):Reads P n t T.slice:=.mk λenc W cs d ps h=>by
 rcases DataW.trod_slice ht h with ⟨rfl,hx⟩|⟨a,len,cap,elems,rest,m,rfl,rfl,hx,_,h1,h2,h3,h4,h5,_⟩
 ·injection hx with h1 h2;subst h1;refine ⟨[],rfl,zty rfl (.slnil _ _) rfl,by simp [Ty.slice],by simp [Ty.slice,zlm]⟩
 ·injection hx with hx1 hx2;subst hx1;rw [hc] at h4
  have key:∀i,i<len->∃x:α,(∀j v,(T.el x).cells[j]? = some v->∃c,W.cell? (a.add (i * T.len+j))=some c∧c.oneCell'=true∧Rel W g0 H0 v c)∧T.wf x∧(∀d,elems[i]? = some d->T.size x<=zlm d.1)∧a.spot=none:=λi hi=>by
   have h6:=h4 i hi;have hlt:i<elems.length:=by omega
   rw [Qab hlt,Option.bind_eq_some_iff] at h6;obtain ⟨cs',q1,q2⟩:=h6;obtain ⟨k1,k2⟩:=yii q1;obtain ⟨x,x1,x2,x3,x4⟩:=(he m (by omega)).get enc W cs' _ _ q2;refine ⟨x,λj v hj => ?_,x3,λd hd=>by rw [Qab hlt] at hd;injection hd with hd;subst hd;exact x4,?_⟩
   ·obtain ⟨c,c1,c2,c3⟩:=x2 j v hj;rw [Nat.zero_add] at c1;refine ⟨c,?_,c2,c3⟩;have hj':=(Qaa.1 c1).1;rw [<-c1,<-k2 j (by omega)];unfold Addr.add;split
    ·rename_i h0;have:i * T.len=0:=by omega
     have:j=0:=by omega
     simp [*]
    ·by_cases hj0:j=0
     ·subst hj0;rw [Qbt rfl,Qbu (by omega)];simp
     ·rw [Qbu hj0];by_cases hi0:i * T.len=0
      ·simp [hi0]
      ·rw [Qbu hi0];simp [Nat.add_assoc]
   ·have h0:=h4 0 (by omega);rw [Qab (show 0<elems.length by omega),Option.bind_eq_some_iff] at h0;obtain ⟨cs0,z1,_⟩:=h0;have z2:=(yii z1);have z3:=z2.2 0 hz;have:cs0[0]? = some (cs0[0]'(by omega)):=Qab _;rw [this] at z3;simp only [Nat.zero_mul,Addr.add,if_true] at z3;unfold World.cell? at z3;split at z3
    ·split at z3
     ·cases z3
     ·rename_i hs;simpa using hs
    ·cases z3
  obtain ⟨xs,hl,hall⟩:=ypp key;refine ⟨xs,rfl,?_,λx hx => ?_,?_⟩
  ·refine zty rfl ?_ rfl;show Rel W g0 H0 (.sl T.len (xs.map T.el) false) _;by_cases h0:len=0
   ·have:xs=[]:=Qao (by omega);subst this;subst h0;exact .sle _ _ a cap (by simp)
   ·have hs:a.spot=none:=(hall 0 (xs[0]'(by omega)) (Qab _)).2.2.2
    have hadd:∀k,a.add k=⟨a.block,a.off+k,none⟩:=λk=>by
     unfold Addr.add;split
     ·rename_i hk;subst hk;cases a;simp at hs;subst hs;rfl
     ·rfl
    have ha:a=⟨a.block,a.off,none⟩:=by cases a;simp at hs;subst hs;rfl
    have hln:len=(xs.map T.el).length:=by simp [hl]
    have e1:∀(j:Nat) (x:V) (t:Nat) (v:V),(xs.map T.el)[j]? = some x->x.cells[t]? = some v->∃c,W.cell? ⟨a.block,a.off+j * T.len+t,none⟩=some c∧c.oneCell'=true∧Rel W g0 H0 v c:=λj x t v hj ht=>by
     rw [Qan,Qaf] at hj;obtain ⟨y,hy,rfl⟩:=hj;obtain ⟨c,c1,c2,c3⟩:=(hall j y hy).1 t v ht;rw [hadd] at c1;exact ⟨c,by rw [Nat.add_assoc];exact c1,c2,c3⟩
    rw [ha,hln];refine .sl T.len (xs.map T.el) false a.block a.off cap (λj t=>(W.cell? ⟨a.block,a.off+j * T.len+t,none⟩).getD undef) (own0 _ _) hz (by omega) (by simp) (λj x hj => ?_) (λj x t v hj ht => ?_) (λj x t v hj ht => ?_) (λj x t v hj ht => ?_)
    ·rw [Qan,Qaf] at hj;obtain ⟨y,hy,rfl⟩:=hj;exact T.hlen y
    ·obtain ⟨c,c1,_,_⟩:=e1 j x t v hj ht;rw [c1];rfl
    ·obtain ⟨c,c1,c2,_⟩:=e1 j x t v hj ht;rw [c1];exact c2
    ·obtain ⟨c,c1,_,c3⟩:=e1 j x t v hj ht;rw [c1];exact c3
  ·obtain ⟨i,hi⟩:=List.mem_iff_getElem?.1 hx;exact (hall i x hi).2.1
  ·have:=y3q T.size xs (elems.map (·.1)) (by simp;omega) λi x d hx hd=>by
    rw [Qan,Qaf] at hd;obtain ⟨y,hy,rfl⟩:=hd;exact (hall i x hx).2.2.1 y hy
   simp only [Ty.slice,zlm];omega
structure yje (P:Program) (n:Nat) (fs:List Field) (o:Nat) {α:Type} (T:Ty α):Prop where
 get:∀{H:Type} (enc:TypeId×Value->H) (W:World) (cs:List Value) (xs:List (DataW H×List MemPlace)),xs.length=fs.length ->
  (∀(i:Nat) (f:Field),fs[i]? = some f->DataW.trod enc P W 0 (λ_=>true) true n f.type ((cs.drop f.offset).take (P.cellsOf f.type))=xs[i]?) ->
  ∃x,RelC W cs o (T.el x).cells∧T.wf x∧T.size x<=zgt (xs.map (·.1))
def Ty.unit:Ty Unit:=⟨λ_=>.agg [],0,λ_=>0,λ_=>True,λ_=>rfl⟩
def Ty.pair {α β:Type} (A:Ty α) (B:Ty β):Ty (α×β):=⟨λx=>.agg ((A.el x.1).cells++(B.el x.2).cells),A.len+B.len,λx=>A.size x.1+B.size x.2,λx=>A.wf x.1∧B.wf x.2,λx=>by rw [yi3,Qap,A.hlen,B.hlen]⟩
def Ty.struct {α:Type} (A:Ty α):Ty α:=⟨λx=>.agg (A.el x).cells,A.len,λx=>A.size x+1,A.wf,λx=>by rw [yi3,A.hlen]⟩
theorem zao {n o:Nat}:yje P n [] o .unit:=.mk λenc W cs xs h _=>by
 have:xs=[]:=Qao (by simpa using h);subst this;exact ⟨(),λj v hj=>by simp [Ty.unit,V.cells] at hj,trivial,by simp [Ty.unit]⟩
theorem yz9 {n o:Nat} {f:Field} {fs:List Field} {α β:Type} {A:Ty α} {B:Ty β} (ho:f.offset=o) (_hk:P.cellsOf f.type=A.len) (ha:Reads P n f.type A) (hb:yje P n fs (o+A.len) B):yje P n (f::fs) o (.pair A B):=.mk λenc W cs xs h hh=>by
 obtain ⟨y,ys,rfl⟩:∃y ys,xs=y::ys:=by
  cases xs with
  |nil=>simp at h
  |cons y ys=>exact ⟨y,ys,rfl⟩
 obtain ⟨x,x1,x2,x3,x4⟩:=ha.get enc W _ _ _ (hh 0 f rfl);obtain ⟨z,z1,z2,z3⟩:=hb.get enc W cs ys (by simpa using h) λi f hf=>by have:=hh (i+1) f (by simpa using hf);simpa using this
 refine ⟨(x,z),λj v hj => ?_,⟨x3,z2⟩,by simp only [Ty.pair,List.map_cons,zgt];omega⟩;rw [show ((Ty.pair A B).el (x,z)).cells=(A.el x).cells++(B.el z).cells from rfl,Qbd] at hj;split at hj
 ·rename_i hlt;obtain ⟨c,c1,c2,c3⟩:=x2 j v hj;refine ⟨c,?_,c2,c3⟩;rw [Nat.zero_add,Qaw] at c1;split at c1
  ·rw [Qbe,ho] at c1;exact c1
  ·cases c1
 ·rename_i hge;obtain ⟨c,c1,c2,c3⟩:=z1 _ v hj;refine ⟨c,?_,c2,c3⟩;rw [A.hlen] at hge c1;rw [<-c1];congr 1;omega
theorem z79 {t:Nat} {fs:Array Field} (ht:P.underlying t=some (.struct fs)) {α:Type} {A:Ty α} (hk:P.cellsOf t=A.len) {n:Nat} (h:∀m,m<n->yje P m fs.toList 0 A):Reads P n t A.struct:=.mk λenc W cs d ps hd=>by
 obtain ⟨xs,m,rfl,hx,h1,h2,h3⟩:=DataW.trod_struct ht hd;injection hx with hx1 hx2;subst hx1;obtain ⟨x,x1,x2,x3⟩:=(h m (by omega)).get enc W cs xs (by simpa using h2) λi f hf=>h3 i f (by simpa using hf)
 exact ⟨x,by rw [h1,hk];rfl,x1,x2,by simp only [Ty.struct,zlm];omega⟩
theorem Reads.conv {n t:Nat} {α β:Type} {A:Ty α} {B:Ty β} (h:Reads P n t A) (g:α->β) (hel:∀x,B.el (g x)=A.el x) (hl:B.len=A.len) (hw:∀x,A.wf x->B.wf (g x)) (hs:∀x,B.size (g x)<=A.size x):Reads P n t B:=.mk λenc W cs d ps hd=>by
 obtain ⟨x,x1,x2,x3,x4⟩:=h.get enc W cs d ps hd;exact ⟨g x,by rw [x1,hl],by rw [hel];exact x2,hw x x3,Nat.le_trans (hs x) x4⟩
structure yvi (P:Program) (t:Nat) {α:Type} (T:Ty α):Prop where
 get:∀{H:Type} (enc:TypeId×Value->H) (W:World) (base:Nat) (v:Value) (d:DataW H) (ps:List MemPlace),DataW.Trod enc P W 0 (λ_=>true) true t v d ps->Value.okWide P W .any base t v ->
  ∃x,Rel W g0 H0 (T.el x) v∧T.wf x∧T.size x<=zlm d
theorem z04i {W:World} {r:Reach} {base t:Nat} {cs:Array Value} (h:Cell.okWide P W r base t (.agg cs)):False:=by
 unfold Cell.okWide at h;split at h <;> try (simp_all;done)
 unfold Cell.ok at h;split at h <;> simp_all
theorem yyz {t:Nat} {α:Type} {T:Ty α} (h:∀n,Reads P n t T) (hc:∀x,(T.el x).cells=[T.el x]) (hnot:(match P.underlying t with|some (.struct _)|some (.array _ _)=>false|_=>true)=true):yvi P t T:=.mk λenc W base v d ps hd hv=>by
 obtain ⟨fuel,hd⟩:=hd;obtain ⟨x,x1,x2,x3,x4⟩:=(h fuel).get enc W _ d ps hd;refine ⟨x,?_,x3,x4⟩
 have hcell:v.cells = #[v]:=by
  unfold Value.okWide at hv;split at hv
  ·simp_all
  ·simp_all
  ·cases v <;> first|rfl|exact (z04i hv).elim
 obtain ⟨c,c1,c2,c3⟩:=x2 0 (T.el x) (by rw [hc];rfl);rw [hcell] at c1;simp at c1;subst c1;exact c3
theorem ysk {t:Nat} {fs:Array Field} {α:Type} {T:Ty α} (ht:P.underlying t=some (.struct fs)) (h:∀n,Reads P n t T) (hc:∀x,T.el x = .agg (T.el x).cells):yvi P t T:=.mk λenc W base v d ps hd hv=>by
 obtain ⟨fuel,hd⟩:=hd;obtain ⟨x,x1,x2,x3,x4⟩:=(h fuel).get enc W _ d ps hd;refine ⟨x,?_,x3,x4⟩;unfold Value.okWide at hv;rw [ht] at hv;obtain ⟨cs,rfl,h1,_⟩:=hv;rw [hc];have hx1:cs.size=T.len:=by simpa [Value.cells] using x1
 have get:∀j v,(T.el x).cells[j]? = some v->(cs.getD j undef).oneCell'=true∧Rel W g0 H0 v (cs.getD j undef):=λj v hj=>by
  obtain ⟨c,c1,c2,c3⟩:=x2 j v hj;simp only [Value.cells,Nat.zero_add,Qbg] at c1;rw [Qae,c1];exact ⟨c2,c3⟩
 exact .agg _ _ (by rw [hx1,T.hlen]) (λj v hj=>(get j v hj).1) λj v hj=>(get j v hj).2
theorem yyh {fn:Func} {s:ChangeSpec} {W W':World} {args:Array Value} {H:Type} {enc:TypeId×Value->H} {ds gs:List (DataW H)} {before:List MemPlace} {tb:Nat} {fresh handsOn:Bool}
  (hl:laidOutB P=true) (hv:s.vars=[]) (hp:∀t∈fn.params.toList,P.readableRec t=true∧t<P.types.size) (hrt:fn.resultTypes = #[tb]) (htb:P.underlying tb=some .bool)
  (hs:(s.fn H ds).results=[.lit (.bool true)]∧(s.fn H ds).args=ds∧(s.fn H ds).vars=[]) (hW:DataW.Whole enc P fn.params.toList s.vars false W args.toList ds gs before) (hg:RowKit.Below W.heap.size W W') :
  s.post enc P fn false fresh handsOn false W args (.bool true) W':=by
 have hW0:=hW;obtain ⟨p,q,hA,hV,rfl,hfz,hnd⟩:=hW;rw [hv] at hV;obtain ⟨rfl,rfl⟩:=ChangeShapes.trodVars_none hV;have hlt:=hW0.lt;simp only [List.append_nil] at hlt
 have again:∀(ts:List Nat) (vs:List Value) (ds:List (DataW H)) (p:List MemPlace),(∀t∈ts,P.readableRec t=true∧t<P.types.size)->(∀x∈p,x.block<W.heap.size)->DataW.TrodAll enc P W 0 (λ_=>true) true ts vs ds p ->
   DataW.TrodAll enc P W' 0 (λb=>decide (b<W.heap.size)) true ts vs ds p:=by
  intro ts
  induction ts with
  |nil=>intro vs ds p _ _ h;obtain ⟨rfl,rfl,rfl⟩:=ChangeShapes.trodAll_nil h;exact ChangeShapes.trodAll_mk0
  |cons t ts ih=>
   intro vs ds p h1 h2 h;obtain ⟨v,vs',d,ds',p',q',rfl,rfl,rfl,k1,k2⟩:=ChangeShapes.trodAll_cons h;exact trodAll_cons_mk (RowKit.Below.trod hl (h1 t (by simp)).1 (h1 t (by simp)).2 k1 hg λx hx=>h2 x (by simp [hx])) (ih vs' ds' q' (λt ht=>h1 t (by simp [ht])) (λx hx=>h2 x (by simp [hx])) k2)
 refine ⟨ds,[],p++[],[],p,[],hW0,?_,?_,?_,?_,λh=>by cases h⟩
 ·rw [List.append_nil,hs.1,hrt]
  have hb:∀b,DataW.TrodAll enc P W' b (λ_=>false) handsOn [tb] [.bool true] [.lit (.bool true)] []:=λb=>by
   have:=trodAll_cons_mk (P:=P) (enc:=enc) (w:=W') (base:=b) (spare:=λ_=>false) (held:=handsOn) (RowKit.shut_bool htb true) ChangeShapes.trodAll_mk0;simpa using this
  exact hb _
 ·rw [List.append_nil,hs.2.1];exact again _ _ _ _ hp hlt hA
 ·rw [List.append_nil,hs.2.2,hv];exact rfl
 ·exact hg.frame _
theorem yg1 {W W':World} {g g':Gh} {H':kz3} (h:Step W g H0 W' g' H'):RowKit.Below W.heap.size W W' :=
 ⟨h.os,h.tape,h.output,h.size,λk hk=>h.block k hk (own0 _ _)⟩
theorem ywe {f:Nat} {vargs:List V} {H':kz3} {cargs:Array Value} {W:World} (h:zw0 P f vargs H0 (.bool true) H') (hent:∀args w,(callFunc f args).run P w = .ok (.enter f args) w) (ha:zql W g0 H0 vargs cargs) (hl:zn6 W g0 H0) :
  Calls P f cargs W λe W'=>e = .returned (.bool true)∧RowKit.Below W.heap.size W W':=by
 rcases h W g0 cargs (good0 W hl) ha with ⟨_,hc⟩|⟨c,W',g',hc,_⟩
 ·refine hc.mono λe W' ⟨c,g',he,hs,_,hr⟩ => ?_
  cases hr;exact ⟨he,yg1 hs⟩
 ·rw [hent] at hc;cases hc
theorem z03l {W:World} {g:Gh} {H:kz3} {vs:List V} {cs:List Value} (h:cs.length=vs.length) (hh:∀(j:Nat) (v:V),vs[j]? = some v->∃c,cs[j]? = some c∧Rel W g H v c):zql W g H vs cs.toArray :=
 ⟨by simpa using h,λj v hj=>by obtain ⟨c,c1,c2⟩:=hh j v hj;rw [Qae];simpa [c1] using c2⟩
mutual
def V.ren (a n:Nat):V->V
 | .ptr l i off=>if l=a+1 then .ptr a (n+i) off else .ptr l i off
 | .ref cs off=>.ref (V.zt4 a n cs) off
 | .ap l i ver idx off=>if l=a+1 then .ap a (n+i) ver idx off else .ap l i ver idx off
 | .sl sz xs full=>.sl sz (V.zt4 a n xs) full
 | .hs l i ver off m full=>if l=a+1 then .hs a (n+i) ver off m full else .hs l i ver off m full
 | .map l i=>if l=a+1 then .map a (n+i) else .map l i
 | .fn f x y=>.fn f (V.zt4 a n x) (V.zt4 a n y)
 | .iface t v=>.iface t (V.ren a n v)
 | .agg cs=>.agg (V.zt4 a n cs)
 | .tup vs=>.tup (V.zt4 a n vs)
 |v=>v
def V.zt4 (a n:Nat):List V->List V
 |[]=>[]
 |v::vs=>V.ren a n v::V.zt4 a n vs
end
def zz7.ren (a n:Nat):zz7->zz7
 | .cells cs=>.cells (V.zt4 a n cs)
 | .arr ver ty sz xs cp=>.arr ver ty sz (V.zt4 a n xs) cp
 | .map es=>.map (es.map λp=>(V.ren a n p.1,V.ren a n p.2))
 | .siter s pos=>.siter s pos
 | .mit es vis=>.mit es vis
section
variable {P : Program}
structure BackX (H H':kz3) (σ:St) (v r:V):Prop where
 res:r=V.ren H.lv H.L.length v
 lv:H'.lv=H.lv
 len:H'.L.length=H.L.length+σ.H.L.length
 old:∀l i,(l<H.lv∨(l=H.lv∧i<H.L.length))->∀o',H'.get l i=some o'->∃o,σ.H.E l i=some o∧(o'=zz7.ren H.lv H.L.length o∨(o'=o∧H.get l i=some o))
 new:∀i o',H'.get H.lv (H.L.length+i)=some o'->∃o,σ.H.get (H.lv+1) i=some o∧o'=zz7.ren H.lv H.L.length o
 high:∀l i,H.lv<l->H'.E l i=H.E l i
end
end Go.Ab
namespace Go.Ab
open Go
set_option linter.unusedSimpArgs false
set_option linter.unusedVariables false
section
variable {P : Program}
structure zhg where
 ty:Nat
 sz:Nat
 v:V
 xs:List V
 w:Bool
def z003 (lv:Nat) (L:List (Option zz7)) (k:Option Nat) (a:zhg):Prop :=
 match k with
 |none=>(a.v = .nils∧a.xs=[])∨(a.v = .sl a.sz a.xs true∧(a.w=true->a.xs=[]))
 |some i=>∃ver cp,a.v = .hs lv i ver 0 a.xs.length false∧L[i]? = some (some (.arr ver a.ty a.sz a.xs cp))
def zje (lv:Nat) (L:List (Option zz7)) (as:List zhg) (os:List (Nat×zz7)):Prop :=
 ∃ks:List (Option Nat),ks.length=as.length∧(∀(j:Nat) (k:Option Nat) (a:zhg),ks[j]? = some k->as[j]? = some a->z003 lv L k a) ∧
  (∀(i j:Nat) (n:Nat),ks[i]? = some (some n)->ks[j]? = some (some n)->i=j)∧(∀p∈os,L[p.1]? = some (some p.2)∧∀j:Nat,ks[j]? ≠ some (some p.1))
theorem z003.lt {lv:Nat} {L:List (Option zz7)} {i:Nat} {a:zhg} (h:z003 lv L (some i) a):i<L.length:=by
 obtain ⟨ver,cp,_,h⟩:=h;exact (Qaa.1 h).1
theorem zje.nil (lv:Nat) (L:List (Option zz7)):zje lv L [] []:=⟨[],rfl,by simp,by simp,by simp⟩
theorem zje.cons {lv:Nat} {L:List (Option zz7)} {as:List zhg} {os:List (Nat×zz7)} (h:zje lv L as os) (ty sz:Nat) (w:Bool):zje lv L (⟨ty,sz,.nils,[],w⟩::as) os:=by
 obtain ⟨ks,h1,h2,h3,h4⟩:=h;refine ⟨none::ks,by simp [h1],λj k a hk ha => ?_,λi j n hi hj => ?_,λp hp=>⟨(h4 p hp).1,λj hj => ?_⟩⟩
 ·cases j with
  |zero=>simp at hk ha;subst hk;subst ha;exact .inl ⟨rfl,rfl⟩
  |succ j=>exact h2 j k a (by simpa using hk) (by simpa using ha)
 ·cases i with
  |zero=>simp at hi
  |succ i=>cases j with
   |zero=>simp at hj
   |succ j=>rw [h3 i j n (by simpa using hi) (by simpa using hj)]
 ·cases j with
  |zero=>simp at hj
  |succ j=>exact (h4 p hp).2 j (by simpa using hj)
theorem zje.grow {lv:Nat} {L:List (Option zz7)} {as:List zhg} {os:List (Nat×zz7)} (h:zje lv L as os) (x:Option zz7):zje lv (L++[x]) as os:=by
 obtain ⟨ks,h1,h2,h3,h4⟩:=h;refine ⟨ks,h1,λj k a hk ha => ?_,h3,λp hp=>⟨?_,(h4 p hp).2⟩⟩
 ·have:=h2 j k a hk ha
  cases k with
  |none=>exact this
  |some i=>obtain ⟨ver,cp,q1,q2⟩:=this;exact ⟨ver,cp,q1,by rw [Qal (Qaa.1 q2).1];exact q2⟩
 ·rw [Qal (Qaa.1 (h4 p hp).1).1];exact (h4 p hp).1
theorem zje.obj {lv:Nat} {L:List (Option zz7)} {as:List zhg} {os:List (Nat×zz7)} (h:zje lv L as os) (o:zz7):zje lv (L++[some o]) as ((L.length,o)::os):=by
 obtain ⟨ks,h1,h2,h3,h4⟩:=h;refine ⟨ks,h1,λj k a hk ha => ?_,h3,λp hp => ?_⟩
 ·have:=h2 j k a hk ha
  cases k with
  |none=>exact this
  |some i=>obtain ⟨ver,cp,q1,q2⟩:=this;exact ⟨ver,cp,q1,by rw [Qal (Qaa.1 q2).1];exact q2⟩
 ·rcases Qbi.1 hp with rfl|hp
  ·refine ⟨by simp,λj hj => ?_⟩;have hl:=(Qaa.1 hj).1;have ha:as[j]? = some (as[j]'(by omega)):=Qab _;have:=(h2 j _ _ hj ha).lt;simp at this
  ·exact ⟨by rw [Qal (Qaa.1 (h4 p hp).1).1];exact (h4 p hp).1,(h4 p hp).2⟩
theorem zje.get {lv:Nat} {L:List (Option zz7)} {as:List zhg} {os:List (Nat×zz7)} (h:zje lv L as os) {i:Nat} {o:zz7} (hm:(i,o)∈os):L[i]? = some (some o):=by
 obtain ⟨ks,h1,h2,h3,h4⟩:=h;exact (h4 _ hm).1
theorem zje.sub {lv:Nat} {L:List (Option zz7)} {as:List zhg} {os os':List (Nat×zz7)} (h:zje lv L as os) (hs:∀p∈os',p∈os):zje lv L as os':=by
 obtain ⟨ks,h1,h2,h3,h4⟩:=h;exact ⟨ks,h1,h2,h3,λp hp=>h4 p (hs p hp)⟩
theorem zje.setObj {lv:Nat} {L:List (Option zz7)} {as:List zhg} {os:List (Nat×zz7)} (h:zje lv L as os) {i:Nat} {o:zz7} (hm:(i,o)∈os) (o':zz7):zje lv (L.set i (some o')) as (os.map λp=>if p.1=i then (i,o') else p):=by
 obtain ⟨ks,h1,h2,h3,h4⟩:=h;have hi:=(Qaa.1 (h4 _ hm).1).1;refine ⟨ks,h1,λj k a hk ha => ?_,h3,λp hp => ?_⟩
 ·have:=h2 j k a hk ha
  cases k with
  |none=>exact this
  |some n=>
   obtain ⟨ver,cp,q1,q2⟩:=this;refine ⟨ver,cp,q1,?_⟩;have:n≠i:=λhe=>(h4 _ hm).2 j (by rw [hk,he])
   rw [Qam (Ne.symm this)];exact q2
 ·rw [Qbf] at hp;obtain ⟨q,hq,rfl⟩:=hp;split
  ·rename_i he;refine ⟨by simp [hi],λj hj => ?_⟩;exact (h4 q hq).2 j (by rw [hj,he])
  ·rename_i he;exact ⟨by rw [Qam (λh=>he h.symm)];exact (h4 q hq).1,(h4 q hq).2⟩
theorem zje.push {lv:Nat} {L:List (Option zz7)} {as:List zhg} {os:List (Nat×zz7)} (h:zje lv L as os) {j:Nat} {ty sz:Nat} {v:V} {xs:List V} {w:Bool} (hj:as[j]? = some ⟨ty,sz,v,xs,w⟩) (ys:List V) (hr:xs.length+ys.length<=zgh) (E:Nat->Nat->Option zz7) :
  ∃v' L',z3c ⟨lv,L,E⟩ ty sz v ys=some (v',⟨lv,L',E⟩)∧zje lv L' (as.set j ⟨ty,sz,v',xs++ys,w⟩) os:=by
 obtain ⟨ks,h1,h2,h3,h4⟩:=h;have hjl:=(Qaa.1 hj).1;have hk:ks[j]? = some (ks[j]'(by omega)):=Qab _;generalize ks[j]'(by omega)=k at hk;have hA:=h2 j k _ hk hj
 have hset:∀(i:Nat) (a:zhg) (b:zhg),(as.set j b)[i]? = some a->(i=j∧a=b)∨(i≠j∧as[i]? = some a):=λi a b hi=>by
  by_cases he:i=j
  ·subst he;rw [Qaq (by omega)] at hi;injection hi with hi;exact .inl ⟨rfl,hi.symm⟩
  ·rw [Qam (Ne.symm he)] at hi;exact .inr ⟨he,hi⟩
 cases k with
 |none=>
  cases ys with
  |nil=>
   rcases hA with ⟨hv,hx⟩|hv
   · simp only at hv hx;subst hv;subst hx;refine ⟨.nils,L,rfl,ks,by simp [h1],λi k a hk' ha => ?_,h3,h4⟩
     rcases hset i a _ ha with ⟨rfl,rfl⟩|⟨_,ha⟩
     · rw [hk] at hk';injection hk' with hk';subst hk';exact .inl ⟨rfl,rfl⟩
     · exact h2 i k a hk' ha
   · obtain ⟨hv,hw⟩:=hv;simp only at hv hw;subst hv;refine ⟨.sl sz xs true,L,by simp [z3c],ks,by simp [h1],λi k a hk' ha => ?_,h3,h4⟩
     rcases hset i a _ ha with ⟨rfl,rfl⟩|⟨_,ha⟩
     · rw [hk] at hk';injection hk' with hk';subst hk';exact .inr ⟨by simp,by simpa using hw⟩
     · exact h2 i k a hk' ha
  |cons y r=>
   have happ:z3c ⟨lv,L,E⟩ ty sz v (y::r)=some (.hs lv L.length 0 0 (xs.length+(y::r).length) false,⟨lv,L++[some (.arr 0 ty sz (xs++y::r) none)],E⟩):=by
    rcases hA with ⟨hv,hx⟩|hv
    · simp only at hv hx;subst hv;subst hx;simp only [z3c,kz3.push];rw [Qbt (by simpa using hr)];simp
    · obtain ⟨hv,hw⟩:=hv;simp only at hv hw;subst hv;simp only [z3c,kz3.push,if_true];rw [Qbt (by simpa using hr)]
   refine ⟨_,_,happ,ks.set j (some L.length),by simp [h1],λi k a hk' ha => ?_,λi i' n hi hi' => ?_,λp hp=>⟨?_,λi hi => ?_⟩⟩
   · rcases hset i a _ ha with ⟨rfl,rfl⟩|⟨hne,ha⟩
     · rw [Qaq (by omega)] at hk';injection hk' with hk';subst hk'
       exact ⟨0,none,by simp,by simp⟩
     · rw [Qam (Ne.symm hne)] at hk';have:=h2 i k a hk' ha
       cases k with
       |none=>exact this
       |some n=>obtain ⟨ver,cp,q1,q2⟩:=this;exact ⟨ver,cp,q1,by rw [Qal (Qaa.1 q2).1];exact q2⟩
   · have low:∀i n,i≠j->(ks.set j (some L.length))[i]? = some (some n)->n<L.length:=λi n hne hi=>by
      rw [Qam (Ne.symm hne)] at hi;have hl:=(Qaa.1 hi).1;exact (h2 i _ (as[i]'(by omega)) hi (Qab _)).lt
     by_cases e1:i=j <;> by_cases e2:i'=j
     · rw [e1,e2]
     · subst e1;rw [Qaq (by omega)] at hi;injection hi with hi;injection hi with hi
       have:=low i' n e2 hi';omega
     · subst e2;rw [Qaq (by omega)] at hi';injection hi' with hi';injection hi' with hi'
       have:=low i n e1 hi;omega
     · rw [Qam (Ne.symm e1)] at hi;rw [Qam (Ne.symm e2)] at hi';exact h3 i i' n hi hi'
   · rw [Qal (Qaa.1 (h4 p hp).1).1];exact (h4 p hp).1
   · have hlt:=(Qaa.1 (h4 p hp).1).1;by_cases e1:i=j
     · subst e1;rw [Qaq (by omega)] at hi;injection hi with hi;injection hi with hi;omega
     · rw [Qam (Ne.symm e1)] at hi;exact (h4 p hp).2 i hi
 |some n=>
  obtain ⟨ver,cp,hv,hL⟩:=hA;simp only at hv hL;subst hv;have hn:=(Qaa.1 hL).1;refine ⟨.hs lv n (ver+1) 0 (xs.length+ys.length) false,L.set n (some (.arr (ver+1) ty sz (xs++ys) none)),?_,ks,by simp [h1],λi k a hk' ha => ?_,h3,λp hp=>⟨?_,(h4 p hp).2⟩⟩
  · simp only [z3c,kz3.get,kz3.set,if_true,hL,Option.join_some];rw [Qbt (by simpa using hr)]
  · rcases hset i a _ ha with ⟨rfl,rfl⟩|⟨hne,ha⟩
    · rw [hk] at hk';injection hk' with hk';subst hk'
      exact ⟨ver+1,none,by simp,by simp [hn]⟩
    · have:=h2 i k a hk' ha
      cases k with
      |none=>exact this
      |some n'=>
       obtain ⟨ver',cp',q1,q2⟩:=this;refine ⟨ver',cp',q1,?_⟩;have:n'≠n:=λhe=>hne (h3 i j n (by rw [hk',he]) hk)
       rw [Qam (Ne.symm this)];exact q2
  · have hlt:=(Qaa.1 (h4 p hp).1).1;have:p.1≠n:=λhe=>(h4 p hp).2 j (by rw [hk,he])
    rw [Qam (Ne.symm this)];exact (h4 p hp).1
theorem z47 {D:Nat->Nat->Prop} {α:Type} {f:α->V} {l:List α} (h:∀x∈l,V.kin D (f x)):V.zc3 D (l.map f) :=
 zdd λv hv=>by obtain ⟨y,hy,rfl⟩:=Qbf.1 hv;exact h y hy
end
section
variable {P : Program}
end
def ix {α:Type} (l:List α) (i:Int):Option α:=if 0<=i then l[i.toNat]? else none
def sub {α:Type} (l:List α) (lo hi:Int):Option (List α):=if 0<=lo∧lo<=hi∧hi<=l.length then some ((l.take hi.toNat).drop lo.toNat) else none
def cat (x y:List UInt8):Option (List UInt8):=if x.length+y.length<=maxLen then some (x++y) else none
def ext {α:Type} (x y:List α):Option (List α):=if x.length+y.length<=zgh then some (x++y) else none
def z84 {T:Type} (m:List (List UInt8×T)) (k:List UInt8):Option T:=(m.find? λp=>k==p.1).map (·.2)
def zd5 {T:Type} (m:List (List UInt8×T)) (k:List UInt8) (x:T):List (List UInt8×T):=match m.findIdx? (λp=>k==p.1) with|none=>m++[(k,x)]|some j=>m.set j (k,x)
def quo (k:IntKind) (x y:Int):Option Int:=if y=0 then none else some (k.wrap (x.tdiv y))
def rem (k:IntKind) (x y:Int):Option Int:=if y=0 then none else some (x.tmod y)
theorem zjw {α:Type} {l:List α} {i:Int} {x:α} (h:ix l i=some x):0<=i∧l[i.toNat]? = some x:=by
 unfold ix at h;split at h
 ·exact ⟨‹_›,h⟩
 ·cases h
theorem yqy {α:Type} {l y:List α} {lo hi:Int} (h:sub l lo hi=some y):0<=lo∧lo<=hi∧hi<=l.length∧y=(l.take hi.toNat).drop lo.toNat∧0<=hi∧lo<=(hi.toNat:Int):=by
 unfold sub at h;split at h
 ·rename_i q;injection h with h;exact ⟨q.1,q.2.1,q.2.2,h.symm,by omega,by omega⟩
 ·cases h
theorem z00t {x y z:List UInt8} (h:cat x y=some z):x.length+y.length<=maxLen∧z=x++y:=by
 unfold cat at h;split at h
 ·injection h with h;exact ⟨‹_›,h.symm⟩
 ·cases h
theorem y09 {α:Type} {x y z:List α} (h:ext x y=some z):x.length+y.length<=zgh∧z=x++y:=by
 unfold ext at h;split at h
 ·injection h with h;exact ⟨‹_›,h.symm⟩
 ·cases h
theorem yye {k:IntKind} {x y z:Int} (h:quo k x y=some z):y≠0∧z=k.wrap (x.tdiv y):=by
 unfold quo at h;split at h
 ·cases h
 ·injection h with h;exact ⟨‹_›,h.symm⟩
theorem z01l {k:IntKind} {x y z:Int} (h:rem k x y=some z):y≠0∧z=x.tmod y:=by
 unfold rem at h;split at h
 ·cases h
 ·injection h with h;exact ⟨‹_›,h.symm⟩
theorem y2a {α:Type} {o:Option α} {β:Type} {f:α->Option β} {r:β} (h:o.bind f=some r):∃x,o=some x∧f x=some r:=by
 cases o with
 |none=>cases h
 |some x=>exact ⟨x,rfl,h⟩
def an:Nat->List V->List V
 |0,l=>l
 |n+1,l=>.any::an n l
structure zb7 (lv:Nat) (L:List (Option zz7)) (as:List zhg) (os:List (Nat×zz7)):Prop where
 accs:zje lv L as os
 nodup:(os.map (·.1)).Nodup
theorem zb7.nil (lv:Nat):zb7 lv [] [] []:=⟨zje.nil _ _,by simp⟩
theorem zb7.get {lv:Nat} {L:List (Option zz7)} {as:List zhg} {os:List (Nat×zz7)} (h:zb7 lv L as os) {k i:Nat} {o:zz7} (hk:os[k]? = some (i,o)):L[i]? = some (some o) :=
 h.accs.get (Qax hk)
theorem zb7.obj {lv:Nat} {L:List (Option zz7)} {as:List zhg} {os:List (Nat×zz7)} (h:zb7 lv L as os) (o:zz7):zb7 lv (L++[some o]) as ((L.length,o)::os):=by
 refine ⟨h.accs.obj o,?_⟩;rw [List.map_cons,List.nodup_cons];refine ⟨λha => ?_,h.nodup⟩;obtain ⟨p,hp,hq⟩:=Qbf.1 ha;have:=(Qaa.1 (h.accs.get (show (p.1,p.2)∈os from hp))).1;omega
theorem zb7.upd {lv:Nat} {L:List (Option zz7)} {as:List zhg} {os:List (Nat×zz7)} (h:zb7 lv L as os) {k i:Nat} {o:zz7} (hk:os[k]? = some (i,o)) (o':zz7):zb7 lv (L.set i (some o')) as (os.set k (i,o')):=by
 have hm:=Qax hk
 have hmap:os.map (λp=>if p.1=i then (i,o') else p)=os.set k (i,o'):=by
  apply List.ext_getElem?;intro j;rw [Qan,Qbh];by_cases hj:k=j
  ·subst hj;rw [Qbt rfl,hk,Qbt (Qaa.1 hk).1];simp
  ·rw [Qbu hj]
   cases hq:os[j]? with
   |none=>rfl
   |some p=>
    simp only [Qbn];rw [Qbu];intro he;have h1:(os.map (·.1))[j]? = some i:=by rw [Qan,hq];simp [he]
    have h2:(os.map (·.1))[k]? = some i:=by rw [Qan,hk];rfl
    have hlt:=(Qaa.1 h1).1;exact hj (((List.getElem?_inj hlt h.nodup).1 (h1.trans h2.symm)).symm)
 refine ⟨?_,?_⟩
 ·rw [<-hmap];exact h.accs.setObj hm o'
 ·have:(os.set k (i,o')).map (·.1)=os.map (·.1):=by
   rw [List.map_set];apply List.ext_getElem?;intro j;rw [Qbh];split
   ·rename_i hj;subst hj;have h2:(os.map (·.1))[k]? = some i:=by rw [Qan,hk];rfl
    rw [Qbt (Qaa.1 h2).1,h2]
   ·rfl
  rw [this];exact h.nodup
theorem zb7.pick {lv:Nat} {L:List (Option zz7)} {as:List zhg} {os os':List (Nat×zz7)} (h:zb7 lv L as os) (hs:os'.Sublist os):zb7 lv L as os' :=
 ⟨h.accs.sub λp hp=>hs.subset hp,h.nodup.sublist (hs.map _)⟩
theorem zb7.cons {lv:Nat} {L:List (Option zz7)} {as:List zhg} {os:List (Nat×zz7)} (h:zb7 lv L as os) (ty sz:Nat) (w:Bool):zb7 lv L (⟨ty,sz,.nils,[],w⟩::as) os:=⟨h.accs.cons ty sz w,h.nodup⟩
theorem zb7.push {lv:Nat} {L:List (Option zz7)} {as:List zhg} {os:List (Nat×zz7)} (h:zb7 lv L as os) {j:Nat} {ty sz:Nat} {v:V} {xs:List V} {w:Bool} (hj:as[j]? = some ⟨ty,sz,v,xs,w⟩) (ys:List V) (hr:xs.length+ys.length<=zgh) (E:Nat->Nat->Option zz7) :
  ∃v' L',z3c ⟨lv,L,E⟩ ty sz v ys=some (v',⟨lv,L',E⟩)∧zb7 lv L' (as.set j ⟨ty,sz,v',xs++ys,w⟩) os:=by
 obtain ⟨v',L',h1,h2⟩:=h.accs.push hj ys hr E;exact ⟨v',L',h1,h2,h.nodup⟩
theorem zb7.form {lv:Nat} {L:List (Option zz7)} {as:List zhg} {os:List (Nat×zz7)} (h:zb7 lv L as os) {j:Nat} {ty sz:Nat} {v:V} {xs:List V} {w:Bool} (hj:as[j]? = some ⟨ty,sz,v,xs,w⟩) :
  (v = .nils∧xs=[])∨(v = .sl sz xs true∧(w=true->xs=[]))∨∃i ver cp,v = .hs lv i ver 0 xs.length false∧L[i]? = some (some (.arr ver ty sz xs cp)):=by
 obtain ⟨ks,h1,h2,h3,h4⟩:=h.accs;have hjl:=(Qaa.1 hj).1;have hk:ks[j]? = some (ks[j]'(by omega)):=Qab _;generalize ks[j]'(by omega)=k at hk;have hA:=h2 j k _ hk hj
 cases k with
 |none=>rcases hA with hA|hA
        · exact .inl hA
        · exact .inr (.inl hA)
 |some n=>obtain ⟨ver,cp,q1,q2⟩:=hA;exact .inr (.inr ⟨n,ver,cp,q1,q2⟩)
theorem zb7.len {P:Program} {lv:Nat} {L:List (Option zz7)} {as:List zhg} {os:List (Nat×zz7)} (h:zb7 lv L as os) {j:Nat} {ty sz:Nat} {v:V} {xs:List V} {w:Bool} (hj:as[j]? = some ⟨ty,sz,v,xs,w⟩) {t e:Nat} (ht:P.underlying t=some (.slice e)) (E:Nat->Nat->Option zz7) :
  zpd P ⟨lv,L,E⟩ t v=some (.int .i64 xs.length):=by
 rcases h.form hj with ⟨rfl,rfl⟩|⟨rfl,hw⟩|⟨i,ver,cp,rfl,hL⟩
 ·simp [zpd,ht]
 ·simp [zpd,ht]
 ·simp [zpd,ht,kz3.get,hL]
theorem zb7.at {P:Program} {lv:Nat} {L:List (Option zz7)} {as:List zhg} {os:List (Nat×zz7)} (h:zb7 lv L as os) {j:Nat} {ty sz:Nat} {v:V} {xs:List V} {w:Bool} (hj:as[j]? = some ⟨ty,sz,v,xs,w⟩) {t e:Nat} (ht:P.underlying t=some (.slice e))
  (hz:sz=P.cellsOf e) (he:(P.underlying e).isSome=true) {i:Int} {x:V} (h0:0<=i) (hx:xs[i.toNat]? = some x) (E:Nat->Nat->Option zz7) :
  ∃q:Nat->V,kzq P ⟨lv,L,E⟩ t v (.int .i64 i)=some (q 0)∧(∀s f o off,zq5 P s f=some o->zan P s f (q off)=some (q (off+o)))∧∀t' off,zcl P ⟨lv,L,E⟩ t' (q off)=rd P t' x.cells off:=by
 have hlt:=(Qaa.1 hx).1
 rcases h.form hj with ⟨rfl,rfl⟩|⟨rfl,hw⟩|⟨k,ver,cp,rfl,hL⟩
 ·simp at hx
 ·exact ⟨λo=>.ref x.cells o,by simp [kzq,ht,h0,hz,he,hx],λs f o off hf=>by simp [zan,hf],λt' off=>by simp [zcl]⟩
 ·refine ⟨λo=>.ap lv k ver i.toNat o,?_,λs f o off hf=>by simp [zan,hf],λt' off=>by simp [zcl,zvl,kz3.get,hL,hx]⟩;simp [kzq,ht,h0,hz,he,kz3.get,hL];omega
theorem zje.setAt {lv:Nat} {L:List (Option zz7)} {as:List zhg} {os:List (Nat×zz7)} (h:zje lv L as os) {j n ver:Nat} {a:zhg} {cp:Option Nat} (hj:as[j]? = some a) (hv:a.v = .hs lv n ver 0 a.xs.length false) (hL:L[n]? = some (some (.arr ver a.ty a.sz a.xs cp))) (hn:a.xs≠[]) {ys:List V} (hys:ys.length=a.xs.length) :
  zje lv (L.set n (some (.arr ver a.ty a.sz ys cp))) (as.set j ⟨a.ty,a.sz,a.v,ys,a.w⟩) os:=by
 obtain ⟨ks,h1,h2,h3,h4⟩:=h;have hjl:=(Qaa.1 hj).1;have hnl:=(Qaa.1 hL).1;have hkj:ks[j]? = some (ks[j]'(by omega)):=Qab _;generalize ks[j]'(by omega)=k at hkj
 have hk:ks[j]? = some (some n):=by
  have hA:=h2 j k _ hkj hj
  cases k with
  |none=>rcases hA with ⟨h,_⟩|⟨h,_⟩ <;> rw [hv] at h <;> cases h
  |some m=>
   obtain ⟨ver',cp',q1,_⟩:=hA
   rw [hv] at q1;injection q1 with _ q1;subst q1;exact hkj
 refine ⟨ks,by simp [h1],λi k a' hki ha => ?_,h3,λp hp=>⟨?_,(h4 p hp).2⟩⟩
 ·by_cases he:i=j
  ·subst he;rw [Qaq (by omega)] at ha;injection ha with ha;subst ha
   rw [hk] at hki;injection hki with hki;subst hki
   exact ⟨ver,cp,by rw [hv,hys],by rw [Qaq hnl]⟩
  ·rw [Qam (Ne.symm he)] at ha;have hA:=h2 i k a' hki ha
   cases k with
   |none=>exact hA
   |some m=>
    obtain ⟨ver',cp',q1,q2⟩:=hA;have:m≠n:=λhh=>he (h3 i j n (by rw [hki,hh]) hk)
    exact ⟨ver',cp',q1,by rw [Qam (Ne.symm this)];exact q2⟩
 ·have:p.1≠n:=λhe=>(h4 p hp).2 j (by rw [hk,he])
  rw [Qam (Ne.symm this)];exact (h4 p hp).1
theorem zb7.put {P:Program} {lv:Nat} {L:List (Option zz7)} {as:List zhg} {os:List (Nat×zz7)} (h:zb7 lv L as os) {j:Nat} {ty sz:Nat} {v:V} {xs:List V} (hj:as[j]? = some ⟨ty,sz,v,xs,true⟩) {t e:Nat} (ht:P.underlying t=some (.slice e))
  (hz:sz=P.cellsOf e) (he:(P.underlying e).isSome=true) {i:Int} {x:V} (h0:0<=i) (hx:xs[i.toNat]? = some x) (E:Nat->Nat->Option zz7) :
  ∃q:Nat->V,kzq P ⟨lv,L,E⟩ t v (.int .i64 i)=some (q 0)∧(∀s f o off,zq5 P s f=some o->zan P s f (q off)=some (q (off+o)))∧(∀t' off,zcl P ⟨lv,L,E⟩ t' (q off)=rd P t' x.cells off) ∧
   ∀(t' off:Nat) (y:V),y.zzn=true->(P.info? t').isSome=true->y.cells.length=P.cellsOf t'->off+y.cells.length<=x.cells.length->fits x (zzw x.cells off y.cells)=true ->
    ∃L',zff P ⟨lv,L,E⟩ t' (q off) y=some (.any,⟨lv,L',E⟩)∧zb7 lv L' (as.set j ⟨ty,sz,v,xs.set i.toNat (z9h x (zzw x.cells off y.cells)),true⟩) os:=by
 have hlt:=(Qaa.1 hx).1;have hne:xs≠[]:=λhh=>by subst hh;simp at hx
 rcases h.form hj with ⟨rfl,rfl⟩|⟨rfl,hw⟩|⟨k,ver,cp,rfl,hL⟩
 ·simp at hx
 ·exact (hne (hw rfl)).elim
 ·refine ⟨λo=>.ap lv k ver i.toNat o,?_,λs f o off hf=>by simp [zan,hf],λt' off=>by simp [zcl,zvl,kz3.get,hL,hx],λt' off y y1 y2 y3 y4 y5 => ?_⟩
  ·simp [kzq,ht,h0,hz,he,kz3.get,hL];omega
  ·refine ⟨L.set k (some (.arr ver ty sz (xs.set i.toNat (z9h x (zzw x.cells off y.cells))) cp)),?_,h.accs.setAt hj rfl hL hne (by simp),h.nodup⟩;simp [zff,y1,y2,y3,kz3.get,hL,hx,kz3.set];rw [y3] at y4;exact ⟨y4,y5⟩
theorem zb7.arr {lv:Nat} {L:List (Option zz7)} {as:List zhg} {os:List (Nat×zz7)} (h:zb7 lv L as os) (ver ty sz:Nat) (xs:List V) (cp:Option Nat) (w:Bool) :
  zb7 lv (L++[some (.arr ver ty sz xs cp)]) (⟨ty,sz,.hs lv L.length ver 0 xs.length false,xs,w⟩::as) os:=by
 obtain ⟨⟨ks,h1,h2,h3,h4⟩,h5⟩:=h
 have low:∀(i n:Nat),ks[i]? = some (some n)->n<L.length:=λi n hi=>by
  have hl:=(Qaa.1 hi).1;exact (h2 i _ (as[i]'(by omega)) hi (Qab _)).lt
 refine ⟨⟨some L.length::ks,by simp [h1],λi k a hk ha => ?_,λi i' n hi hi' => ?_,λp hp=>⟨?_,λi hi => ?_⟩⟩,h5⟩
 ·cases i with
  |zero=>simp at hk ha;subst hk;subst ha;exact ⟨ver,cp,rfl,by simp⟩
  |succ i=>
   have hA:=h2 i k a (by simpa using hk) (by simpa using ha)
   cases k with
   |none=>exact hA
   |some n=>obtain ⟨ver',cp',q1,q2⟩:=hA;exact ⟨ver',cp',q1,by rw [Qal (Qaa.1 q2).1];exact q2⟩
 ·cases i with
  |zero=>cases i' with
   |zero=>rfl
   |succ i'=>simp at hi;subst hi;have:=low i' _ (by simpa using hi');omega
  |succ i=>cases i' with
   |zero=>simp at hi';subst hi';have:=low i _ (by simpa using hi);omega
   |succ i'=>rw [h3 i i' n (by simpa using hi) (by simpa using hi')]
 ·rw [Qal (Qaa.1 (h4 p hp).1).1];exact (h4 p hp).1
 ·have hlt:=(Qaa.1 (h4 p hp).1).1
  cases i with
  |zero=>simp at hi;omega
  |succ i=>exact (h4 p hp).2 i (by simpa using hi)
@[simp] theorem vc_any:V.cells V.any=[V.any]:=rfl
@[simp] theorem vl_any:V.leaf V.any=false:=rfl
@[simp] theorem vso_any:V.zzn V.any=false:=rfl
@[simp] theorem vc_bool (b:Bool):V.cells (V.bool b)=[(V.bool b)]:=rfl
@[simp] theorem vl_bool (b:Bool):V.leaf (V.bool b)=true:=rfl
@[simp] theorem vso_bool (b:Bool):V.zzn (V.bool b)=true:=rfl
@[simp] theorem vc_int (k:IntKind) (n:Int):V.cells (V.int k n)=[(V.int k n)]:=rfl
@[simp] theorem vl_int (k:IntKind) (n:Int):V.leaf (V.int k n)=true:=rfl
@[simp] theorem vso_int (k:IntKind) (n:Int):V.zzn (V.int k n)=true:=rfl
@[simp] theorem vc_str (s:List UInt8):V.cells (V.str s)=[(V.str s)]:=rfl
@[simp] theorem vl_str (s:List UInt8):V.leaf (V.str s)=true:=rfl
@[simp] theorem vso_str (s:List UInt8):V.zzn (V.str s)=true:=rfl
@[simp] theorem vc_nilp:V.cells V.nilp=[V.nilp]:=rfl
@[simp] theorem vl_nilp:V.leaf V.nilp=true:=rfl
@[simp] theorem vso_nilp:V.zzn V.nilp=true:=rfl
@[simp] theorem vc_ptr (l i o:Nat):V.cells (V.ptr l i o)=[(V.ptr l i o)]:=rfl
@[simp] theorem vl_ptr (l i o:Nat):V.leaf (V.ptr l i o)=true:=rfl
@[simp] theorem vso_ptr (l i o:Nat):V.zzn (V.ptr l i o)=true:=rfl
@[simp] theorem vc_ref (cs:List V) (o:Nat):V.cells (V.ref cs o)=[(V.ref cs o)]:=rfl
@[simp] theorem vl_ref (cs:List V) (o:Nat):V.leaf (V.ref cs o)=true:=rfl
@[simp] theorem vso_ref (cs:List V) (o:Nat):V.zzn (V.ref cs o)=true:=rfl
@[simp] theorem vc_ap (l i v x o:Nat):V.cells (V.ap l i v x o)=[(V.ap l i v x o)]:=rfl
@[simp] theorem vl_ap (l i v x o:Nat):V.leaf (V.ap l i v x o)=true:=rfl
@[simp] theorem vso_ap (l i v x o:Nat):V.zzn (V.ap l i v x o)=true:=rfl
@[simp] theorem vc_nils:V.cells V.nils=[V.nils]:=rfl
@[simp] theorem vl_nils:V.leaf V.nils=true:=rfl
@[simp] theorem vso_nils:V.zzn V.nils=true:=rfl
@[simp] theorem vc_sl (z:Nat) (xs:List V) (f:Bool):V.cells (V.sl z xs f)=[(V.sl z xs f)]:=rfl
@[simp] theorem vl_sl (z:Nat) (xs:List V) (f:Bool):V.leaf (V.sl z xs f)=true:=rfl
@[simp] theorem vso_sl (z:Nat) (xs:List V) (f:Bool):V.zzn (V.sl z xs f)=true:=rfl
@[simp] theorem vc_hs (l i v o n:Nat) (f:Bool):V.cells (V.hs l i v o n f)=[(V.hs l i v o n f)]:=rfl
@[simp] theorem vl_hs (l i v o n:Nat) (f:Bool):V.leaf (V.hs l i v o n f)=true:=rfl
@[simp] theorem vso_hs (l i v o n:Nat) (f:Bool):V.zzn (V.hs l i v o n f)=true:=rfl
@[simp] theorem vc_mapn:V.cells V.mapn=[V.mapn]:=rfl
@[simp] theorem vl_mapn:V.leaf V.mapn=true:=rfl
@[simp] theorem vso_mapn:V.zzn V.mapn=true:=rfl
@[simp] theorem vc_map (l i:Nat):V.cells (V.map l i)=[(V.map l i)]:=rfl
@[simp] theorem vl_map (l i:Nat):V.leaf (V.map l i)=true:=rfl
@[simp] theorem vso_map (l i:Nat):V.zzn (V.map l i)=true:=rfl
@[simp] theorem vc_fn (f:Nat) (a b:List V):V.cells (V.fn f a b)=[(V.fn f a b)]:=rfl
@[simp] theorem vl_fn (f:Nat) (a b:List V):V.leaf (V.fn f a b)=true:=rfl
@[simp] theorem vso_fn (f:Nat) (a b:List V):V.zzn (V.fn f a b)=true:=rfl
@[simp] theorem vc_nilf:V.cells V.nilf=[V.nilf]:=rfl
@[simp] theorem vl_nilf:V.leaf V.nilf=true:=rfl
@[simp] theorem vso_nilf:V.zzn V.nilf=true:=rfl
@[simp] theorem vc_iface (t:Nat) (v:V):V.cells (V.iface t v)=[(V.iface t v)]:=rfl
@[simp] theorem vl_iface (t:Nat) (v:V):V.leaf (V.iface t v)=true:=rfl
@[simp] theorem z04u (t:Nat) (v:V):V.zzn (V.iface t v)=true:=rfl
@[simp] theorem vc_nili:V.cells V.nili=[V.nili]:=rfl
@[simp] theorem vl_nili:V.leaf V.nili=true:=rfl
@[simp] theorem vso_nili:V.zzn V.nili=true:=rfl
@[simp] theorem vc_agg (cs:List V):V.cells (V.agg cs)=cs:=rfl
@[simp] theorem vl_agg (cs:List V):V.leaf (V.agg cs)=false:=rfl
@[simp] theorem vso_agg (cs:List V):V.zzn (V.agg cs)=true:=rfl
@[simp] theorem vc_tup (vs:List V):V.cells (V.tup vs)=[(V.tup vs)]:=rfl
@[simp] theorem vl_tup (vs:List V):V.leaf (V.tup vs)=false:=rfl
@[simp] theorem vso_tup (vs:List V):V.zzn (V.tup vs)=false:=rfl
section
variable {P : Program} {H : kz3}
@[simp] theorem z04t (t:Nat) (cs:List V) (o:Nat):zcl P H t (.ref cs o)=rd P t cs o:=rfl
@[simp] theorem yxf (t l i o:Nat):zcl P H t (.ptr l i o)=match H.get l i with|some (.cells cs)=>rd P t cs o|_=>none:=rfl
@[simp] theorem y7g (t l i v x o:Nat):zcl P H t (.ap l i v x o)=(zvl H l i v x).bind λp=>rd P t p.2 o:=rfl
@[simp] theorem z00l (t:Nat) (s:List UInt8):zpd P H t (.str s)=match P.underlying t with|some .string=>some (.int .i64 s.length)|_=>none:=rfl
@[simp] theorem zud (t:Nat):zpd P H t .nils=match P.underlying t with|some (.slice _)=>some (.int .i64 0)|_=>none:=rfl
@[simp] theorem ylf (t z:Nat) (xs:List V) (b:Bool):zpd P H t (.sl z xs b)=match P.underlying t with|some (.slice _)=>some (.int .i64 xs.length)|_=>none:=rfl
@[simp] theorem z04v (t:Nat):zpd P H t .mapn=match P.underlying t with|some (.map _ _)=>some (.int .i64 0)|_=>none:=rfl
@[simp] theorem z00b (t:Nat) (cs:List V):zpd P H t (.agg cs)=match P.underlying t with|some (.array n _)=>some (.int .i64 n)|_=>none:=rfl
@[simp] theorem zvw (t z:Nat) (xs:List V) (b:Bool) (k:IntKind) (n:Int):kzq P H t (.sl z xs b) (.int k n)=if 0<=n then match P.underlying t with
   |some (.slice e)=>if z=P.cellsOf e∧(P.underlying e).isSome then (xs[n.toNat]?).map λy=>.ref y.cells 0 else none
   |some (.array len e)=>if n<len∧(P.underlying e).isSome then none else none
   |_=>none else none:=by unfold kzq;rfl
end
section
variable {P : Program}
def zdh (P:Program) (ops:Array Oper) (k:Nat) (σ:St) (Q:kzd->St->Prop):Prop :=
 ∀W0 g0 H0 W a g,Base W0 g0 H0->(σ.e0=H0.E∧Step W0 g0 H0 W g σ.H)->z03 W a g σ->wpOps P ops (ynq W0 g0 H0 Q) (List.range' k (ops.size-k)) a W
theorem z011 {ops:Array Oper} {k:Nat} {σ:St} {Q:kzd->St->Prop} (hk:ops.size<=k) (h:Q .normal σ):zdh P ops k σ Q:=λW0 g0 H0 W a g _ hS hG=>by
 rw [show ops.size-k=0 by omega];exact ⟨g,σ,.normal,.normal,hS,hG,h⟩
theorem yyw {id:Nat} {ops:Array Oper} {σ:St} {Q:kzd->St->Prop} (h:zdh P ops 0 σ Q):Sat P (.region id ops false) σ Q:=λW0 g0 H0 W a g hB hS hG=>by
 refine wp_region ?_;rw [List.range_eq_range'];have:=h W0 g0 H0 W a g hB hS hG;simpa using this
theorem zul {ops:Array Oper} {k:Nat} {σ:St} {Q:kzd->St->Prop} (n:Nat) (ans:List (V×Option kz3)) (σ1:St) (cl:List Claim) (h:zwd P ops ((ops.toList.drop k).take n) ans σ=some (σ1,[],cl)) (hc:∀c∈cl,c.ok P) (hk:zdh P ops (k+n) σ1 Q):zdh P ops k σ Q:=λW0 g0 H0 W a g hB hS hG=>by
 have hlen:((ops.toList.drop k).take n).length=min n (ops.size-k):=by simp
 have hr:List.range' k (ops.size-k)=List.range' k ((ops.toList.drop k).take n).length++List.range' (k+n) (ops.size-(k+n)):=by
  rw [hlen];by_cases hn:n<=ops.size-k
  ·rw [Nat.min_eq_left hn,show ops.size-k=n+(ops.size-(k+n)) by omega,<-List.range'_append];simp
  ·rw [Nat.min_eq_right (by omega),show ops.size-(k+n)=0 by omega];simp
 rw [hr]
 exact zus (P:=P) _ ((ops.toList.drop k).take n) k ans [] σ σ1 cl W a g (λj hj=>by
  rw [Qaw,Qbt (by rw [hlen] at hj;omega)];simp) h hc hG hS (λW' a' g' s1 s2=>hk W0 g0 H0 W' a' g' hB s1 s2)
theorem z00g {id:Nat} {ops:Array Oper} {σ:St} {Q:kzd->St->Prop} (hm:P.follows .mixedOrders=true) (hB:Region.lexB .any ops=true) (ans:List V) (σ1:St) (cl:List Claim) (h:zlj P ops ops.toList ans σ=some (σ1,[],cl)) (hc:∀c∈cl,c.ok P) (hQ:Q .normal σ1) :
 Sat P (.region id ops true) σ Q:=z02t hm hB ans h hc hQ
theorem z01d {id:Nat} {ops:Array Oper} {σ:St} {Q:kzd->St->Prop} (n:Nat) (hm:P.follows .mixedOrders=true) (hB:Region.lexTailB .any ops n=true)
  (ans:List V) (σ1:St) (cl:List Claim) (h:zlj P ops (ops.toList.take n) ans σ=some (σ1,[],cl)) (hc:∀c∈cl,c.ok P) (hk:zdh P ops n σ1 Q):Sat P (.region id ops true) σ Q :=
 ygs n hm hB ans h hc hk
inductive VSL (H:kz3) (D:Nat->Nat->Prop):List V->List V->Prop where
 |nil:VSL H D [] []
 |cons {v u:V} {vs us:List V} (h:VS H D v u) (r:VSL H D vs us):VSL H D (v::vs) (u::us)
theorem VSL.length {H:kz3} {D:Nat->Nat->Prop} {vs us:List V} (h:VSL H D vs us):vs.length=us.length:=by induction h <;> simp_all
theorem VSL.get {H:kz3} {D:Nat->Nat->Prop} {vs us:List V} (h:VSL H D vs us):∀(j:Nat) (v u:V),vs[j]? = some v->us[j]? = some u->VS H D v u:=by
 induction h with
 |nil=>intro j v u hj;simp at hj
 |cons h r ih=>
  intro j v u hj hk
  cases j with
  |zero=>simp at hj hk;subst hj;subst hk;exact h
  |succ j=>exact ih j v u (by simpa using hj) (by simpa using hk)
theorem VS.agg' {H:kz3} {D:Nat->Nat->Prop} {vs us:List V} (h:VSL H D vs us):VS H D (.agg vs) (.agg us):=.agg _ _ h.length h.get
theorem VS.tup' {H:kz3} {D:Nat->Nat->Prop} {vs us:List V} (h:VSL H D vs us):VS H D (.tup vs) (.tup us):=.tup _ _ h.length h.get
end
section
variable {P : Program}
inductive Out where
 |ret (r:V)
 |pan (v:V)
def z04d (W:World) (g:Gh) (H:kz3):Out->Ending->Prop
 | .ret r,e=>∃c,e = .returned c∧Rel W g H r c
 | .pan v,e=>∃c,e = .panicked [{v:=c,recovered:=false}]∧Rel W g H v c
def y5i (P:Program) (f:Nat) (args:List V) (H:kz3) (Post:Out->kz3->Prop):Prop :=
 ∀(W:World) (g:Gh) (cargs:Array Value),Good W g H->zql W g H args cargs ->
  (callFunc f cargs).run P W = .ok (.enter f cargs) W∧Calls P f cargs W (λe W'=>∃o H' g',Post o H'∧Step W g H W' g' H'∧Good W' g' H'∧z04d W' g' H' o e)
theorem y5i.mono {f:Nat} {args:List V} {H:kz3} {Q Q':Out->kz3->Prop} (h:y5i P f args H Q) (hq:∀o H',Q o H'->Q' o H'):y5i P f args H Q':=λW g cargs hG hA=>by
 obtain ⟨h1,h2⟩:=h W g cargs hG hA;exact ⟨h1,h2.mono λe W' ⟨o,H',g',k1,k2⟩=>⟨o,H',g',hq _ _ k1,k2⟩⟩
def z041 (P:Program) (fn:Func) (Post:Out->kz3->Prop) (e:kzd) (σ:St):Prop :=
 match e with
 | .normal| .ret=>∃v r,zcj P fn σ=some v∧σ.d=[]∧VLe v r∧Post (.ret r) σ.H
 | .panic v=>σ.d=[]∧Post (.pan v) σ.H
 | .exit _=>False
theorem yxh {f:Nat} {fn:Func} {c:Code} {n:Nat} (hf:P.funcs[f]? = some fn) (hb:fn.body=some c) (hnt:fn.ntmps=n) (hent:∀args w,(callFunc f args).run P w = .ok (.enter f args) w) {args:List V} {lv:Nat} {L:List (Option zz7)} {E:Nat->Nat->Option zz7} {Post:Out->kz3->Prop}
  (h:Sat P c ⟨args++List.replicate (n-args.length) .any,⟨lv,L,E⟩,[],E⟩ (z041 P fn Post)):y5i P f args ⟨lv,L,E⟩ Post:=by
 intro W g cargs hG hA;subst hnt;refine ⟨hent cargs W,calls_of_wp hf hb ?_⟩
 have hgs:z03 W {tmps:=cargs++Array.replicate (fn.ntmps-cargs.size) undef,defers:=[]} g ⟨args++List.replicate (fn.ntmps-args.length) .any,⟨lv,L,E⟩,[],E⟩:=by
  refine ⟨hG,by simp [hA.1],λj v hj => ?_,rfl,by simp⟩;rw [Qbd] at hj;split at hj
  ·rename_i hlt;rw [z5q (by rw [hA.1];exact hlt)];exact hA.2 j v hj
  ·rw [List.getElem?_replicate] at hj;split at hj
   ·injection hj with hj;subst hj;exact .any _
   ·cases hj
 refine wp_mono (h W g ⟨lv,L,E⟩ W _ g ⟨hG⟩ ⟨rfl,.refl _ _ _⟩ hgs) λe a W' ⟨g1,σ,e',q1,q2,q3,q4⟩ => ?_
 have key:∀v r,zcj P fn σ=some v->σ.d=[]->VLe v r->Post (.ret r) σ.H->a.defers=[]∧∃c,(results fn a.tmps).run P W' = .ok c W'∧∃o H' g',Post o H'∧Step W g ⟨lv,L,E⟩ W' g' H'∧Good W' g' H'∧z04d W' g' H' o (.returned c):=λv r h1 h2 h3 h4=>by
  obtain ⟨c,k1,k2⟩:=zvq q3 h1;exact ⟨Qao (by rw [q3.dlen,h2];rfl),c,k1,.ret r,σ.H,g1,h4,q2.2,q3.good,c,rfl,h3.rel k2⟩
 cases q1 with
 |normal=>obtain ⟨v,r,h1,h2,h3,h4⟩:=q4;exact key v r h1 h2 h3 h4
 |ret=>obtain ⟨v,r,h1,h2,h3,h4⟩:=q4;exact key v r h1 h2 h3 h4
 |exit id=>exact q4.elim
 |panic v c hr=>
  obtain ⟨h1,h2⟩:=q4;exact ⟨Qao (by rw [q3.dlen,h1];rfl),.pan v,σ.H,g1,h2,q2.2,q3.good,c,rfl,hr⟩
theorem yxn {ops:Array Oper} {k:Nat} {σ:St} {Q:kzd->St->Prop} {o:Oper} {c:Call} {f:Nat} {args:List V} {Post:Out->kz3->Prop} (ho:ops[k]? = some o) (hw:yzy ops σ o=some true) (hop:o.op = .call c) (ht:target σ.ev c=some (f,args)) (hc:y5i P f args σ.H Post)
  (hr:∀r H',Post (.ret r) H'->zdh P ops (k+1) ({σ with H:=H'}.put o.dst r) Q) (hp:∀v H',Post (.pan v) H'->Q (.panic v) {σ with H:=H'}):zdh P ops k σ Q:=λW0 g0 H0 W a g hB hS hG=>by
 have hk:k<ops.size:=by
  rcases Nat.lt_or_ge k ops.size with q|q
  ·exact q
  ·rw [Array.getElem?_eq_none q] at ho;cases ho
 rw [show ops.size-k=(ops.size-(k+1))+1 by omega,List.range'_succ];simp only [wpOps,ho];rw [z0j hG hw,Qbt rfl];left;unfold Oper.wp;obtain ⟨cargs,k1,k2⟩:=zev (P:=P) (ty:=o.type) hG.ev ht
 have hex:(execOp a.eval o).run P W=(callFunc f cargs).run P W:=by
  rw [<-k2 W];unfold execOp;rw [hop]
 obtain ⟨e1,e2⟩:=hc W g cargs hG.good k1;rw [hex,e1];refine e2.mono λe W' ⟨o',H',g',p1,p2,p3,p4⟩ => ?_
 cases o' with
 |ret r=>
  obtain ⟨c',he,hr'⟩:=p4;subst he
  exact hr r H' p1 W0 g0 H0 W' (a.put o.dst c') g' hB (by
   have:({σ with H:=H'}.put o.dst r).H=H':=by cases o.dst <;> rfl
   have he:({σ with H:=H'}.put o.dst r).e0=σ.e0:=by cases o.dst <;> rfl
   rw [this,he];exact ⟨hS.1,hS.2.trans p2⟩) (hG.next p2 p3 hr' o.dst)
 |pan v=>
  obtain ⟨c',he,hr'⟩:=p4;subst he;have hn:=hG.next p2 p3 (.any undef) none;exact ⟨g',{σ with H:=H'},.panic v,.panic v c' hr',⟨hS.1,hS.2.trans p2⟩,hn,hp v H' p1⟩
theorem yu8 {ops:Array Oper} {k:Nat} {σ:St} {Q:kzd->St->Prop} {o:Oper} {x:Operand} {t:Nat} {v:V} (ho:ops[k]? = some o) (hw:yzy ops σ o=some true) (hop:o.op = .panic x) (hv:σ.ev x = .iface t v) (hp:Q (.panic (.iface t v)) σ):zdh P ops k σ Q:=λW0 g0 H0 W a g hB hS hG=>by
 have hk:k<ops.size:=by
  rcases Nat.lt_or_ge k ops.size with q|q
  ·exact q
  ·rw [Array.getElem?_eq_none q] at ho;cases ho
 rw [show ops.size-k=(ops.size-(k+1))+1 by omega,List.range'_succ];simp only [wpOps,ho];rw [z0j hG hw,Qbt rfl];left;have hr:=hG.ev x;rw [hv] at hr;generalize hcc:a.eval x=cc at hr
 cases hr with
 |iface _ _ c h=>
  unfold Oper.wp
  have hex:(execOp a.eval o).run P W = .halt (.panic (.iface t c)) W:=by
   unfold execOp;rw [hop];simp [hcc,Instr.panic,goPanic,Sem.run]
  rw [hex];exact ⟨g,σ,.panic (.iface t v),.panic _ _ (.iface _ _ _ h),hS,hG,hp⟩
theorem Rel.y40 {W:World} {g:Gh} {H H':kz3} (hown:∀b,Own g H' b->Own g H b) (harr:∀l i ver ty sz xs cp,H'.get l i=some (.arr ver ty sz xs cp)->H.get l i=some (.arr ver ty sz xs cp)) {v:V} {c:Value} (h:Rel W g H v c):Rel W g H' v c:=by
 induction h with
 |any c=>exact .any c
 |bool b=>exact .bool b
 |int k n=>exact .int k n
 |str s=>exact .str s
 |nilp=>exact .nilp
 |ptr l i off hd=>exact .ptr l i off hd
 |ref cs off b o c hb hc h1 hr ih=>exact .ref cs off b o c (λhne hn=>hb hne (hown b hn)) hc h1 ih
 |ap l i ver idx off a hd hv ha=>exact .ap l i ver idx off a hd (λv ty sz xs cp hg=>hv _ _ _ _ _ (harr _ _ _ _ _ _ _ hg)) λty sz xs cp hg=>ha _ _ _ _ (harr _ _ _ _ _ _ _ hg)
 |nils=>exact .nils
 |slnil sz full=>exact .slnil sz full
 |sle sz full a cap hf=>exact .sle sz full a cap hf
 |sl sz xs full b o cap c hb hz hcap hf hs hc h1 hr ih=>exact .sl sz xs full b o cap c (λhn=>hb (hown b hn)) hz hcap hf hs hc h1 ih
 |hs l i ver off n full a m cap hd hv ha=>exact .hs l i ver off n full a m cap hd (λv ty sz xs cp hg=>hv _ _ _ _ _ (harr _ _ _ _ _ _ _ hg)) λty sz xs cp hg=>ha _ _ _ _ (harr _ _ _ _ _ _ _ hg)
 |mapn=>exact .mapn
 |mapc es b en clock hb hw he=>exact .mapc es b en clock (λhn=>hb (hown b hn)) hw he
 |map l i hd=>exact .map l i hd
 |fn f fs cs fs' cs' h1 h2 r1 r2 i1 i2=>exact .fn f fs cs fs' cs' h1 h2 i1 i2
 |nilf=>exact .nilf
 |iface t v c h ih=>exact .iface t v c ih
 |nili=>exact .nili
 |agg vs cs hn h1 hr ih=>exact .agg vs cs hn h1 ih
 |tup vs cs hn hr ih=>exact .tup vs cs hn ih
inductive FV (v r:V):V->V->Prop where
 |keep (x:V):FV v r x x
 |any (x:V):FV v r x .any
 |it:FV v r v r
 |agg (vs us:List V) (hn:vs.length=us.length) (h:∀(j:Nat) (x y:V),vs[j]? = some x->us[j]? = some y->FV v r x y):FV v r (.agg vs) (.agg us)
 |tup (vs us:List V) (hn:vs.length=us.length) (h:∀(j:Nat) (x y:V),vs[j]? = some x->us[j]? = some y->FV v r x y):FV v r (.tup vs) (.tup us)
inductive FVL (v r:V):List V->List V->Prop where
 |nil:FVL v r [] []
 |cons {x y:V} {xs ys:List V} (h:FV v r x y) (t:FVL v r xs ys):FVL v r (x::xs) (y::ys)
theorem FVL.length {v r:V} {vs us:List V} (h:FVL v r vs us):vs.length=us.length:=by induction h <;> simp_all
theorem FVL.get {v r:V} {vs us:List V} (h:FVL v r vs us):∀(j:Nat) (x y:V),vs[j]? = some x->us[j]? = some y->FV v r x y:=by
 induction h with
 |nil=>intro j x y hj;simp at hj
 |cons h t ih=>
  intro j x y hj hk
  cases j with
  |zero=>simp at hj hk;subst hj;subst hk;exact h
  |succ j=>exact ih j x y (by simpa using hj) (by simpa using hk)
theorem FV.agg' {v r:V} {vs us:List V} (h:FVL v r vs us):FV v r (.agg vs) (.agg us):=.agg _ _ h.length h.get
theorem FV.tup' {v r:V} {vs us:List V} (h:FVL v r vs us):FV v r (.tup vs) (.tup us):=.tup _ _ h.length h.get
theorem FV.rel {W:World} {g:Gh} {H H':kz3} {v r:V} (hf:∀{x:V} {c:Value},Rel W g H x c->Rel W g H' x c) (hv:∀{c:Value},Rel W g H v c->Rel W g H' r c) {x y:V} (h:FV v r x y):∀{c:Value},Rel W g H x c->Rel W g H' y c:=by
 induction h with
 |keep x=>exact λh=>hf h
 |any x=>exact λ_=>.any _
 |it=>exact λh=>hv h
 |agg vs us hn h ih=>
  intro c hc
  cases hc with
  |agg _ cs hs h1 hr=>
   have get:∀j u,us[j]? = some u->∃x,vs[j]? = some x:=λj u hj=>by
    have:=(Qaa.1 hj).1;exact ⟨_,Qab (by omega)⟩
   refine .agg _ cs (by omega) (λj u hj => ?_) (λj u hj => ?_)
   · obtain ⟨x,hx⟩:=get j u hj;exact h1 j x hx
   · obtain ⟨x,hx⟩:=get j u hj;exact ih j x u hx hj (hr j x hx)
 |tup vs us hn h ih=>
  intro c hc
  cases hc with
  |tup _ cs hs hr=>
   refine .tup _ cs (by omega) (λj u hj => ?_);have hlt:=(Qaa.1 hj).1;have hx:vs[j]? = some (vs[j]'(by omega)):=Qab _;exact ih j _ u hx hj (hr j _ hx)
def FO (v r:V) (o o':zz7):Prop:=o'=o∨∃cs cs',o = .cells cs∧o' = .cells cs'∧FVL v r cs cs'
theorem FO.blk {v r:V} {o o':zz7} (h:FO v r o o') (g:Gh) (l i:Nat):o'.blk g l i=o.blk g l i:=by
 rcases h with rfl|⟨cs,cs',rfl,rfl,_⟩ <;> rfl
theorem FO.arr {v r:V} {o:zz7} {ver ty sz:Nat} {xs:List V} {cp:Option Nat} (h:FO v r o (.arr ver ty sz xs cp)):o = .arr ver ty sz xs cp:=by
 rcases h with h|⟨cs,cs',_,h,_⟩
 ·exact h.symm
 ·cases h
theorem y9x {σ:St} {L':List (Option zz7)} {t':List V} {v r:V} (hlen:L'.length=σ.H.L.length) (hL:∀(k:Nat) (o':zz7),L'[k]? = some (some o')->∃o,σ.H.L[k]? = some (some o)∧FO v r o o') (ht:FVL v r σ.t t') (hd:σ.d=[])
  (hv:∀(W:World) (g:Gh),Good W g σ.H->(∀b,Own g ⟨σ.H.lv,L',σ.H.E⟩ b->Own g σ.H b)->(∀{x:V} {c:Value},Rel W g σ.H x c->Rel W g ⟨σ.H.lv,L',σ.H.E⟩ x c)->∀{c:Value},Rel W g σ.H v c->Rel W g ⟨σ.H.lv,L',σ.H.E⟩ r c):zsy σ ⟨t',⟨σ.H.lv,L',σ.H.E⟩,[],σ.e0⟩:=λW0 g0 H0 W a g hB hS hG=>by
 have hget:∀l i o',kz3.get ⟨σ.H.lv,L',σ.H.E⟩ l i=some o'->∃o,σ.H.get l i=some o∧FO v r o o':=λl i o' h=>by
  unfold kz3.get at h ⊢;dsimp only at h;by_cases hl:l=σ.H.lv
  ·rw [Qbt hl] at h ⊢
   cases hq:L'[i]? with
   |none=>rw [hq] at h;simp at h
   |some q=>
    rw [hq] at h
    cases q with
    |none=>simp at h
    |some q=>
     simp at h;subst h;obtain ⟨o,h1,h2⟩:=hL i q hq;exact ⟨o,by rw [h1];rfl,h2⟩
  ·rw [Qbu hl] at h ⊢;exact ⟨o',h,.inl rfl⟩
 have hown:∀b,Own g ⟨σ.H.lv,L',σ.H.E⟩ b->Own g σ.H b:=λb ⟨l,i,o',ho,hb⟩=>by
  obtain ⟨o,h1,h2⟩:=hget l i o' ho;exact ⟨l,i,o,h1,by rw [<-h2.blk];exact hb⟩
 have harr:∀l i ver ty sz xs cp,kz3.get ⟨σ.H.lv,L',σ.H.E⟩ l i=some (.arr ver ty sz xs cp)->σ.H.get l i=some (.arr ver ty sz xs cp):=λl i ver ty sz xs cp h=>by
  obtain ⟨o,h1,h2⟩:=hget l i _ h;rw [h2.arr] at h1;exact h1
 have hf:∀{x:V} {c:Value},Rel W g σ.H x c->Rel W g ⟨σ.H.lv,L',σ.H.E⟩ x c:=λh=>Rel.y40 hown harr h
 have hr:∀{x y:V},FV v r x y->∀{c:Value},Rel W g σ.H x c->Rel W g ⟨σ.H.lv,L',σ.H.E⟩ y c:=λh=>FV.rel hf (hv W g hG.good hown hf) h
 have hGood:Good W g ⟨σ.H.lv,L',σ.H.E⟩:=by
  refine ⟨λl i o' h => ?_,λl i o' h => ?_,λl i o1 l' i' o2 h1 h2 hb => ?_,λl i h => ?_,λl i o' h => ?_,hG.good.glob.y40 hown⟩
  ·obtain ⟨o,h1,_⟩:=hget l i o' h;exact hG.good.dom l i o h1
  ·obtain ⟨o,h1,h2⟩:=hget l i o' h;rw [h2.blk];exact hG.good.lt l i o h1
  ·obtain ⟨p,k1,k2⟩:=hget l i o1 h1;obtain ⟨q,m1,m2⟩:=hget l' i' o2 h2;rw [k2.blk,m2.blk] at hb;exact hG.good.inj l i p l' i' q k1 m1 hb
  ·rcases hG.good.fresh l i h with q|⟨q1,q2⟩
   ·exact .inl q
   ·exact .inr ⟨q1,by show i<L'.length;rw [hlen];exact q2⟩
  ·obtain ⟨o,h1,h2⟩:=hget l i o' h;have ho:=hG.good.obj l i o h1
   rcases h2 with rfl|⟨cs,cs',rfl,rfl,hc⟩
   ·cases o' with
    |cells cs=>
     obtain ⟨c,ty,k1,k2,k3,k4⟩:=ho
     exact ⟨c,ty,k1,k2,k3,λj x hj=>hf (k4 j x hj)⟩
    |arr ver ty sz xs cp=>
     obtain ⟨c,k1,k3,k4,k4',k5,k6,k7,k8,k9⟩:=ho
     exact ⟨c,k1,k3,k4,k4',k5,k6,k7,k8,λj x t v hj ht=>hf (k9 j x t v hj ht)⟩
    |map es=>
     obtain ⟨en,clock,k1,k2,k3,k4,k5⟩:=ho;refine ⟨en,clock,k1,k2,k3,k4,λj p hj => ?_⟩;obtain ⟨e,he,m1,m2⟩:=k5 j p hj
     exact ⟨e,he,hf m1,hf m2⟩
    |siter s pos=>exact ho
    |mit es vis=>
     obtain ⟨en,clock,mb,k1,k2,k3,k4⟩:=ho;exact ⟨en,clock,mb,k1,λhn=>k2 (hown _ hn),k3,k4⟩
   ·obtain ⟨c,ty,k1,k2,k3,k4⟩:=ho;have hl:=hc.length
    have get:∀j u,cs'[j]? = some u->∃x,cs[j]? = some x:=λj u hj=>by
     have:=(Qaa.1 hj).1;exact ⟨_,Qab (by omega)⟩
    refine ⟨c,ty,k1,by omega,λj u hj => ?_,λj u hj => ?_⟩
    ·obtain ⟨x,hx⟩:=get j u hj;exact k3 j x hx
    ·obtain ⟨x,hx⟩:=get j u hj;exact hr (hc.get j x u hx hj) (k4 j x hx)
 refine ⟨g,⟨hS.1,⟨hS.2.os,hS.2.tape,hS.2.output,hS.2.size,hS.2.block,λb h=>hS.2.own b (hown b h),hS.2.dom,hS.2.new,hS.2.blk,λl i ver ty sz xs cp hd h=>hS.2.arr l i ver ty sz xs cp hd (harr l i _ _ _ _ _ h),hS.2.lv⟩⟩,hGood,hG.size.trans ht.length,λj u hj => ?_,by rw [hG.dlen,hd],λj f vs hj=>by simp at hj⟩;have hlt:=(Qaa.1 hj).1
 have hx:σ.t[j]? = some (σ.t[j]'(by rw [ht.length];exact hlt)):=Qab _;exact hr (ht.get j _ u hx hj) (hG.tmps j _ hx)
inductive FOL (v r:V):List (Nat×zz7)->List (Nat×zz7)->Prop where
 |refl (os:List (Nat×zz7)):FOL v r os os
 |cons {i:Nat} {o o':zz7} {os os':List (Nat×zz7)} (h:FO v r o o') (t:FOL v r os os'):FOL v r ((i,o)::os) ((i,o')::os')
theorem FOL.map {v r:V} {os os':List (Nat×zz7)} (h:FOL v r os os'):os'.map (·.1)=os.map (·.1):=by
 induction h with
 |refl os=>rfl
 |cons h t ih=>simp [ih]
theorem FOL.mem {v r:V} {os os':List (Nat×zz7)} (h:FOL v r os os'):∀p'∈os',∃o,(p'.1,o)∈os∧FO v r o p'.2:=by
 induction h with
 |refl os=>exact λp hp=>⟨p.2,hp,.inl rfl⟩
 |cons h t ih=>
  intro p hp
  rcases Qbi.1 hp with rfl|hp
  · exact ⟨_,Qak,h⟩
  · obtain ⟨o,h1,h2⟩:=ih p hp;exact ⟨o,Qai _ h1,h2⟩
def told (L:List (Option zz7)) (rm:Option Nat) (os:List (Nat×zz7)):List (Option zz7) :=
 (List.range L.length).map λk=>if rm=some k then none else match os.find? (λp=>p.1==k) with|some p=>some p.2|none=>(L[k]?).join
theorem zk4 (L:List (Option zz7)) (rm:Option Nat) (os:List (Nat×zz7)):(told L rm os).length=L.length:=by simp [told]
theorem zgq {L:List (Option zz7)} {rm:Option Nat} {os:List (Nat×zz7)} {k:Nat} (hk:k<L.length):(told L rm os)[k]? = some (if rm=some k then none else match os.find? (λp=>p.1==k) with|some p=>some p.2|none=>(L[k]?).join):=by
 simp [told,hk]
theorem zb7.yvs {lv:Nat} {L:List (Option zz7)} {as:List zhg} {os os':List (Nat×zz7)} (h:zb7 lv L as os) {j ty sz:Nat} {v:V} {xs:List V} {w:Bool} (hj:as[j]? = some ⟨ty,sz,v,xs,w⟩) {t t':List V}
  (ht:FVL v (.sl sz xs false) t t') (hos:FOL v (.sl sz xs false) os os') (E e0:Nat->Nat->Option zz7):∃L',(zb7 lv L' (as.eraseIdx j) os'∧zsy ⟨t,⟨lv,L,E⟩,[],e0⟩ ⟨t',⟨lv,L',E⟩,[],e0⟩)∧L'.length=L.length∧∀i,i<L.length->(∀p∈os,p.1≠i)->(∀ver n,v ≠ .hs lv i ver 0 n false)->L'[i]? = L[i]? := by
 have hA:=h;obtain ⟨⟨ks,h1,h2,h3,h4⟩,h5⟩:=h;have hjl:=(Qaa.1 hj).1;have hk:ks[j]? = some (ks[j]'(by omega)):=Qab _;generalize ks[j]'(by omega)=k at hk;have hAt:=h2 j k _ hk hj
 have hkeys:∀p'∈os',∀t:Nat,ks[t]? ≠ some (some p'.1):=λp' hp' t=>by
  obtain ⟨o,ho,_⟩:=hos.mem p' hp';exact (h4 _ ho).2 t
 have hnd:(os'.map (·.1)).Nodup:=by rw [hos.map];exact h5
 have hfind:∀p'∈os',os'.find? (λp=>p.1==p'.1)=some p':=λp' hp'=>by
  cases hq:os'.find? (λp=>p.1==p'.1) with
  |none=>rw [List.find?_eq_none] at hq;have:=hq p' hp';simp at this
  |some q=>
   have hq1:=List.find?_some hq;have hq2:=List.mem_of_find?_eq_some hq;simp at hq1;obtain ⟨a,ha⟩:=List.mem_iff_getElem?.1 hp';obtain ⟨b,hb⟩:=List.mem_iff_getElem?.1 hq2;have ha':(os'.map (·.1))[a]? = some p'.1:=by simp [ha]
   have hb':(os'.map (·.1))[b]? = some p'.1:=by simp [hb,hq1]
   have hlt:=(Qaa.1 ha').1;have:=(List.getElem?_inj hlt hnd).1 (ha'.trans hb'.symm);subst this;rw [ha] at hb;exact hb.symm
 have hother:∀n:Nat,n<L.length->k≠some n->(∀p'∈os',p'.1≠n)->(told L k os')[n]? = some (L[n]?).join:=λn hn h6 h7=>by
  rw [zgq hn,Qbu h6]
  have:os'.find? (λp=>p.1==n)=none:=by
   rw [List.find?_eq_none];intro p hp;have:=h7 p hp;simpa using this
  rw [this]
 refine ⟨told L k os',⟨⟨⟨ks.eraseIdx j,?_,λt kk a hkk ha => ?_,λt t2 n ht1 ht2 => ?_,λp' hp'=>⟨?_,λt ht1 => ?_⟩⟩,hnd⟩,?_⟩,zk4 _ _ _,λi hi hp hv => ?_⟩
 rotate_right
 ·rw [hother i hi (λe=>by
   subst e;obtain ⟨ver,cp,q1,q2⟩:=hAt
   exact hv _ _ q1) (λp' hp' e=>by
   obtain ⟨o,ho,_⟩:=hos.mem p' hp'
   exact hp _ ho e),Qab hi];rfl
 ·rw [List.length_eraseIdx,List.length_eraseIdx];simp [h1]
 ·obtain ⟨t2,e1,e2,e3⟩:∃t2:Nat,t2≠j∧ks[t2]? = some kk∧as[t2]? = some a:=by
   rw [List.getElem?_eraseIdx] at hkk ha;by_cases hlt:t<j
   ·rw [Qbt hlt] at hkk ha;exact ⟨t,by omega,hkk,ha⟩
   ·rw [Qbu hlt] at hkk ha;exact ⟨t+1,by omega,hkk,ha⟩
  have hat:=h2 t2 kk a e2 e3
  cases kk with
  |none=>exact hat
  |some n=>
   have hlt:=hat.lt;obtain ⟨ver,cp,q1,q2⟩:=hat;refine ⟨ver,cp,q1,?_⟩;rw [hother n hlt (λe=>e1 (h3 t2 j n e2 (by rw [hk,e]))) (λp' hp' e=>hkeys p' hp' t2 (by rw [e2,e])),q2];rfl
 ·have key:∀t:Nat,(ks.eraseIdx j)[t]? = some (some n)->∃t2:Nat,ks[t2]? = some (some n)∧t2=if t<j then t else t+1:=λt ht=>by
   rw [List.getElem?_eraseIdx] at ht;by_cases hlt:t<j
   ·rw [Qbt hlt] at ht;exact ⟨t,ht,by rw [Qbt hlt]⟩
   ·rw [Qbu hlt] at ht;exact ⟨t+1,ht,by rw [Qbu hlt]⟩
  obtain ⟨a,a1,a2⟩:=key t ht1;obtain ⟨b,b1,b2⟩:=key t2 ht2;have:=h3 a b n a1 b1;subst this;split at a2 <;> split at b2 <;> omega
 ·obtain ⟨o,ho,_⟩:=hos.mem p' hp';have hlt:=(Qaa.1 (h4 _ ho).1).1;rw [zgq hlt,Qbu (λe=>hkeys p' hp' j (by rw [hk,e])),hfind p' hp']
 ·rw [List.getElem?_eraseIdx] at ht1;split at ht1
  ·exact hkeys p' hp' _ ht1
  ·exact hkeys p' hp' _ ht1
 ·refine y9x (σ:=⟨t,⟨lv,L,E⟩,[],e0⟩) (v:=v) (r:=.sl sz xs false) (zk4 _ _ _) (λm o' hm => ?_) ht rfl (λW g hG hown hf c hc => ?_)
  ·have hlt:m<L.length:=by have:=(Qaa.1 hm).1;rw [zk4] at this;exact this
   rw [zgq hlt] at hm;injection hm with hm;split at hm
   ·cases hm
   ·split at hm
    ·rename_i p hp;injection hm with hm;have hp1:=List.find?_some hp;simp at hp1;obtain ⟨o,ho,hfo⟩:=hos.mem p (List.mem_of_find?_eq_some hp);refine ⟨o,?_,by rw [<-hm];exact hfo⟩;have:=(h4 _ ho).1;rw [hp1] at this;exact this
    ·refine ⟨o',?_,.inl rfl⟩;show L[m]? = _;rw [Qab hlt] at hm ⊢;simp at hm;rw [hm]
  ·cases k with
   |none=>
    rcases hAt with ⟨q1,q2⟩|⟨q1,_⟩
    · simp only at q1 q2;subst q1;subst q2;exact (VLe.nil _ _).rel (hf hc)
    · simp only at q1;subst q1;exact (VLe.full _ _).rel (hf hc)
   |some i=>
    obtain ⟨ver,cp,q1,q2⟩:=hAt;simp only at q1 q2;subst q1;have hg:kz3.get ⟨lv,L,E⟩ lv i=some (.arr ver ty sz xs cp):=by unfold kz3.get;rw [Qbt rfl,q2];rfl
    have hi:=(Qaa.1 q2).1
    have hno:¬Own g ⟨lv,told L (some i) os',E⟩ (g.ab lv i):=λ⟨l,i',o',ho',hob⟩=>by
     have hgot:∃o,kz3.get ⟨lv,L,E⟩ l i'=some o∧o'.blk g l i'=o.blk g l i'∧¬(l=lv∧i'=i):=by
      unfold kz3.get at ho' ⊢;dsimp only at ho' ⊢;by_cases hl:l=lv
      · rw [Qbt hl] at ho' ⊢
        cases hq:(told L (some i) os')[i']? with
        |none=>rw [hq] at ho';simp at ho'
        |some q=>
         have hlt:i'<L.length:=by have:=(Qaa.1 hq).1;rw [zk4] at this;exact this
         rw [zgq hlt] at hq;injection hq with hq;rw [zgq hlt] at ho';simp only [Option.join_some] at ho';split at ho'
         · cases ho'
         · rename_i hne;split at ho'
           · rename_i p hp;injection ho' with ho';have hp1:=List.find?_some hp;simp at hp1;obtain ⟨o,ho,hfo⟩:=hos.mem p (List.mem_of_find?_eq_some hp);have:=(h4 _ ho).1;rw [hp1] at this;exact ⟨o,by rw [this];rfl,by rw [<-ho'];exact hfo.blk g l i',λe=>hne (by rw [e.2])⟩
           · exact ⟨o',ho',rfl,λe=>hne (by rw [e.2])⟩
      · rw [Qbu hl] at ho' ⊢;exact ⟨o',ho',rfl,λe=>hl e.1⟩
     obtain ⟨o,w1,w2,w3⟩:=hgot;exact w3 (hG.inj _ _ _ _ _ _ w1 hg (by rw [<-w2];exact hob))
    cases hc with
    |hs _ _ _ _ _ _ a m cap hd hv ha=>
     obtain ⟨rfl,rfl,⟨hcap',hcap2,hff⟩,hle⟩:=ha _ _ _ _ hg;obtain ⟨cur,k1,k2,k3,k3',k4,k5,k6⟩:=zy9 hG hg
     have cells:∀(j:Nat) (y:V) (t:Nat) (u:V),xs[j]? = some y->y.cells[t]? = some u->Rel W g ⟨lv,told L (some i) os',E⟩ u (cur.getD (j * sz+t) undef)∧(cur.getD (j * sz+t) undef).oneCell'=true∧j * sz+t<cur.size:=λj y t u hj ht=>by
      have hjl:=(Qaa.1 hj).1;have hxl:=k6.1 _ _ hj;have htl:=(Qaa.1 ht).1;refine ⟨hf (k6.2.2 _ _ _ _ hj ht),k6.2.1 _ _ _ _ hj ht,?_⟩;rw [k3];exact y30 (by omega) (by omega)
     refine .sl sz xs false (g.ab lv i) (0 * sz) cap (λj t=>cur.getD (j * sz+t) undef) hno k2 (by omega) (by simp) (λj y hj=>k6.1 _ _ hj) (λj y t u hj ht => ?_) (λj y t u hj ht=>(cells j y t u hj ht).2.1) (λj y t u hj ht=>(cells j y t u hj ht).1);have:=cell_of k1 (cells j y t u hj ht).2.2;rw [<-this];congr 2;omega
theorem zb7.freeze {lv:Nat} {L:List (Option zz7)} {as:List zhg} {os os':List (Nat×zz7)} (h:zb7 lv L as os) {j ty sz:Nat} {v:V} {xs:List V} {w:Bool} (hj:as[j]? = some ⟨ty,sz,v,xs,w⟩) {t t':List V}
  (ht:FVL v (.sl sz xs false) t t') (hos:FOL v (.sl sz xs false) os os') (E e0:Nat->Nat->Option zz7):∃L',zb7 lv L' (as.eraseIdx j) os'∧zsy ⟨t,⟨lv,L,E⟩,[],e0⟩ ⟨t',⟨lv,L',E⟩,[],e0⟩:=by
 obtain ⟨L',h1,_⟩:=h.yvs hj ht hos E e0;exact ⟨L',h1⟩
theorem y1u {T:Type} (f:T->V) (k:List UInt8):∀(m:List (List UInt8×T)) (i:Nat),y3j .string (.str k) (m.map λp=>(.str p.1,f p.2)) i =
  some (match m.findIdx? (λp=>k==p.1) with|none=>none|some j=>(m[j]?).map λp=>(i+j,f p.2))
 |[],i=>rfl
 |p::m,i=>by
  simp only [List.map_cons,y3j,ysg]
  cases hk:k==p.1 with
  |true=>simp [List.findIdx?_cons,hk]
  |false=>
   simp only [Bool.false_eq_true,if_false];rw [y1u f k m (i+1),List.findIdx?_cons,hk];simp only [Bool.false_eq_true,if_false]
   cases m.findIdx? (λp=>k==p.1) with
   |none=>rfl
   |some j=>simp;cases m[j]? <;> simp;omega
theorem yyd {T:Type} (m:List (List UInt8×T)) (k:List UInt8):z84 m k=match m.findIdx? (λp=>k==p.1) with|none=>none|some j=>(m[j]?).map (·.2):=by
 unfold z84
 induction m with
 |nil=>rfl
 |cons p m ih=>
  rw [List.find?_cons,List.findIdx?_cons]
  cases hk:k==p.1 with
  |true=>simp
  |false=>
   simp only [Bool.false_eq_true,if_false];rw [ih]
   cases m.findIdx? (λp=>k==p.1) with
   |none=>rfl
   |some j=>simp
theorem yti {T:Type} {f:T->V} {m:List (List UInt8×T)} {H:kz3} {t kt e l i:Nat} {z:V} (ht:P.underlying t=some (.map kt e)) (hk:P.underlying kt=some .string) (hz:zeroV P e=some z) (hg:H.get l i=some (.map (m.map λp=>(.str p.1,f p.2)))) (k:List UInt8) (z0:T) (h0:f z0=z) :
  zs6 P H t (.map l i) (.str k) false=some (f ((z84 m k).getD z0))∧zs6 P H t (.map l i) (.str k) true=some (.tup [f ((z84 m k).getD z0),.bool (z84 m k).isSome]):=by
 unfold zs6;simp only [ht,z023,hg,zub,hk,hz,y1u,yyd]
 cases hq:m.findIdx? (λp=>k==p.1) with
 |none=>simp [h0]
 |some j=>
  have hj:j<m.length:=by
   rw [List.findIdx?_eq_some_iff_getElem] at hq;exact hq.1
  simp [hj]
theorem ytm {T:Type} {f:T->V} {m:List (List UInt8×T)} {lv:Nat} {L:List (Option zz7)} {E:Nat->Nat->Option zz7} {t kt e i:Nat} (ht:P.underlying t=some (.map kt e)) (hk:P.underlying kt=some .string) (hg:L[i]? = some (some (.map (m.map λp=>(.str p.1,f p.2))))) (k:List UInt8) (x:T) {y:V} (hy:y=f x) :
  zh1 P ⟨lv,L,E⟩ t (.map lv i) (.str k) y=some (.any,⟨lv,L.set i (some (.map ((zd5 m k x).map λp=>(.str p.1,f p.2)))),E⟩):=by
 subst hy;have hget:kz3.get ⟨lv,L,E⟩ lv i=some (.map (m.map λp=>(.str p.1,f p.2))):=by unfold kz3.get;rw [Qbt rfl,hg];rfl
 unfold zh1;simp only [ht,hget,zub,hk,y1u,zd5,kz3.set,if_true]
 cases hq:m.findIdx? (λp=>k==p.1) with
 |none=>simp [ztm]
 |some j=>
  have hj:j<m.length:=by
   rw [List.findIdx?_eq_some_iff_getElem] at hq;exact hq.1
  simp [ztm,hj,List.map_set]
@[simp] theorem z00u (t l i:Nat) (H:kz3):zpd P H t (.map l i)=match P.underlying t with|some (.map _ _)=>(match H.get l i with|some (.map es)=>some (.int .i64 es.length)|_=>none)|_=>none:=rfl
end
def zxi {α:Type} (xs:List α) (a b:Int):Option (List α) :=
 if 0<=a∧a<=xs.length∧0<=b∧b<xs.length then
  some (xs.take a.toNat++((xs.drop b.toNat).take (min (xs.length-b.toNat) (xs.length-a.toNat))++xs.drop (a.toNat+min (xs.length-b.toNat) (xs.length-a.toNat)))) else none
section
variable {P : Program}
theorem zx0 {t e sz:Nat} {H:kz3} {l i ver n:Nat} {ty:Nat} {xs:List V} {cp:Option Nat} (ht:P.underlying t=some (.slice e)) (hz:sz=P.cellsOf e) (he:(P.underlying e).isSome=true) (hg:H.get l i=some (.arr ver ty sz xs cp)) {a:Int} (h0:0<=a) (h1:a.toNat<=n) :
  zhk P H t (.hs l i ver 0 n false) (some (.int .i64 a)) none none=some (if a.toNat=0∨a.toNat<n then .hs l i ver a.toNat (n-a.toNat) false else .sl sz [] false):=by
 have hb:zgs n (some (.int .i64 a)) none none=some (a.toNat,n,none):=by
  have h2:a<=(n:Int):=by omega
  simp [zgs,bnd,h0,h2]
 simp only [zhk,ht,hg];rw [Qbt ⟨trivial,hz,he⟩,hb];simp only [Option.bind_some,Nat.zero_add,Bool.false_and];split <;> rfl
theorem zb7.shift {lv:Nat} {L:List (Option zz7)} {al:List zhg} {ol:List (Nat×zz7)} (h:zb7 lv L al ol) {j ty sz:Nat} {v:V} {xs:List V} (hj:al[j]? = some ⟨ty,sz,v,xs,true⟩) {t e:Nat} (ht:P.underlying t=some (.slice e))
  (hz:sz=P.cellsOf e) (he:(P.underlying e).isSome=true) (hi:(P.info? e).isSome=true) {a b:Int} {ys:List V} (hs:zxi xs a b=some ys) (E:Nat->Nat->Option zz7) :
  ∃(q1 q2:V) (L':List (Option zz7)) (m:Int),zhk P ⟨lv,L,E⟩ t v (some (.int .i64 a)) none none=some q1∧zhk P ⟨lv,L,E⟩ t v (some (.int .i64 b)) none none=some q2 ∧
   zyd P ⟨lv,L,E⟩ t q1 q2=some (.int .i64 m,⟨lv,L',E⟩)∧zb7 lv L' (al.set j ⟨ty,sz,v,ys,true⟩) ol:=by
 unfold zxi at hs;split at hs
 ·rename_i hc;injection hs with hs;obtain ⟨c1,c2,c3,c4⟩:=hc;have hne:xs≠[]:=λhh=>by subst hh;simp at c4;omega
  rcases h.form hj with ⟨rfl,rfl⟩|⟨rfl,hw⟩|⟨k,ver,cp,rfl,hL⟩
  ·exact (hne rfl).elim
  ·exact (hne (hw rfl)).elim
  ·have hg:(⟨lv,L,E⟩:kz3).get lv k=some (.arr ver ty sz xs cp):=by simp [kz3.get,hL]
   have s1:=zx0 (n:=xs.length) ht hz he hg c1 (by omega);have s2:=zx0 (n:=xs.length) ht hz he hg c3 (by omega);rw [Qbt (show b.toNat=0∨b.toNat<xs.length by omega)] at s2;by_cases hlt:a.toNat=0∨a.toNat<xs.length
   ·rw [Qbt hlt] at s1;refine ⟨_,_,L.set k (some (.arr ver ty sz ys cp)),(min (xs.length-b.toNat) (xs.length-a.toNat):Nat),s1,s2,?_,h.accs.setAt hj rfl hL hne ?_,h.nodup⟩
    ·simp only [zyd,ht,hg];rw [Qbt hi,Qbt ⟨trivial,trivial,trivial⟩,Qbt ⟨trivial,hz⟩];rw [hs];simp [kz3.set]
    ·rw [<-hs];simp;omega
   ·rw [Qbu hlt] at s1;have e1:xs.length-a.toNat=0:=by omega
    have hys:ys=xs:=by
     rw [<-hs,e1,Nat.min_zero,List.take_zero,List.nil_append,Nat.add_zero,List.take_append_drop]
    refine ⟨_,_,L,0,s1,s2,?_,?_⟩
    ·simp only [zyd,ht,hg];rw [Qbt hi,Qbt trivial]
    ·rw [hys]
     have:al.set j ⟨ty,sz,.hs lv k ver 0 xs.length false,xs,true⟩=al:=by
      refine List.ext_getElem? λq => ?_
      rw [Qbh];split
      ·rename_i hq;subst hq;rw [hj,Qbt (Qaa.1 hj).1]
      ·rfl
     rw [this];exact h
 ·cases hs
end
theorem yyl {W:World} {g:Gh} {H H':kz3} (hown:∀b,Own g H' b->Own g H b) (hf:∀{x:V} {c:Value},Rel W g H x c->Rel W g H' x c) {l i:Nat} {o:zz7} (ho:zhh W g H l i o):zhh W g H' l i o:=by
 cases o with
 |cells cs=>
  obtain ⟨c,ty,k1,k2,k3,k4⟩:=ho
  exact ⟨c,ty,k1,k2,k3,λj x hj=>hf (k4 j x hj)⟩
 |arr ver ty sz xs cp=>
  obtain ⟨c,k1,k3,k4,k4',k5,k6,k7,k8,k9⟩:=ho
  exact ⟨c,k1,k3,k4,k4',k5,k6,k7,k8,λj x t v hj ht=>hf (k9 j x t v hj ht)⟩
 |map es=>
  obtain ⟨en,clock,k1,k2,k3,k4,k5⟩:=ho;refine ⟨en,clock,k1,k2,k3,k4,λj p hj => ?_⟩;obtain ⟨e,he,m1,m2⟩:=k5 j p hj
  exact ⟨e,he,hf m1,hf m2⟩
 |siter s pos=>exact ho
 |mit es vis=>
  obtain ⟨en,clock,mb,k1,k2,k3,k4⟩:=ho;exact ⟨en,clock,mb,k1,λhn=>k2 (hown _ hn),k3,k4⟩
def kz3.y2q (H:kz3) (i:Nat):kz3:=⟨H.lv,H.L.set i none,H.E⟩
theorem kz3.zgg {H:kz3} {i l k:Nat} {o:zz7} (h:(H.y2q i).get l k=some o):H.get l k=some o∧¬(l=H.lv∧k=i):=by
 unfold kz3.get kz3.y2q at h;dsimp only at h;by_cases hl:l=H.lv
 ·rw [Qbt hl,Qbh] at h;by_cases hk:i=k
  ·subst hk;rw [Qbt rfl] at h;split at h <;> simp at h
  ·rw [Qbu hk] at h;exact ⟨by unfold kz3.get;rw [Qbt hl];exact h,λe=>hk e.2.symm⟩
 ·rw [Qbu hl] at h;exact ⟨by unfold kz3.get;rw [Qbu hl];exact h,λe=>hl e.1⟩
theorem yxc {W:World} {g:Gh} {H:kz3} {i:Nat} {o:zz7} (hG:Good W g H) (hi:H.get H.lv i=some o) :
  Good W g (H.y2q i)∧Step W g H W g (H.y2q i)∧(∀{x:V} {c:Value},Rel W g H x c->Rel W g (H.y2q i) x c)∧¬Own g (H.y2q i) (o.blk g H.lv i):=by
 have hown:∀b,Own g (H.y2q i) b->Own g H b:=λb ⟨l,k,q,hq,hb⟩=>⟨l,k,q,(kz3.zgg hq).1,hb⟩
 have harr:∀l k ver ty sz xs cp,(H.y2q i).get l k=some (.arr ver ty sz xs cp)->H.get l k=some (.arr ver ty sz xs cp):=λl k ver ty sz xs cp h=>(kz3.zgg h).1
 have hf:∀{x:V} {c:Value},Rel W g H x c->Rel W g (H.y2q i) x c:=λh=>Rel.y40 hown harr h
 refine ⟨⟨λl k q h=>hG.dom l k q (kz3.zgg h).1,λl k q h=>hG.lt l k q (kz3.zgg h).1,λl k q l' k' q' h h' hb=>hG.inj l k q l' k' q' (kz3.zgg h).1 (kz3.zgg h').1 hb,λl k h => ?_,λl k q h=>yyl hown hf (hG.obj l k q (kz3.zgg h).1),hG.glob.y40 hown⟩,
  ⟨rfl,rfl,rfl,Qbs _,λ_ _ _=>rfl,λb h=>.inl (hown b h),λ_ _ h=>h,λ_ _ h=>.inl h,λ_ _ _=>rfl,λl k ver ty sz xs cp hd h=>⟨ver,xs,cp,harr _ _ _ _ _ _ _ h,Qbs _,λ_=>⟨rfl,rfl,Qbs _⟩⟩,rfl⟩,hf,λ⟨l,k,q,hq,hb⟩ => ?_⟩
 ·rcases hG.fresh l k h with q|⟨q1,q2⟩
  ·exact .inl q
  ·exact .inr ⟨q1,by simpa [kz3.y2q] using q2⟩
 ·obtain ⟨h1,h2⟩:=kz3.zgg hq;exact h2 (hG.inj _ _ _ _ _ _ h1 hi hb)
section
variable {W : World} {g : Gh} {H : kz3} {P : Program}
theorem Rel.z04l (l i:Nat) {W':World} {g':Gh} {H':kz3} {ty sz:Nat} {xs:List V} {cp:Option Nat} (hd:g'.dom l i) (hg:H'.get l i=some (.arr 0 ty sz xs cp)):Rel W' g' H' (.ap l i 0 0 0) (.pointer (some ⟨g'.ab l i,0,none⟩)):=by
 refine .ap l i 0 0 0 _ hd (λ_ _ _ _ _ _=>Qbr _) λty sz xs cp _ => ?_
 simp
def z03z (P:Program) (t:Nat):Bool:=match P.info? t with
 |some i=>match i.desc with
  | .named n _=>n == "strings.Builder"
  |_=>false
 |none=>false
def y6c (P:Program) (H:kz3) (t:Nat):Option (V×kz3):=match zeroV P t,P.info? t with
 |some z,some i=>if z.zzn&&z.cells.length==i.size&&Nat.blt 0 i.size then some (.ap H.lv H.L.length 0 0 0,H.push (.arr 0 t i.size [z] (some 1))) else none
 |_,_=>none
theorem z01x {W':World} {g':Gh} {H':kz3} {l i:Nat} {ver ty sz:Nat} {z:V} {c:Array Value} (hc:g'.cap l i=1) (h:W'.heap[g'.ab l i]? = some (.cells c ty (0,0))) (hsz:0<sz) (hl:z.cells.length=sz) (hr:ztb W' g' H' z.cells c):zhh W' g' H' l i (.arr ver ty sz [z] (some 1)):=by
 have one:∀{j:Nat} {x:V},[z][j]? = some x->j=0∧x=z:=λ{j x} hj=>by
  cases j with
  |zero=>simp at hj;exact ⟨rfl,hj.symm⟩
  |succ j=>simp at hj
 refine ⟨c,h,hsz,by rw [hr.1,hl,hc,Nat.one_mul],by rw [hc];decide,by rw [hc];simp,λn hn=>by injection hn with hn;rw [hc,hn],λj x hj => ?_,λj x t v hj ht => ?_,λj x t v hj ht => ?_⟩
 ·obtain ⟨_,rfl⟩:=one hj;exact hl
 ·obtain ⟨rfl,rfl⟩:=one hj;rw [Nat.zero_mul,Nat.zero_add];exact hr.2.1 t v ht
 ·obtain ⟨rfl,rfl⟩:=one hj;rw [Nat.zero_mul,Nat.zero_add];exact hr.2.2 t v ht
theorem yn6 (hG:Good W g H) {t:Nat} {v:V} {H':kz3} (h:y6c P H t=some (v,H')):z82 P W g H (do pure (.value (<-Instr.alloc t true (.tuple #[])))) v H':=by
 unfold y6c at h;split at h
 ·rename_i z i hz hi;split at h
  ·rename_i hc;simp only [Qag,Qbj,Nat.blt_eq] at hc;obtain ⟨⟨c1,c2⟩,c3⟩:=hc;injection h with h;injection h with h1 h2;subst h1;subst h2;obtain ⟨zc,hz1,hz2⟩:=zrg (W:=W) (g:=g) (H:=H) hz;have hr:=zef c1 hz2
   obtain ⟨h1,h2⟩:=zhd hG (O:=.cells zc.cells t) (o:=.arr 0 t i.size [z] (some 1)) 1 (λW' g' H' hW hg hH hst=>by
    refine z01x (c:=zc.cells) (by rw [hg];simp [Gh.add]) ?_ c3 c2 (hr.mono hst);rw [hW,hg];simp only [Gh.add,and_self,if_true]
    exact z2r _ _)
   refine ⟨.pointer (some ⟨W.heap.size,0,none⟩),_,_,.inl (by simp [Instr.alloc,hz1,newVar,newRow]),h1,h2,?_⟩;have hgt:(H.push (.arr 0 t i.size [z] (some 1))).get H.lv H.L.length=some (.arr 0 t i.size [z] (some 1)):=by rw [kz3.zie,Qbt ⟨rfl,rfl⟩]
   have:=Rel.z04l (W':=W.alloc (.cells zc.cells t)) (g':=g.add H.lv H.L.length W.heap.size 1) H.lv H.L.length (.inr ⟨rfl,rfl⟩) hgt;simpa [Gh.add] using this
  ·cases h
 ·cases h
def yx7 (H:kz3):V->Option (Nat×Nat×Nat×Nat)
 | .ap l i ver idx off=>match H.get l i with
   |some (.arr ver' ty sz xs cp)=>match Nat.beq ver' ver&&Nat.blt (Nat.add (Nat.mul idx sz) off) (Nat.mul xs.length sz) with
    |true=>some (ty,sz,xs.length,Nat.add (Nat.mul idx sz) off)
    |false=>none
   |_=>none
 |_=>none
theorem zum (hG:Good W g H) {x:V} {c:Value} {ty sz n o:Nat} (h:yx7 H x=some (ty,sz,n,o)) (hx:Rel W g H x c):∃b q cells,c = .pointer (some ⟨b,o,none⟩)∧W.heap[b]? = some (.cells cells ty (0,0))∧cells.size=q * sz∧n<=q∧0<sz∧o<n * sz:=by
 unfold yx7 at h;split at h
 ·rename_i l i ver idx off;split at h
  ·rename_i ver' ty' sz' xs cp hg;split at h
   ·rename_i hc;simp only [Qag] at hc;have e1:ver'=ver:=Qaj hc.1;subst e1;injection h with h;injection h with a1 h;injection h with a2 h;injection h with a3 a4;subst a1;subst a2;subst a3;subst a4
    cases hx with
    |ap _ _ _ _ _ a hd hv ha=>
     obtain rfl:=ha _ _ _ _ hg;obtain ⟨cc,k1,k2,k3,k3',k4,k5,k6,k7,k8⟩:=hG.obj _ _ _ hg;exact ⟨_,g.cap l i,cc,rfl,k1,k3,k4,k2,by have:=hc.2;rw [Nat.blt_eq] at this;exact this⟩
   ·cases h
  ·cases h
 ·cases h
def ytr:V->V->Bool
 | .ap l i v x o,.ap l' i' v' x' o'=>Nat.beq l l'&&Nat.beq i i'&&Nat.beq v v'&&Nat.beq x x'&&Nat.beq o o'
 |_,_=>false
theorem yw7 {x y:V} (h:ytr x y=true):x=y:=by
 unfold ytr at h;split at h
 ·simp only [Qag] at h;obtain ⟨⟨⟨⟨h1,h2⟩,h3⟩,h4⟩,h5⟩:=h;rw [Qaj h1,Qaj h2,Qaj h3,Qaj h4,Qaj h5]
 ·cases h
def z024 (P:Program) (H:kz3) (op:BinOp) (t:Nat) (x y:V):Option V :=
 match ytr x y,yx7 H x,P.underlying t with
 |true,some _,some (.pointer e)=>match (P.info? e).isSome,op with
  |true,.eql=>some (.bool true)
  |true,.neq=>some (.bool false)
  |_,_=>none
 |_,_,_=>none
theorem y5o {tp te:TypeId} {j:TypeInfo} (a:Addr) (hp:P.underlying tp=some (.pointer te)) (hte:P.info? te=some j) :
  (binOp .eql tp (.pointer (some a)) (.pointer (some a))).run P W = .ok (.bool true) W:=by
 have h:∀d:Nat,(Op.equalIn (d+1) tp (.pointer (some a)) (.pointer (some a))).run P W = .ok true W:=λd=>by
  simp [Op.equalIn,run_underlying hp,sizeOf,typeInfo,hte,run_sameAddr_same]
 simp only [binOp];simp [Op.equal,Op.maxDepth,h 9999]
theorem ysv (hG:Good W g H) {op:BinOp} {t:Nat} {x y:V} {v:V} {a b:Value} (xo yo:Operand) (h:z024 P H op t x y=some v) (hx:Rel W g H x a) (hy:Rel W g H y b) :
  z82 P W g H (do pure (.value (<-(do eqGuard op t xo yo a b;binOp op t a b)))) v H:=by
 unfold z024 at h;split at h
 ·rename_i p e h1 h2 h3;obtain rfl:=yw7 h1;obtain ⟨ty,sz,n,o⟩:=p;obtain ⟨blk,q,cells,rfl,k1,k2,k3,k4,k5⟩:=zum hG h2 hx
  have hb:b = .pointer (some ⟨blk,o,none⟩):=by
   obtain ⟨blk',q',cells',rfl,m1,m2,m3,m4,m5⟩:=zum hG h2 hy;unfold yx7 at h2;split at h2
   ·rename_i l i ver idx off;split at h2
    ·rename_i ver' ty' sz' xs cp hg;split at h2
     ·rename_i hc;simp only [Qag] at hc;obtain rfl:ver'=ver:=Qaj hc.1
      cases hx with
      |ap _ _ _ _ _ _ _ _ ha=>
       have e1:=ha _ _ _ _ hg
       cases hy with
       |ap _ _ _ _ _ _ _ _ ha'=>
        have e2:=ha' _ _ _ _ hg;rw [e1,e2]
     ·cases h2
    ·cases h2
   ·cases h2
  subst hb;split at h
  ·rename_i hi;obtain ⟨j,hj⟩:=Option.isSome_iff_exists.1 hi;injection h with h;subst h;exact ⟨_,W,g,.inl (by simp [eqGuard,y5o _ h3 hj]),.refl _ _ _,hG,.bool _⟩
  ·rename_i hi;obtain ⟨j,hj⟩:=Option.isSome_iff_exists.1 hi;injection h with h;subst h;exact ⟨_,W,g,.inl (by simp [eqGuard,Lib.run_neq_ptr_same _ _ h3 hj]),.refl _ _ _,hG,.bool _⟩
  ·cases h
 ·cases h
def z00h (H:kz3):V->Bool
 | .ap l i _ _ _=>match H.get l i with
   |some (.arr _ _ _ _ (some 1))=>true
   |_=>false
 |_=>false
def z00r (P:Program) (H:kz3) (s d:Nat) (x:V):Option V :=
 match P.underlying s,P.underlying d,yx7 H x with
 |some (.pointer t),some .unsafePointer,some _=>match P.info? t with
  |some j=>match Nat.blt 0 j.size with
   |true=>some x
   |false=>none
  |none=>none
 |some .unsafePointer,some (.pointer u),some (ty,sz,n,o)=>match P.info? u with
  |some _=>match Nat.beq (P.cellsOf ty) sz&&Nat.beq n 1&&z00h H x&&liesAt P P.depth ty 1 o u 1 with
   |true=>some x
   |false=>none
  |none=>none
 |_,_,_=>none
theorem yu6 (hG:Good W g H) {s d:Nat} {x v:V} {c:Value} (h:z00r P H s d x=some v) (hx:Rel W g H x c):z82 P W g H (do pure (.value (<-convert s d c))) v H:=by
 unfold z00r at h;split at h
 ·rename_i t p hs hd hp;obtain ⟨ty,sz,n,o⟩:=p;obtain ⟨blk,q,cells,rfl,k1,k2,k3,k4,k5⟩:=zum hG hp hx;split at h
  ·rename_i j hj;split at h
   ·rename_i hz;rw [Nat.blt_eq] at hz;injection h with h;subst h;have hlt:o<cells.size:=by rw [k2];exact Nat.lt_of_lt_of_le k5 (Qau _ k3)
    exact ⟨_,W,g,.inl (by simp [Lib.run_to_unsafe W ⟨blk,o,none⟩ hs hd hj (by omega) (show W.shape? blk=some (ty,cells.size) by simp [World.shape?,k1]) hlt]),.refl _ _ _,hG,hx⟩
   ·cases h
  ·cases h
 ·rename_i u ty sz n o hs hd hp;obtain ⟨blk,q,cells,rfl,k1,k2,k3,k4,k5⟩:=zum hG hp hx;split at h
  ·rename_i j hj;split at h
   ·rename_i hz;simp only [Qag] at hz;obtain ⟨⟨⟨z1,z2⟩,z3⟩,z4⟩:=hz;have e1:P.cellsOf ty=sz:=Qaj z1;injection h with h;subst h
    have hcells:cells.size=sz:=by
     unfold z00h at z3;split at z3
     ·rename_i l i ver idx off;split at z3
      ·rename_i ver' ty' sz' xs hg
       cases hx with
       |ap _ _ _ _ _ a _ _ ha=>
        simp only [yx7,hg] at hp;split at hp
        · rename_i hc;simp only [Qag] at hc;obtain rfl:ver'=ver:=Qaj hc.1;injection hp with hp;injection hp with a1 hp;injection hp with a2 hp;injection hp with a3 a4;have:=ha _ _ _ _ hg;injection this with e1' e2';obtain ⟨cc,m1,m2,m3,m3',m4,m5,_⟩:=hG.obj _ _ _ hg;rw [<-e1',k1] at m1;injection m1 with m1;injection m1 with m1 _ _;rw [m1,m3,m5 1 rfl,Nat.one_mul,a2]
        · cases hp
      ·cases z3
     ·cases z3
    have hq:cells.size / P.cellsOf ty=1:=by rw [hcells,e1];exact Nat.div_self k4
    exact ⟨_,W,g,.inl (by simp [Lib.run_from_unsafe W (e:=ty) (cells:=cells.size) ⟨blk,o,none⟩ hs hd hj (by simp [World.shape?,k1]) (by rw [hq];exact z4)]),.refl _ _ _,hG,hx⟩
   ·cases h
  ·cases h
 ·cases h
def zwo (H:kz3) (x:V):Option V:=match x with
 | .nils=>some .nilp
 | .hs l i ver off n full=>match H.get l i with
   |some (.arr ver' _ _ _ _)=>match Nat.beq ver' ver&&Nat.blt 0 n with
    |true=>some (.ap l i ver off 0)
    |false=>none
   |_=>none
 |_=>none
theorem y5s (hG:Good W g H) {x v:V} {c:Value} {ts:Array TypeId} {ty:TypeId} (h:zwo H x=some v) (hx:Rel W g H x c):z82 P W g H (do pure (.value (<-Builtin.unsafeSliceData_ ts ty #[c]))) v H:=by
 unfold zwo at h;split at h
 ·injection h with h;subst h
  cases hx with
  |nils=>exact ⟨_,W,g,.inl (by simp [Lib.run_unsafeSliceData_nil]),.refl _ _ _,hG,.nilp⟩
 ·rename_i l i ver off n full;split at h
  ·rename_i ver' ty' sz xs cp hg;split at h
   ·rename_i hc;simp only [Qag] at hc;obtain rfl:ver'=ver:=Qaj hc.1;have hn:0<n:=by have:=hc.2;rwa [Nat.blt_eq] at this
    injection h with h;subst h
    cases hx with
    |hs _ _ _ _ _ _ a m cap hd hv ha=>
     obtain ⟨rfl,rfl,⟨e1,e2,e3⟩,e4⟩:=ha _ _ _ _ hg;refine ⟨_,W,g,.inl (by rw [Qbw,Lib.run_unsafeSliceData_row W ts ty _ _ cap (by omega)];rfl),.refl _ _ _,hG,?_⟩;refine .ap l i ver' off 0 _ hd hv λty2 sz2 xs2 cp2 h2 => ?_
     obtain ⟨q1,_⟩:=ha _ _ _ _ h2;injection q1
   ·cases h
  ·cases h
 ·cases h
def ztk:List V->Option (List UInt8)
 |[]=>some []
 |v::r=>match v,ztk r with
  | .int .u8 (.ofNat m),some s=>match Nat.ble m 255 with
    |true=>some (m.toUInt8::s)
    |false=>none
  |_,_=>none
theorem zte:∀{vs:List V} {s:List UInt8},ztk vs=some s->s.length=vs.length∧∀(j:Nat) (x:UInt8),s[j]? = some x->vs[j]? = some (.int .u8 x.toNat)
 |[],s,h=>by simp only [ztk,Qbq] at h;subst h;exact ⟨rfl,by simp⟩
 |v::r,s,h=>by
  simp only [ztk] at h;split at h
  · rename_i m s' h2;split at h
    · rename_i hc;injection h with h;subst h;obtain ⟨k1,k2⟩:=zte h2;refine ⟨by simp [k1],λj x hj => ?_⟩
      cases j with
      |zero=>
       simp only [Qbz,Qbq] at hj ⊢;subst hj;have hc:=Nat.le_of_ble_eq_true hc
       have:(m.toUInt8).toNat=m:=by
        simp only [Nat.toUInt8,UInt8.toNat_ofNat'];omega
       rw [this];rfl
      |succ j=>simpa using k2 j x (by simpa using hj)
    · cases h
  · cases h
def ysu (P:Program) (H:kz3) (pt:Nat) (p n:V):Option (V×kz3) :=
 match p,n with
 | .nilp,.int .i64 (.ofNat 0)=>some (.str [],H)
 | .ap l i ver 0 0,.int .i64 (.ofNat m)=>match H.get l i,P.underlying pt with
   |some (.arr ver' ty sz xs cp),some (.pointer e)=>match Nat.beq ver' ver&&Nat.beq sz 1&&Nat.beq l H.lv&&Nat.beq e ty&&Nat.beq (P.cellsOf ty) 1&&Nat.blt 0 m&&Nat.ble m xs.length&&Nat.ble m zgh with
    |true=>match ztk (xs.take m) with
     |some s=>some (.str s,H.y2q i)
     |none=>none
    |false=>none
   |_,_=>none
 |_,_=>none
theorem ys1 (hG:Good W g H) {pt it ty:Nat} {p n v:V} {H':kz3} {cp cn:Value} (h:ysu P H pt p n=some (v,H')) (hp:Rel W g H p cp) (hn:Rel W g H n cn) :
  z82 P W g H (do pure (.value (<-Builtin.unsafeString_ #[pt,it] ty #[cp,cn]))) v H':=by
 unfold ysu at h;split at h
 ·injection h with h;injection h with h1 h2;subst h1;subst h2;cases hp;cases hn;exact ⟨_,W,g,.inl (by rw [Qbw,show Int.ofNat 0=(0:Int) from rfl,Lib.run_unsafeString_none W pt it ty none];rfl),.refl _ _ _,hG,.str []⟩
 ·rename_i l i ver m;split at h
  ·rename_i ver' ty' sz xs cap e hg hpt;split at h
   ·rename_i hc;simp only [Qag] at hc;obtain ⟨⟨⟨⟨⟨⟨⟨c1,c2⟩,c3⟩,c4⟩,c5⟩,c6⟩,c7⟩,c8⟩:=hc;obtain rfl:ver'=ver:=Qaj c1;obtain rfl:sz=1:=Qaj c2;obtain rfl:l=H.lv:=Qaj c3;obtain rfl:e=ty':=Qaj c4;have c5:P.cellsOf e=1:=Qaj c5;rw [Nat.blt_eq] at c6;have c7:=Nat.le_of_ble_eq_true c7
    have c8:=Nat.le_of_ble_eq_true c8;unfold zgh at c8;split at h
    ·rename_i s hs;injection h with h;injection h with h1 h2;subst h1;subst h2;obtain ⟨b1,b2⟩:=zte hs;have hsl:s.length=m:=by rw [b1,Qay];omega
     cases hn
     cases hp with
     |ap _ _ _ _ _ a hd hv ha=>
      obtain rfl:=ha _ _ _ _ hg;obtain ⟨cc,k1,k2,k3,k3',k4,k5,k6,k7,k8⟩:=hG.obj _ _ _ hg;have hlt:=hG.lt _ _ _ hg
      have hrun:=Lib.run_unsafeString_row (P:=P) W pt it ty e hpt c5 (g.ab H.lv i) cc.size (by simp [World.shape?,k1]) s (by intro hh;rw [hh] at hsl;simp at hsl;omega) (by rw [hsl,k3];omega) (by omega) (λj x hj=>by
       have hj':=b2 j x hj;have hjm:j<m:=by rw [<-hsl];exact (Qaa.1 hj).1
       rw [Qaw,Qbt hjm] at hj';have hrel:=k8 j _ 0 _ hj' rfl;have hadd:(⟨g.ab H.lv i,0,none⟩:Addr).add j=⟨g.ab H.lv i,j,none⟩:=by unfold Addr.add;split <;> simp_all
       have hjc:j<cc.size:=by rw [k3];omega
       rw [hadd,cell_of k1 hjc];rw [Nat.mul_one,Nat.add_zero] at hrel;generalize cc.getD j undef=q at hrel
       cases hrel;rfl)
      rw [hsl] at hrun;obtain ⟨g1,g2,g3,g4⟩:=yxc hG hg
      have hfz:∀k,k≠g.ab H.lv i->(W.freeze ⟨g.ab H.lv i,0,none⟩ m).heap[k]? = W.heap[k]? := λk hk=>by
       unfold World.freeze;split
       · rfl
       · simp only [Array.getElem?_modify];rw [Qbu (λe=>hk e.symm)]
      have hsize:(W.freeze ⟨g.ab H.lv i,0,none⟩ m).heap.size=W.heap.size:=by unfold World.freeze;split <;> simp
      have hos:(W.freeze ⟨g.ab H.lv i,0,none⟩ m).os=W.os∧(W.freeze ⟨g.ab H.lv i,0,none⟩ m).tape=W.tape∧(W.freeze ⟨g.ab H.lv i,0,none⟩ m).output=W.output:=by unfold World.freeze;split <;> exact ⟨rfl,rfl,rfl⟩
      have hob:Own g H (g.ab H.lv i):=⟨_,_,_,hg,rfl⟩
      have hst:Step W g H (W.freeze ⟨g.ab H.lv i,0,none⟩ m) g (H.y2q i) :=
       ⟨hos.1,hos.2.1,hos.2.2,Nat.le_of_eq hsize.symm,λb hb hno=>hfz b (λe=>hno (by rw [e];exact hob)),g2.own,g2.dom,g2.new,g2.blk,g2.arr,g2.lv⟩
      have hst2:∀l k o,(H.y2q i).get l k=some o->o.blk g l k≠g.ab H.lv i:=λl k o ho e=>by
       obtain ⟨q1,q2⟩:=kz3.zgg ho;exact q2 (hG.inj _ _ _ _ _ _ q1 hg e)
      refine ⟨.string ⟨s.toArray⟩,_,g,.inl (by rw [Qbw,show Int.ofNat m=((m:Nat):Int) from rfl,hrun];rfl),hst,⟨g1.dom,λl k o ho=>by rw [hsize];exact g1.lt l k o ho,g1.inj,g1.fresh,λl k o ho => ?_,hG.glob.step hst⟩,.str s⟩;have ho':=hG.obj l k o (kz3.zgg ho).1;exact ho'.mono hst (hfz _ (hst2 l k o ho)) rfl rfl rfl
    ·cases h
   ·cases h
  ·cases h
 ·cases h
def zxk (P:Program) (H:kz3) (t:Nat) (n c:V):Option (V×kz3) :=
 match n,c with
 | .int _ (.ofNat n),.int _ (.ofNat c)=>match P.underlying t with
   |some (.slice e)=>match P.info? e,zeroV P e with
    |some i,some z=>match z.zzn&&Nat.beq z.cells.length i.size&&Nat.blt 0 i.size&&Nat.ble n c&&Nat.ble c 1000000&&Nat.ble i.bytes 100000 with
     |true=>some (.hs H.lv H.L.length 0 0 n false,H.push (.arr 0 e i.size (List.replicate n z) none))
     |false=>none
    |_,_=>none
   |_=>none
 |_,_=>none
theorem zvg (z:Array Value) (n j t sz:Nat) (hz:z.size=sz) (ht:t<sz) (hj:j<n):(madeCells z (n * sz)).getD (j * sz+t) undef=z.getD t undef:=by
 have hlt:j * sz+t<n * sz:=by
  have:(j+1) * sz<=n * sz:=Qau _ hj;rw [Nat.succ_mul] at this;omega
 have hm:(j * sz+t) % z.size=t:=by rw [hz,Nat.mul_comm,Nat.mul_add_mod,Nat.mod_eq_of_lt ht]
 simp only [madeCells,Qae,Array.getElem?_map];rw [show (Array.range (n * sz))[j * sz+t]? = some (j * sz+t) by simp [hlt]];simp only [Qbn,Option.getD_some,hm];rw [getElem!_pos z t (by omega),Qas (by omega)];rfl
theorem y46 (hG:Good W g H) {t:Nat} {n c v:V} {H':kz3} {cn cc:Value} (h:zxk P H t n c=some (v,H')) (hn:Rel W g H n cn) (hcc:Rel W g H c cc):z82 P W g H (do pure (.value (<-Instr.makeSlice t cn cc))) v H':=by
 unfold zxk at h;split at h
 ·rename_i k1 n k2 c;split at h
  ·rename_i e ht;split at h
   ·rename_i i z hi hz;split at h
    ·rename_i hc;simp only [Qag] at hc;obtain ⟨⟨⟨⟨⟨c1,c2⟩,c3⟩,c4⟩,c5⟩,c6⟩:=hc;have c2:=Qaj c2;rw [Nat.blt_eq] at c3;have c4:=Nat.le_of_ble_eq_true c4;have c5:=Nat.le_of_ble_eq_true c5;have c6:=Nat.le_of_ble_eq_true c6;injection h with h;injection h with h1 h2;subst h1;subst h2;cases hn;cases hcc
     obtain ⟨zc,hz1,hz2⟩:∃zc,i.zero=some zc∧Rel W g H z zc:=by
      simp only [zeroV,hi,Option.bind_some,Qaf] at hz;obtain ⟨zc,q1,rfl⟩:=hz;exact ⟨zc,q1,zp0 zc⟩
     obtain ⟨r1,r2,r3⟩:=zef c1 hz2;have hb:i.bytes * c<=100000 * 1000000:=Nat.mul_le_mul c6 c5;have hrun:=run_make (P:=P) W t e i zc ht hi hz1 k1 k2 (Int.ofNat n) (Int.ofNat c) (Int.natCast_nonneg n) (by show ((n:Nat):Int)<=(c:Nat);omega) (by show ((i.bytes:Nat):Int) * ((c:Nat):Int)<=_;rw [<-Int.natCast_mul];omega) (by show ((c:Nat):Int)<=_;omega);simp only [Int.toNat,Int.ofNat_eq_natCast] at hrun
     obtain ⟨h1,h2⟩:=zhd hG (O:=.cells (madeCells zc.cells (c * i.size)) e) (o:=.arr 0 e i.size (List.replicate n z) none) c (λW' g' H' hW hg hH hst=>by
      have hcap:g'.cap H.lv H.L.length=c:=by rw [hg];simp [Gh.add]
      refine ⟨madeCells zc.cells (c * i.size),?_,c3,by rw [hcap,size_madeCells],by rw [hcap];unfold maxLen;omega,by rw [hcap];simpa using c4,by simp,λj x hj => ?_,λj x tt u hj htt => ?_,λj x tt u hj htt => ?_⟩
      ·rw [hW,hg];simp only [Gh.add,and_self,if_true];exact z2r _ _
      all_goals
       rw [List.getElem?_replicate] at hj;split at hj
       ·rename_i hjn;injection hj with hj;subst hj
        first
        |exact c2
        |(have htl:tt<i.size:=by rw [<-c2];exact (Qaa.1 htt).1
          rw [zvg zc.cells c j tt i.size (by rw [r1,c2]) htl (by omega)]
          first|exact r2 tt u htt|exact (r3 tt u htt).mono hst)
       ·cases hj)
     refine ⟨.slice (some ⟨W.heap.size,0,none⟩) n c,_,_,.inl (by rw [Qbw,show Int.ofNat n=((n:Nat):Int) from rfl,show Int.ofNat c=((c:Nat):Int) from rfl,hrun];rfl),h1,h2,?_⟩;refine .hs H.lv H.L.length 0 0 n false _ n c (.inr ⟨rfl,rfl⟩) (λ_ _ _ _ _ _=>Qbr _) λty2 sz2 xs2 cp2 hg2 => ?_
     rw [kz3.zie,Qbt ⟨rfl,rfl⟩] at hg2;injection hg2 with hg2;injection hg2 with _ _ _ e4 _;refine ⟨by simp [Gh.add],rfl,⟨c4,by simp [Gh.add],λhh=>by cases hh⟩,by rw [<-e4];simp⟩
    ·cases h
   ·cases h
  ·cases h
 ·cases h
def y2h (P:Program) (t:Nat) (n c:V):Option V :=
 match n,c with
 | .int _ (.ofNat n),.int _ (.ofNat c)=>match P.underlying t with
   |some (.slice e)=>match P.info? e,zeroV P e with
    |some i,some z=>match z.zzn&&Nat.beq z.cells.length i.size&&Nat.blt 0 i.size&&Nat.ble n c&&Nat.ble c 1000000&&Nat.ble i.bytes 100000 with
     |true=>some (.sl i.size (List.replicate n z) (Nat.beq n c))
     |false=>none
    |_,_=>none
   |_=>none
 |_,_=>none
theorem y6y (hG:Good W g H) {t:Nat} {n c v:V} {cn cc:Value} (h:y2h P t n c=some v) (hn:Rel W g H n cn) (hcc:Rel W g H c cc):z82 P W g H (do pure (.value (<-Instr.makeSlice t cn cc))) v H:=by
 unfold y2h at h;split at h
 ·rename_i k1 n k2 c;split at h
  ·rename_i e ht;split at h
   ·rename_i i z hi hz;split at h
    ·rename_i hc;simp only [Qag] at hc;obtain ⟨⟨⟨⟨⟨c1,c2⟩,c3⟩,c4⟩,c5⟩,c6⟩:=hc;have c2:=Qaj c2;rw [Nat.blt_eq] at c3;have c4:=Nat.le_of_ble_eq_true c4;have c5:=Nat.le_of_ble_eq_true c5;have c6:=Nat.le_of_ble_eq_true c6;injection h with h;subst h;cases hn;cases hcc
     obtain ⟨zc,hz1,hz2⟩:∃zc,i.zero=some zc∧Rel W g H z zc:=by
      simp only [zeroV,hi,Option.bind_some,Qaf] at hz;obtain ⟨zc,q1,rfl⟩:=hz;exact ⟨zc,q1,zp0 zc⟩
     obtain ⟨r1,r2,r3⟩:=zef c1 hz2;have hb:i.bytes * c<=100000 * 1000000:=Nat.mul_le_mul c6 c5;have hrun:=run_make (P:=P) W t e i zc ht hi hz1 k1 k2 (Int.ofNat n) (Int.ofNat c) (Int.natCast_nonneg n) (by show ((n:Nat):Int)<=(c:Nat);omega) (by show ((i.bytes:Nat):Int) * ((c:Nat):Int)<=_;rw [<-Int.natCast_mul];omega) (by show ((c:Nat):Int)<=_;omega);simp only [Int.toNat,Int.ofNat_eq_natCast] at hrun
     have hgr:=Grow.alloc W (.cells (madeCells zc.cells (c * i.size)) e);refine ⟨.slice (some ⟨W.heap.size,0,none⟩) n c,_,g,.inl (by rw [Qbw,show Int.ofNat n=((n:Nat):Int) from rfl,show Int.ofNat c=((c:Nat):Int) from rfl,hrun];rfl),hgr.step,hG.grow hgr,?_⟩
     have at':∀(j:Nat) (x:V) (tt:Nat) (u:V),(List.replicate n z)[j]? = some x->x.cells[tt]? = some u->x=z∧j<n∧tt<i.size:=λj x tt u hj hu=>by
      rw [List.getElem?_replicate] at hj;split at hj
      ·rename_i hjn;injection hj with hj;subst hj;exact ⟨rfl,hjn,by rw [<-c2];exact (Qaa.1 hu).1⟩
      ·cases hj
     have hr:=Rel.sl (W:=W.alloc (.cells (madeCells zc.cells (c * i.size)) e)) (g:=g) (H:=H) i.size (List.replicate n z) (Nat.beq n c) W.heap.size 0 c (λj tt=>zc.cells.getD tt undef) (λhn=>by
      obtain ⟨l,k,o,ho,hb⟩:=hn;have:=hG.lt l k o ho
      omega) c3 (by simpa using c4) (λhf=>by rw [List.length_replicate];exact (Qaj hf).symm) (λj x hj=>by
      rw [List.getElem?_replicate] at hj;split at hj
      ·injection hj with hj;subst hj;exact c2
      ·cases hj) (λj x tt u hj hu=>by
      obtain ⟨rfl,hjn,htl⟩:=at' j x tt u hj hu;rw [Nat.zero_add,World.cell?_alloc_new]
      have hlt:j * i.size+tt<c * i.size:=by
       have:(j+1) * i.size<=c * i.size:=Qau _ (by omega);rw [Nat.succ_mul] at this;omega
      have hm:=zvg zc.cells c j tt i.size (by rw [r1,c2]) htl (by omega);rw [Qae,Qas (by rw [size_madeCells];exact hlt)] at hm;rw [Qas (by rw [size_madeCells];exact hlt)]
      simpa using hm) (λj x tt u hj hu=>by
      obtain ⟨rfl,hjn,htl⟩:=at' j x tt u hj hu
      exact r2 tt u hu) (λj x tt u hj hu=>by
      obtain ⟨rfl,hjn,htl⟩:=at' j x tt u hj hu
      exact (r3 tt u hu).mono hgr.step)
     rw [List.length_replicate] at hr;exact hr
    ·cases h
   ·cases h
  ·cases h
 ·cases h
def isC:Operand->Bool
 | .const _=>true
 |_=>false
def y2r (P:Program) (op:BinOp) (t:Nat) (xo yo:Operand) (x y:V):Option V:=match x,y,isC xo||isC yo,P.underlying t with
 | .nili,.nili,true,some (.interface _)=>match op with
   | .eql=>some (.bool true)
   | .neq=>some (.bool false)
   |_=>none
 |_,_,_,_=>none
theorem yq4 (hG:Good W g H) {op:BinOp} {t:Nat} {xo yo:Operand} {x y v:V} {a b:Value} (h:y2r P op t xo yo x y=some v) (hx:Rel W g H x a) (hy:Rel W g H y b) :
  z82 P W g H (do pure (.value (<-(do eqGuard op t xo yo a b;binOp op t a b)))) v H:=by
 unfold y2r at h;split at h
 ·rename_i ms hc hu;cases hx;cases hy
  have hg:(eqGuard op t xo yo .nilIface .nilIface).run P W = .ok () W:=by
   cases xo <;> cases yo <;> first|(simp [isC] at hc;done)|(cases op <;> simp [eqGuard])
  have he:∀d:Nat,(Op.equalIn (d+1) t .nilIface .nilIface).run P W = .ok true W:=λd=>by
   simp [Op.equalIn,zz5 hu]
  have hu':(Op.equal t .nilIface .nilIface).run P W = .ok true W:=he 9999;split at h
  ·injection h with h;subst h;exact ⟨_,W,g,.inl (by simp [hg,binOp_eql (a:=.nilIface) rfl,hu']),.refl _ _ _,hG,.bool _⟩
  ·injection h with h;subst h;exact ⟨_,W,g,.inl (by simp [hg,binOp_neq (a:=.nilIface) rfl,hu']),.refl _ _ _,hG,.bool _⟩
  ·cases h
 ·cases h
def hEq2 (P:Program) (H:kz3) (op:BinOp) (t:Nat) (xo yo:Operand) (x y:V):Option V:=match y2r P op t xo yo x y with
 |some v=>some v
 |none=>z024 P H op t x y
theorem yy6 (hG:Good W g H) {op:BinOp} {t:Nat} {xo yo:Operand} {x y v:V} {a b:Value} (h:hEq2 P H op t xo yo x y=some v) (hx:Rel W g H x a) (hy:Rel W g H y b) :
  z82 P W g H (do pure (.value (<-(do eqGuard op t xo yo a b;binOp op t a b)))) v H:=by
 unfold hEq2 at h;split at h
 ·rename_i u hu;injection h with h;subst h;exact yq4 hG hu hx hy
 ·exact ysv hG xo yo h hx hy
def hStr (P:Program) (s d:Nat) (x:V):Option V:=match P.underlying s,P.underlying d with
 |some (.slice e),some .string=>match P.underlying e with
  |some (.int .u8)=>match x with
   | .nils=>some (.str [])
   | .sl 1 ws _=>(ztk ws).map .str
   |_=>none
  |_=>none
 |_,_=>none
theorem zwq {s d e:Nat} (a:Option Addr) (c:Nat) (hs:P.underlying s=some (.slice e)) (he:P.underlying e=some (.int .u8)) (hd:P.underlying d=some .string):(convert s d (.slice a 0 c)).run P W = .ok (.string ⟨#[]⟩) W:=by
 rw [run_convert_bytes_string W s d e _ 0 c hs he hd];cases a <;> simp [Conv.bytesToString,loadCells]
 all_goals rfl
theorem y6z (hG:Good W g H) {s d:Nat} {x v:V} {c:Value} (h:hStr P s d x=some v) (hx:Rel W g H x c):z82 P W g H (do pure (.value (<-convert s d c))) v H:=by
 unfold hStr at h;split at h
 ·rename_i e hs hd;split at h
  ·rename_i he;split at h
   ·injection h with h;subst h;cases hx;exact ⟨_,W,g,.inl (by simp [zwq none 0 hs he hd]),.refl _ _ _,hG,.str []⟩
   ·rename_i ws fl;rw [Qaf] at h;obtain ⟨l,hl,rfl⟩:=h;obtain ⟨b1,b2⟩:=zte hl;have nil:ws=[]->l=[]:=λe=>Qao (by rw [b1,e];rfl)
    cases hx with
    |slnil=>
     obtain rfl:=nil rfl
     exact ⟨_,W,g,.inl (by simp [zwq none 0 hs he hd]),.refl _ _ _,hG,.str []⟩
    |sle _ _ a cap hf=>
     obtain rfl:=nil rfl
     exact ⟨_,W,g,.inl (by simp [zwq (some a) cap hs he hd]),.refl _ _ _,hG,.str []⟩
    |sl _ _ _ b o cap cc hb hz hcap hf hss hc h1 hr=>
     have hrun:=run_convert_bytes_back (P:=P) W s d e ⟨b,o,none⟩ cap l hs he hd λj hj=>by
      have e1:ws[j]? = some (.int .u8 l[j].toNat):=b2 j _ (Qab hj);have e2:=hc j _ 0 (.int .u8 l[j].toNat) e1 rfl;have e3:=hr j _ 0 (.int .u8 l[j].toNat) e1 rfl;generalize hq:cc j 0=q at e2 e3;cases e3;rw [<-e2]
      congr 1
      unfold Addr.add;split <;> simp_all
     rw [b1] at hrun;exact ⟨_,W,g,.inl (by simp [hrun]),.refl _ _ _,hG,.str l⟩
   ·cases h
  ·cases h
 ·cases h
def yu7 (P:Program) (H:kz3) (s d:Nat) (x:V):Option V:=match z00r P H s d x with
 |some v=>some v
 |none=>hStr P s d x
theorem ys6 (hG:Good W g H) {s d:Nat} {x v:V} {c:Value} (h:yu7 P H s d x=some v) (hx:Rel W g H x c):z82 P W g H (do pure (.value (<-convert s d c))) v H:=by
 unfold yu7 at h;split at h
 ·rename_i u hu;injection h with h;subst h;exact yu6 hG hu hx
 ·exact y6z hG h hx
def zq9 (P:Program) (H:kz3) (ρ:Operand->V) (op:Op):Option (V×kz3):=match op with
 | .alloc t=>match z03z P t with
   |true=>y6c P H t
   |false=>none
 | .makeSlice t n c=>zxk P H t (ρ n) (ρ c)
 | .convert s d x=>(yu7 P H s d (ρ x)).map λv=>(v,H)
 | .binOp op t x y _=>(hEq2 P H op t x y (ρ x) (ρ y)).map λv=>(v,H)
 | .call c=>match c.callee with
   | .builtin .unsafeSliceData=>match c.args.toList with
     |[x]=>(zwo H (ρ x)).map λv=>(v,H)
     |_=>none
   | .builtin .unsafeString=>match c.args.toList,c.argTypes.toList with
     |[p,n],[pt,_]=>ysu P H pt (ρ p) (ρ n)
     |_,_=>none
   |_=>none
 |_=>none
theorem zse {ρ:Operand->V} {r:Operand->Value} {o:Oper} {v:V} {H':kz3} (hG:Good W g H) (hρ:∀x,Rel W g H (ρ x) (r x)) (h:zq9 P H ρ o.op=some (v,H')):z82 P W g H (execOp r o) v H':=by
 have pure':∀{q:Option V},(q.map λv=>(v,H))=some (v,H')->q=some v∧H'=H:=λ{q} h=>by
  simp only [Qaf] at h;obtain ⟨u,hu,heq⟩:=h;injection heq with h1 h2;exact ⟨by rw [hu,h1],h2.symm⟩
 unfold zq9 at h;split at h
 ·rename_i t heq;split at h
  ·unfold execOp;rw [heq];exact yn6 hG h
  ·cases h
 ·rename_i t n c heq;unfold execOp;rw [heq];exact y46 hG h (hρ n) (hρ c)
 ·rename_i s d x heq;obtain ⟨h,rfl⟩:=pure' h;unfold execOp;rw [heq];exact ys6 hG h (hρ x)
 ·rename_i op t x y _ heq;obtain ⟨h,rfl⟩:=pure' h;unfold execOp;rw [heq];exact yy6 hG h (hρ x) (hρ y)
 ·rename_i c heq;unfold execOp;rw [heq];obtain ⟨callee,args,argTypes⟩:=c;simp only at h;split at h
  ·split at h
   ·rename_i x hargs;obtain ⟨h,rfl⟩:=pure' h;obtain rfl:=z0a hargs;have:=y5s (P:=P) (ts:=argTypes) (ty:=o.type) hG h (hρ x);obtain ⟨c,W',g',h1,h2,h3,h4⟩:=this;refine ⟨c,W',g',?_,h2,h3,h4⟩
    rcases h1 with h1|⟨h1,h1'⟩
    ·left;rw [<-h1];simp [resolve,invoke,builtin]
    ·right;refine ⟨?_,h1'⟩;rw [<-h1];simp [resolve,invoke,builtin]
   ·cases h
  ·split at h
   ·rename_i p n pt it hargs htys;obtain rfl:=z0a hargs;obtain rfl:=z0a htys;have:=ys1 (P:=P) (it:=it) (ty:=o.type) hG h (hρ p) (hρ n);obtain ⟨c,W',g',h1,h2,h3,h4⟩:=this;refine ⟨c,W',g',?_,h2,h3,h4⟩
    rcases h1 with h1|⟨h1,h1'⟩
    ·left;rw [<-h1];simp [resolve,invoke,builtin]
    ·right;refine ⟨?_,h1'⟩;rw [<-h1];simp [resolve,invoke,builtin]
   ·cases h
  ·cases h
 ·cases h
end
section
variable {W : World} {g : Gh} {H : kz3} {P : Program}
def yb8:kz3:=⟨0,[],λ_ _=>none⟩
theorem yqn {sz:Nat} {x:V} {ys:List V} (h:zkx yb8 sz x=some ys) (H:kz3):zkx H sz x=some ys:=by
 have hg:∀l i,yb8.get l i=none:=λl i=>by unfold kz3.get yb8;split <;> simp
 cases x <;> simp_all [zkx,zcd]
def zt1 (P:Program) (t u:Nat) (s x:V):Option V :=
 match s with
 | .sl sz xs true=>match P.underlying t,P.underlying u with
   |some (.slice e),some du=>match P.info? e with
    |some i=>match i.zero,zkx yb8 i.size x with
     |some z,some ys=>match ztz du&&decide (0<i.size)&&decide (i.bytes<=524288)&&z.cells.size==i.size&&Nat.beq sz i.size&&Nat.ble (xs.length+ys.length) zgh with
      |true=>some (.sl sz (xs++ys) false)
      |false=>none
     |_,_=>none
    |none=>none
   |_,_=>none
 |_=>none
theorem ytd {sz:Nat} {xs:List V} {c:Value} (h:Rel W g H (.sl sz xs true) c):Rel W g H (.sl sz xs false) c:=by
 cases h with
 |slnil=>exact .slnil _ _
 |sle _ _ a cap hf=>exact .sle _ _ a cap (λh=>by cases h)
 |sl _ _ _ b o cap c hb hz hcap hf hs hc h1 hr=>exact .sl _ _ _ b o cap c hb hz hcap (λh=>by cases h) hs hc h1 hr
theorem yd3 (hG:Good W g H) {t u ty:TypeId} {s x v:V} {cs cx:Value} (h:zt1 P t u s x=some v) (hs:Rel W g H s cs) (hx:Rel W g H x cx) :
  z82 P W g H (do pure (.value (<-Builtin.append_ #[t,u] ty #[cs,cx]))) v H:=by
 unfold zt1 at h;split at h
 case h_2=>cases h
 rename_i sz xs;split at h
 case h_2=>cases h
 rename_i e du ht hu;split at h
 case h_2=>cases h
 rename_i i hi;split at h
 case h_2=>cases h
 rename_i z ys hz hys;split at h
 case h_2=>cases h
 rename_i hc;injection h with h;subst h;simp only [Qag,Qar,Qbj] at hc;obtain ⟨⟨⟨⟨⟨c1,c2⟩,c3⟩,c4⟩,c5⟩,c6⟩:=hc;have c5:=Qaj c5;have hroom:=Nat.le_of_ble_eq_true c6;subst c5;have hdu:∀k,du ≠ .int k:=λk hk=>by subst hk;simp [ztz] at c1
 obtain ⟨hlen,news,n1,n2,n3,n4⟩:=yi4 (P:=P) hG c2 (yqn hys H) hx;obtain ⟨a,n,cap,rfl,rfl,o2,olds,o3,o4,o5,o6⟩:=znw (P:=P) hG c2 (show zcd H i.size (.sl i.size xs true)=some xs by simp [zcd]) hs
 have hfull:cap=xs.length:=by
  cases hs with
  |slnil=>rfl
  |sle _ _ _ _ hf=>exact hf rfl
  |sl _ _ _ _ _ _ _ _ _ _ hf=>exact hf rfl
 cases ys with
 |nil=>
  have hz0:news = #[]:=by simpa using n1
  have:=zss (P:=P) (W:=W) (ty:=ty) (base:=a) ht hu hdu hi hlen (n4 W.drawn) hz0 o2;refine ⟨.slice a xs.length cap,W,g,.inl (by rw [Qbw,this];rfl),.refl _ _ _,hG,?_⟩
  rw [List.append_nil];exact ytd hs
 |cons y r=>
  have hb:xs.length+(y::r).length<=268435456:=hroom
  have hbytes:(xs.length+(y::r).length) * i.bytes<=140737488355328:=by
   calc (xs.length+(y::r).length) * i.bytes<=268435456 * 524288:=Nat.mul_le_mul hb c3
    _=_:=by decide
  have hcap:cap<xs.length+(y::r).length:=by simp;omega
  obtain ⟨cap',d,k1,k2,k3⟩:=zt7 (P:=P) (W:=W) (ty:=ty) (base:=a) ht hu hdu hi hz hlen o6 n4 hcap (by omega) (growslice_fits hcap hbytes)
  have hsz:(olds++news++Builtin.zeroCells z.cells (cap'-(xs.length+(y::r).length))).size=cap' * i.size:=by
   rw [Array.size_append,Array.size_append,size_zeroCells,o3,n1,c4,<-Nat.add_mul,<-Nat.add_mul]
   congr 1;omega
  have hF:ztq W g H i.size (xs++y::r) (olds++news++Builtin.zeroCells z.cells (cap'-(xs.length+(y::r).length))):=by
   refine o5.append n3 (λj hj => ?_) (λj hj => ?_)
   · rw [Array.append_assoc,z5q (by rw [o3];exact hj)]
   · rw [Array.append_assoc,<-o3,zht,z5q (by rw [n1];exact hj)]
  have hgr:=(Grow.drawn W d).trans (Grow.alloc {W with drawn:=d} (.cells (olds++news++Builtin.zeroCells z.cells (cap'-(xs.length+(y::r).length))) e));have hF':=hF.mono (hgr.step (g:=g) (H:=H));have hlen':xs.length+(y::r).length=(xs++y::r).length:=by simp
  refine ⟨.slice (some ⟨W.heap.size,0,none⟩) (xs.length+(y::r).length) cap',_,g,.inl (by rw [Qbw,k3];rfl),hgr.step,hG.grow hgr,?_⟩;rw [show Value.slice (some ⟨W.heap.size,0,none⟩) (xs.length+(y::r).length) cap'=Value.slice (some ⟨W.heap.size,0,none⟩) (xs++y::r).length cap' by rw [hlen']]
  refine Rel.sl i.size (xs++y::r) false W.heap.size 0 cap' (λj tt=>(olds++news++Builtin.zeroCells z.cells (cap'-(xs.length+(y::r).length))).getD (j * i.size+tt) undef) (λhn=>by
   obtain ⟨l,k,o,ho,hb⟩:=hn;have:=hG.lt l k o ho
   omega) c2 (by rw [<-hlen'];exact k1) (λh=>by cases h) hF'.1 (λj x tt u hj hu => ?_) hF'.2.1 hF'.2.2
  have hl:=hF'.1 j x hj;have hjl:=(Qaa.1 hj).1;have htl:=(Qaa.1 hu).1
  have hlt:j * i.size+tt<cap' * i.size:=by
   have:(j+1) * i.size<=cap' * i.size:=Qau _ (by omega);rw [Nat.succ_mul] at this;omega
  rw [Nat.zero_add];show World.cell? (({W with drawn:=d}:World).alloc _) ⟨({W with drawn:=d}:World).heap.size,_,none⟩=_;rw [World.cell?_alloc_new,Qae,Qas (by rw [hsz];exact hlt)];rfl
end
end Go.Ab
