/-
  Texts.
-/
import Derived.Test.YthphaiccgnkobaaGreatDoorLib0
import Derived.Laws.CopyRow
import Derived.OrdersIn
import Derived.OwnWalkIn
import Derived.ControlIn
import Derived.CallsIn
import Derived.RangeFuncCalls
import Derived.Deep.LoopGhost
import Derived.IntWalk
import Derived.StillTail
set_option linter.defProp false
set_option linter.unusedSimpArgs false
set_option linter.unusedVariables false
namespace Go.Ab
open Go
section
variable {W:World}{g:Gh}{H:Heap}{P:Program}
def y2k(W:World)(g:Gh)(H:Heap)(d:Nat)(b:List V)(cs:Array Value):Prop :=
 (∀(j:Nat) (y),b[j]? = some y->y.cells.length=d)∧(∀(j) (y) (t) (v),b[j]? = some y->y.cells[t]? = some v->(cs.getD (j * d+t) undef).oneCell'=true) ∧
  ∀(j) (y) (t) (v),b[j]? = some y->y.cells[t]? = some v->Rel W g H v (cs.getD (j * d+t) undef)
theorem y2k.mono{d b cs}(h:y2k W g H d b cs){W' g' H'}(s:Step W g H W' g' H'):y2k W' g' H' d b cs :=
 ⟨h.1,h.2.1,λj y t v i e=>(h.2.2 j y t v i e).mono s⟩
theorem ybd{b n j t:Nat}(d:j<n)(e:t<b):j * b+t<n * b:=by
 calc j * b+t<j * b+b:=by omega
  _=(j+1) * b:=by rw[Nat.succ_mul]
  _<=_:=Qau _ d
def y2k.append{h xs m a b r}(q:y2k W g H h xs a)(p:y2k W g H h m b)
  (C:∀i,i<xs.length * h->r.getD i undef=a.getD i undef) (B:∀i,i<m.length * h->r.getD (xs.length * h+i) undef=b.getD i undef):y2k W g H h (xs++m) r:=by
 have o:∀(j:Nat) (y:V) (t:Nat) (v:V),(xs++m)[j]? = some y->y.cells[t]? = some v ->
   (xs[j]? = some y∧r.getD (j * h+t) undef=a.getD (j * h+t) undef)∨(m[j-xs.length]? = some y∧r.getD (j * h+t) undef=b.getD ((j-xs.length) * h+t) undef):=λj y t v d k=>by
  have s:=(Qaa.1 k).1;rw[Qaz]at d;split at d;rename_i u;have:=q.1 _ _ d
  grind[ybd]
  rename_i z;have A:=(Qaa.1 d).1;have:=p.1 _ _ d;refine .inr ⟨d,?_⟩
  have e:j * h+t=xs.length * h+((j-xs.length) * h+t):=by
   rw[<-Nat.add_assoc,<-Nat.add_mul];congr 2;omega
  simp_all[ybd]
 refine⟨λj y d =>?_,λj y t v d k =>?_,λj y t v d k =>?_⟩;rw[Qaz]at d;split at d;exact q.1 _ _ d;exact p.1 _ _ d
 rcases o j y t v d k with ⟨l,n⟩|⟨l,n⟩ <;> rw[n]
 exact q.2.1 _ _ _ _ l k;exact p.2.1 _ _ _ _ l k
 rcases o j y t v d k with ⟨l,n⟩|⟨l,n⟩ <;> rw[n]
 exact q.2.2 _ _ _ _ l k;exact p.2.2 _ _ _ _ l k
def zeo(H:Heap)(h:Nat):V->Option (List V)
 |.nils=>some []
 |.sl s xs _=>if s=h then some xs else none
 |.hs l i d e n _=>match H.get l i with
  |some (.arr b _ s xs _)=>if b=d∧s=h then some ((xs.drop e).take n)else none
  |_=>none
 |_=>none
def y84{l i d ty b xs h}(z:Good W g H)(u:H.get l i=some (.arr d ty b xs h)) :
  ∃c,W.heap[g.ab l i]? = some (.cells c ty (0,0))∧0<b∧c.size=g.cap l i * b∧g.cap l i<=maxLen∧xs.length<=g.cap l i∧(∀n,h=some n->g.cap l i=n)∧y2k W g H b xs c:=by
 have⟨c,s,r,q,e,p,o,m,k,j⟩:=z.obj _ _ _ u;exact⟨c,s,r,q,e,p,o,m,k,j⟩
def zqs(hG:Good W g H){q:Nat}{x:V}{c:Value}{z:List V}(M:0<q)(h:zeo H q x=some z)(N:Rel W g H x c) :
  ∃a n e,c = .slice a n e∧n=z.length∧n<=e∧∃news:Array Value,news.size=n * q∧(∀v∈news.toList,v.oneCell'=true)∧y2k W g H q z news ∧
   ∀d:Nat,(Builtin.firstCells q n c).run P {W with drawn:=d} = .ok news {W with drawn:=d}:=by
 have mk:∀(b o:Nat) (n e:Nat) (f:Nat->Value),n=z.length->(∀i,i<n * q->W.cell? ⟨b,o+i,none⟩=some (f i))->(∀i,i<n * q->(f i).oneCell'=true)->(∀(j:Nat) (y:V),z[j]? = some y->y.cells.length=q) ->
   (∀(j:Nat) (y:V) (t:Nat) (v:V),z[j]? = some y->y.cells[t]? = some v->Rel W g H v (f (j * q+t))) ->
   ∃news:Array Value,news.size=n * q∧(∀v∈news.toList,v.oneCell'=true)∧y2k W g H q z news∧∀d:Nat,(Builtin.firstCells q n (.slice (some ⟨b,o,none⟩) n e)).run P {W with drawn:=d} = .ok news {W with drawn:=d}:=by
  intro b o n e f hn hf C hl R
  have D:∀i,i<n * q->(((List.range (n * q)).map f).toArray).getD i undef=f i:=λi hi=>by
   rw[Qae];simp[hi]
  have A:∀(j:Nat) (y:V) (t:Nat) (v:V),z[j]? = some y->y.cells[t]? = some v->j * q+t<n * q:=λj y t v r u=>
   ybd (by rw[hn];exact(Qaa.1 r).1) (by rw[<-hl j y r];exact(Qaa.1 u).1)
  refine⟨((List.range (n * q)).map f).toArray,by simp,λv O =>?_,⟨hl,λj y t v r u =>?_,λj y t v r u =>?_⟩,λd =>?_⟩;simp only[Qbb,List.mem_range]at O;obtain⟨i,hi,rfl⟩:=O;exact C i hi;rw[D _ (A j y t v r u)];exact C _ (A j y t v r u);rw[D _ (A j y t v r u)];exact R j y t v r u;simp only[Builtin.firstCells]
  exact run_loadCells _ ⟨b,o,none⟩ (n * q) f (λi hi=>by rw[add_eq];exact hf i hi)
 have empty:∀(a:Option Addr) (e:Nat),z=[]->c = .slice a 0 e->∃a n e,c = .slice a n e∧n=z.length∧n<=e∧∃news:Array Value,news.size=n * q∧(∀v∈news.toList,v.oneCell'=true)∧y2k W g H q z news ∧
   ∀d:Nat,(Builtin.firstCells q n c).run P {W with drawn:=d} = .ok news {W with drawn:=d}:=λa e E U=>by
  subst E;subst U;refine⟨a,0,e,rfl,rfl,Qbo _,#[],by simp,by simp,⟨by simp,by simp,by simp⟩,λd =>?_⟩;cases a <;> simp[Builtin.firstCells,loadCells,loadCellsFrom]
 unfold zeo at h;split at h;injection h with h;cases N;exact empty none 0 h.symm rfl;rename_i s xs full;split at h;rename_i hs;subst hs;injection h with h;subst h
 cases N with
 |slnil=>exact empty none 0 rfl rfl
 |sle _ _ a e _=>exact empty (some a) e rfl rfl
 |sl _ _ _ b o e f hb M B hf hs h5 Y R=>
  refine⟨_,_,_,rfl,rfl,B,?_⟩
  have p:∀i,i<xs.length * s->∃y v,xs[i / s]? = some y∧y.cells[i % s]? = some v∧i=i / s * s+i % s:=λi hi=>by
   have T:i / s<xs.length:=Nat.div_lt_of_lt_mul (by rw[Nat.mul_comm];exact hi);have hm:i % s<s:=Nat.mod_lt _ M;have E:xs[i / s]? = some xs[i / s]:=Qab T;have X:=hs _ _ E;refine⟨_,(xs[i / s]).cells[i % s]'(by omega),E,Qab _,?_⟩;rw[Nat.mul_comm];exact(Nat.div_add_mod i s).symm
  have Z:∀(j t:Nat),t<s->(j * s+t) / s=j∧(j * s+t) % s=t:=λj t u=>by
   constructor;rw[Nat.mul_comm,Nat.mul_add_div M,Nat.div_eq_of_lt u,Nat.add_zero];rw[Nat.mul_comm,Nat.mul_add_mod,Nat.mod_eq_of_lt u]
  refine mk b o xs.length e (λi=>f (i / s) (i % s)) rfl (λi hi =>?_) (λi hi =>?_) hs (λj y t v r u =>?_);obtain⟨y,v,C,F,L⟩:=p i hi;have:=h5 _ _ _ _ C F;rw[Nat.add_assoc,<-L]at this;exact this;obtain⟨y,v,C,F,L⟩:=p i hi;exact Y _ _ _ _ C F;have I:=(Qaa.1 u).1;rw[hs _ _ r]at I;obtain⟨e1,e2⟩:=Z j t I;simp only[e1,e2];exact R _ _ _ _ r u
 cases h;rename_i l i h8 k n full;split at h;rename_i h7 ty s xs cp hg;split at h;rename_i U;obtain⟨rfl,rfl⟩:=U;injection h with h
 cases N with
 |hs _ _ _ _ _ _ a m e T O ha=>
  obtain⟨rfl,rfl,⟨B,h6,hh⟩,he⟩:=ha _ _ _ _ hg;obtain⟨J,k1,k2,k3,h9,k4,k5,K⟩:=y84 hG hg;have hlen:z.length=m:=by rw[<-h];simp;omega
  have G:∀(j:Nat) (y:V),z[j]? = some y->xs[k+j]? = some y∧j<m:=λj y r=>by
   rw[<-h,Qaw]at r;split at r;rename_i h4;rw[Qba]at r;exact⟨r,h4⟩;cases r
  refine⟨_,_,_,rfl,hlen.symm,B,?_⟩
  have A:∀i,i<m * s->k * s+i<J.size:=λi hi=>by
   rw[k3]
   calc k * s+i<k * s+m * s:=by omega
    _=(k+m) * s:=by rw[Nat.add_mul]
    _<=_:=Qau _ (by omega)
  have p:∀i,i<m * s->∃y v,xs[k+i / s]? = some y∧y.cells[i % s]? = some v∧k * s+i=(k+i / s) * s+i % s:=λi hi=>by
   have T:i / s<m:=Nat.div_lt_of_lt_mul (by rw[Nat.mul_comm];exact hi);have hm:i % s<s:=Nat.mod_lt _ k2;have E:xs[k+i / s]? = some (xs[k+i / s]'(by omega)):=Qab _;have X:=K.1 _ _ E;refine⟨_,(xs[k+i / s]'(by omega)).cells[i % s]'(by omega),E,Qab _,?_⟩;rw[Nat.add_mul,Nat.add_assoc];congr 1;rw[Nat.mul_comm];exact(Nat.div_add_mod i s).symm
  refine mk (g.ab l i) (k * s) m e (λi=>J.getD (k * s+i) undef) hlen.symm (λi hi=>cell_of k1 (A i hi)) (λi hi =>?_) (λj y r=>K.1 _ _ (G j y r).1) (λj y t v r u =>?_);obtain⟨y,v,C,F,L⟩:=p i hi;rw[L];exact K.2.1 _ _ _ _ C F;have:=K.2.2 _ _ _ _ (G j y r).1 u;rw[Nat.add_mul,Nat.add_assoc]at this;exact this
 cases h;cases h;cases h
def zye{t u ty e i z q}(C:P.underlying t=some (.slice e))(B:P.underlying u=some q)(F:∀k,q ≠ .int k)(hi:P.info? e=some i)(s:i.zero=some z)
  {base sLen sCap n x h news} (A:(Builtin.lenOf x).run P W = .ok n W)
  (D:∀d:Nat,(Builtin.firstCells i.size sLen (.slice base sLen sCap)).run P {W with drawn:=d} = .ok h {W with drawn:=d})
  (E:∀d:Nat,(Builtin.firstCells i.size n x).run P {W with drawn:=d} = .ok news {W with drawn:=d})
  (I:sCap<sLen+n) (G:((sLen+n:Nat):Int)<=9223372036854775807) (r:Builtin.nextslicecap (sLen+n) sCap * i.bytes<=281474976710656) :
  ∃b d,sLen+n<=b∧b<=maxLen∧(Builtin.append_ #[t,u] ty #[.slice base sLen sCap,x]).run P W =
   .ok (.slice (some ⟨W.heap.size,0,none⟩) (sLen+n) b) (({W with drawn:=d}:World).alloc (.cells (h++news++Builtin.zeroCells z.cells (b-(sLen+n))) e)):=by
 have p:¬(sLen+n<=sCap):=by omega
 have m:¬(9223372036854775807<((sLen:Int)+(n:Int))):=by omega
 have o:¬(281474976710656<Builtin.nextslicecap (sLen+n) sCap * i.bytes):=by omega
 refine⟨grownCap W (sLen+n) sCap e,W.drawn+1,grownCap_ge _ _ _ _,grownCap_le_maxLen _ _ _ _ (by unfold maxLen;omega),?_⟩;have j:=D (W.drawn+1);have l:=E (W.drawn+1);simp[World.drew_eq]at j l;simp[Builtin.append_,yz3 C,yz3 B,sizeOf,typeInfo,zeroValue,hi,s,A,p,m,o,Question.forced,j,l,newRow,grownCap]
def yfk{t u ty e i m}(r:P.underlying t=some (.slice e))(q:P.underlying u=some m)(C:∀k,m ≠ .int k)(hi:P.info? e=some i)
  {b o sLen sCap n x news d l} (p:(Builtin.lenOf x).run P W = .ok n W)
  (s:(Builtin.firstCells i.size n x).run P W = .ok news W) (B:∀v∈news.toList,v.oneCell'=true)
  (z:sLen+n<=sCap) (A:W.heap[b]? = some (.cells d l (0,0))) (h:o+sLen * i.size+news.size<=d.size) :
  (Builtin.append_ #[t,u] ty #[.slice (some ⟨b,o,none⟩) sLen sCap,x]).run P W =
   .ok (.slice (some ⟨b,o,none⟩) (sLen+n) sCap) (W.setRow b (putCells d (o+sLen * i.size) news)):=by
 have j:=run_storeCells_at P b (o+sLen * i.size) l news.toList 0 d W A (by simpa using h) B;simp only[Nat.add_zero]at j;rw[zpz d _ news h]at j;simp[Builtin.append_,yz3 r,yz3 q,sizeOf,typeInfo,hi,p,z,s,add_eq,j]
def zqe(H:Heap)(d:Nat):V->Option (List V)
 |.str s=>if d=1 then some (s.map λb=>.int .u8 b.toNat)else none
 |x=>zeo H d x
def yp0(C:Good W g H){p x c o}(A:0<p)(h:zqe H p x=some o)(u:Rel W g H x c) :
  (Builtin.lenOf c).run P W = .ok o.length W∧∃news:Array Value,news.size=o.length * p∧(∀v∈news.toList,v.oneCell'=true)∧y2k W g H p o news ∧
   ∀d:Nat,(Builtin.firstCells p o.length c).run P {W with drawn:=d} = .ok news {W with drawn:=d}:=by
 unfold zqe at h;split at h;rename_i s;split at h;rename_i B;subst B;cases h;cases u;have r:(⟨s.toArray⟩:ByteArray).size=s.length:=by simp[ByteArray.size]
 have l:∀i b,s[i]? = some b->(s.map λb=>Value.int .u8 b.toNat).toArray.getD i undef = .int .u8 b.toNat:=λi b m=>by
  simp_all
 have e:∀(j:Nat) (y:V),(s.map λb=>V.int .u8 b.toNat)[j]? = some y->∃b,s[j]? = some b∧y = .int .u8 b.toNat:=λj y k=>by
  simp[Qaf]at k;obtain⟨b,m,rfl⟩:=k
  grind
 refine⟨by simp[Builtin.lenOf,r],(s.map λb=>Value.int .u8 b.toNat).toArray,by simp,?_,⟨λj y k =>?_,λj y t v k q =>?_,λj y t v k q =>?_⟩,λd =>?_⟩;intro v z;simp[Qbb]at z;obtain⟨b,_,rfl⟩:=z;rfl;obtain⟨b,m,rfl⟩:=e j y k;rfl;obtain⟨b,m,rfl⟩:=e j y k
 have:t=0:=by
  grind[V.cells]
 subst this;rw[Nat.mul_one,Nat.add_zero,l j b m];rfl;obtain⟨b,m,rfl⟩:=e j y k
 have:t=0:=by
  grind[V.cells]
 subst this;simp[V.cells]at q;subst q;rw[Nat.mul_one,Nat.add_zero,l j b m];exact .int _ _
 grind[Builtin.firstCells,Sem.run_pure,ByteArray.data_extract]
 cases h;obtain⟨a,n,I,rfl,rfl,J,news,G,F,E,D⟩:=zqs (P:=P) C A h u;exact⟨by simp[Builtin.lenOf],news,G,F,E,D⟩
def zi7:Nat:=268435456
def y0t:TypeDesc->Bool
 |.int _=>false
 |_=>true
def z3o(H:Heap)(e size:Nat)(s:V)(d:List V):Option (V×Heap) :=
 match s with
 |.nils=>match d with
  |[]=>some (.nils,H)
  |y::r=>if (y::r).length<=zi7 then some (.hs H.lv H.L.length 0 0 (y::r).length false,H.push (.arr 0 e size (y::r) none))else none
 |.sl h xs true=>if h=size then match d with
  |[]=>some (.sl h xs true,H)
  |y::r=>if xs.length+(y::r).length<=zi7 then some (.hs H.lv H.L.length 0 0 (xs.length+(y::r).length) false,H.push (.arr 0 e size (xs++y::r) none))else none else none
 |.hs l j b 0 n false=>match H.get l j with
  |some (.arr i k h xs _)=>if i=b∧k=e∧h=size∧n=xs.length∧xs.length+d.length<=zi7 then
    some (.hs l j (b+1) 0 (xs.length+d.length) false,H.set l j (.arr (b+1) e h (xs++d) none))else none
  |_=>none
 |_=>none
def hAppend(P:Program)(H:Heap)(t u:Nat)(s x:V):Option (V×Heap) :=
 match P.underlying t,P.underlying u with
 |some (.slice e),some d=>
  match P.info? e with
  |some i=>
   match zqe H i.size x,i.zero with
   |some b,some z=>
    if y0t d&&decide (0<i.size)&&decide (i.bytes<=524288)&&z.cells.size==i.size then z3o H e i.size s b else none
   |_,_=>none
  |none=>none
 |_,_=>none
end
section
variable {W:World}{g:Gh}{H:Heap}{P:Program}
def Gh.move(g:Gh)(l i b c:Nat):Gh where
 dom:=g.dom
 blk:=g.blk
 ab d e:=if d=l∧e=i then b else g.ab d e
 cap d e:=if d=l∧e=i then c else g.cap d e
 base:=g.base
def z059(u:Good W g H){l i n ty z:Nat}{xs zs:List V}{N:Option Nat}(I:H.get l i=some (.arr n ty z xs N)){W':World}{O:Obj}(M:W'=W.alloc O)(c:Nat)
  (G:Step W g H W' (g.move l i W.heap.size c) (H.set l i (.arr (n+1) ty z zs none))->zgm W' (g.move l i W.heap.size c) (H.set l i (.arr (n+1) ty z zs none)) l i (.arr (n+1) ty z zs none)) :
  Step W g H W' (g.move l i W.heap.size c) (H.set l i (.arr (n+1) ty z zs none))∧Good W' (g.move l i W.heap.size c) (H.set l i (.arr (n+1) ty z zs none)):=by
 have j:=Heap.y38 (o':=.arr (n+1) ty z zs none) I;have p:Grow W W':=M▸Grow.alloc W O;have k:∀(q:yzm) (r s:Nat),¬(r=l∧s=i)->q.blk (g.move l i W.heap.size c) r s=q.blk g r s:=λq r s h=>by cases q <;> simp[yzm.blk,Gh.move,h]
 have e:Step W g H W' (g.move l i W.heap.size c) (H.set l i (.arr (n+1) ty z zs none)):=by
  refine⟨p.os,p.tape,p.output,p.size,λb J _=>p.block b J,λb J =>?_,λ_ _ h=>h,λ_ _ h=>.inl h,λ_ _ _=>rfl,λr s F Z h4 K L hd C =>?_,Heap.yqq _ _ _,rfl⟩;have⟨r,s,q,m,B⟩:=J;rw[j]at m;split at m;rename_i d;obtain⟨rfl,rfl⟩:=d;cases m;simp only[yzm.blk,Gh.move,and_self,if_true]at B;right;omega;rename_i d;rw[k _ _ _ d]at B
  exact .inl ⟨r,s,q,m,B⟩;rw[j]at C;split at C;rename_i d;obtain⟨rfl,rfl⟩:=d;injection C with C;injection C with Y X U e4 e5;subst Y;subst X;subst U;exact⟨n,xs,N,I,Nat.le_succ _,λh=>by omega⟩;rename_i d;exact⟨F,K,L,C,Qbp _,λ_=>⟨by simp[Gh.move,d],by simp[Gh.move,d],Qbp _⟩⟩
 refine⟨e,?_,?_,?_,?_,?_,u.zqr.step e,Qbe u.base e.size⟩;intro r s q m;rw[j]at m;split at m;rename_i d;obtain⟨rfl,rfl⟩:=d;exact u.dom _ _ _ I;exact u.dom _ _ _ m;intro r s q m;rw[j]at m;split at m;rename_i d;obtain⟨rfl,rfl⟩:=d;cases m;simp only[yzm.blk,Gh.move,and_self,if_true];rw[M];simp;rename_i d;rw[k _ _ _ d]
 exact Qbd (u.lt _ _ _ m) p.size;intro l1 i1 T l2 i2 R E D A;rw[j]at E D;split at E;rename_i d;obtain⟨rfl,rfl⟩:=d;cases E;split at D;rename_i o;exact⟨o.1.symm,o.2.symm⟩;rename_i o;rw[k _ _ _ o]at A;simp only[yzm.blk,Gh.move,and_self,if_true]at A;have:=u.lt _ _ _ D;cases R <;> simp only[yzm.blk]at A this <;> omega
 rename_i d;split at D;rename_i o;obtain⟨rfl,rfl⟩:=o;cases D;rw[k _ _ _ d]at A;simp only[yzm.blk,Gh.move,and_self,if_true]at A;have:=u.lt _ _ _ E;cases T <;> simp only[yzm.blk]at A this <;> omega
 rename_i o;rw[k _ _ _ d,k _ _ _ o]at A;exact u.inj _ _ _ _ _ _ E D A;intro r s h;rw[Heap.yqq,Heap.yqf];exact u.fresh r s h;intro r s q m;rw[j]at m;split at m;rename_i d;obtain⟨rfl,rfl⟩:=d;cases m;exact G e;rename_i d;exact(u.obj r s q m).mono e (p.block _ (u.lt _ _ _ m)) rfl (by simp[Gh.move,d]) (by simp[Gh.move,d])
def zxo{t u ty e i b}(l:P.underlying t=some (.slice e))(j:P.underlying u=some b)(o:∀k,b ≠ .int k)(hi:P.info? e=some i)
  {base sLen sCap x news} (h:(Builtin.lenOf x).run P W = .ok 0 W) (m:(Builtin.firstCells i.size 0 x).run P W = .ok news W) (d:news = #[]) (n:sLen<=sCap) :
  (Builtin.append_ #[t,u] ty #[.slice base sLen sCap,x]).run P W = .ok (.slice base sLen sCap) W:=by
 subst d;cases base <;> simp[Builtin.append_,yz3 l,yz3 j,sizeOf,typeInfo,hi,h,n,m,storeCells]
def z3j{a b:Array Value}{i}(h:i<a.size):(a++b).getD i undef=a.getD i undef:=by
 simp_all[Array.getElem?_append_left]
def zjy{a b:Array Value}{i}:(a++b).getD (a.size+i) undef=b.getD i undef:=by
 simp_all[Array.getElem?_append_right]
def yqj(U:Good W g H){t u ty:Nat}{s x v:V}{cs cx:Value}{H':Heap}(h:hAppend P H t u s x=some (v,H'))(hs:Rel W g H s cs)(hx:Rel W g H x cx) :
  za2 P W g H (do pure (.value (<-Builtin.append_ #[t,u] ty #[cs,cx]))) v H':=by
 unfold hAppend at h;split at h;rename_i e du ht hu;split at h;rename_i i hi;split at h;rename_i B z he hz;split at h;rename_i hc;simp only[Qag,Qar,Qbg]at hc;have⟨⟨⟨c1,c2⟩,c3⟩,c4⟩:=hc;have h4:∀k,du ≠ .int k:=λk hk=>by subst hk;simp[y0t]at c1
 have⟨hlen,news,n1,n2,n3,n4⟩:=yp0 (P:=P) U c2 he hx
 have nothing:∀(a:Option Addr) (n q:Nat),B=[]->cs = .slice a n q->n<=q->za2 P W g H (do pure (.value (<-Builtin.append_ #[t,u] ty #[cs,cx]))) s H:=λa n q hy G h6=>by
  subst hy;have h9:news = #[]:=by simpa using n1
  have:=zxo (P:=P) (W:=W) (ty:=ty) (base:=a) ht hu h4 hi hlen (n4 W.drawn) h9 h6;rw[G];exact⟨_,W,g,.inl (by simp[this]),.refl _ _ _,U,G▸hs⟩
 have fresh:∀(a:Option Addr) (n q:Nat) (xs:List V) (m:Array Value),cs = .slice a n q->n=xs.length->q<n+B.length->n+B.length<=zi7->m.size=n * i.size->y2k W g H i.size xs m ->
   (∀d:Nat,(Builtin.firstCells i.size n (.slice a n q)).run P {W with drawn:=d} = .ok m {W with drawn:=d}) ->
   ∃p d,n+B.length<=p∧p<=maxLen∧(Builtin.append_ #[t,u] ty #[cs,cx]).run P W =
    .ok (.slice (some ⟨W.heap.size,0,none⟩) (n+B.length) p) (({W with drawn:=d}:World).alloc (.cells (m++news++Builtin.zeroCells z.cells (p-(n+B.length))) e)) ∧
    (m++news++Builtin.zeroCells z.cells (p-(n+B.length))).size=p * i.size∧y2k W g H i.size (xs++B) (m++news++Builtin.zeroCells z.cells (p-(n+B.length))) :=
   λa n q xs m G hn E C J h2 h1=>by
  have hb:n+B.length<=268435456:=C
  have R:(n+B.length) * i.bytes<=140737488355328:=by
   calc (n+B.length) * i.bytes<=268435456 * 524288:=Nat.mul_le_mul hb c3
    _=_:=by decide
  have⟨p,d,k1,k2,k3⟩:=zye (P:=P) (W:=W) (ty:=ty) (base:=a) ht hu h4 hi hz hlen h1 n4 E (by omega) (growslice_fits E R);refine⟨p,d,k1,k2,by rw[G];exact k3,?_,?_⟩;rw[Array.size_append,Array.size_append,size_zeroCells,J,n1,c4,<-Nat.add_mul,<-Nat.add_mul]
  congr 1;omega
  refine h2.append n3 (λj hj =>?_) (λj hj =>?_);rw[Array.append_assoc,z3j (by rw[J,hn];exact hj)];rw[Array.append_assoc,<-hn,<-J,zjy,z3j (by rw[n1];exact hj)]
 have F:∀(a:Option Addr) (n q:Nat) (xs:List V) (m:Array Value),cs = .slice a n q->n=xs.length->q<n+B.length->n+B.length<=zi7->m.size=n * i.size->y2k W g H i.size xs m ->
   (∀d:Nat,(Builtin.firstCells i.size n (.slice a n q)).run P {W with drawn:=d} = .ok m {W with drawn:=d}) ->
   za2 P W g H (do pure (.value (<-Builtin.append_ #[t,u] ty #[cs,cx]))) (.hs H.lv H.L.length 0 0 (n+B.length) false) (H.push (.arr 0 e i.size (xs++B) none)):=λa n q xs m G hn E C J h2 h1=>by
  have⟨p,d,k1,k2,k3,k4,k5⟩:=fresh a n q xs m G hn E C J h2 h1;have h5:=U.grow (Grow.drawn W d)
  have⟨q1,q2⟩:=zj5 h5 (o:=.arr 0 e i.size (xs++B) none) (O:=.cells (m++news++Builtin.zeroCells z.cells (p-(n+B.length))) e) p (λW' g' H' hW D hH I=>by
   have N:=(k5.mono (Grow.drawn W d).step).mono I;refine⟨_,?_,c2,?_,?_,?_,by simp,N.1,N.2.1,N.2.2⟩;rw[hW,D];simp only[Gh.add,and_self,if_true];exact z4l _ _;rw[D];simpa[Gh.add]using k4;rw[D];simpa[Gh.add]using k2
   rw[D];simp[Gh.add];omega)
  refine⟨_,_,_,.inl (by simp[k3];rfl),(Grow.drawn W d).step.trans q1,q2,?_⟩;refine .hs _ _ _ _ _ _ _ _ _ (.inr ⟨rfl,rfl⟩) (λv ty T xs Z D=>Qbo _) λty T zs Z D =>?_
  rw[Heap.zjv,Qbq ⟨rfl,rfl⟩]at D;injection D with D;injection D with _ _ e3 e4 _;subst e3;subst e4;refine⟨by simp[Gh.add],rfl,⟨k1,by simp[Gh.add],by simp⟩,by simp;omega⟩
 unfold z3o at h;split at h
 ·
  cases hs;split at h;cases h;exact nothing none 0 0 rfl rfl (Qbp _);rename_i y r;split at h;rename_i hr;cases h;have:=F none 0 0 [] #[] rfl rfl (by simp) (by simpa using hr) (by simp) ⟨by simp,by simp,by simp⟩ (λd=>by simp[Builtin.firstCells]);simpa using this;cases h
 rename_i T xs;split at h;rename_i hh;obtain⟨a,n,q,rfl,rfl,o2,m,o3,o4,o5,o6⟩:=zqs (P:=P) U c2 (show zeo H i.size (.sl T xs true)=some xs by simp[zeo,hh]) hs
 have ho:q=xs.length:=by
  cases hs with
  |slnil=>rfl
  |sle _ _ _ _ hf=>exact hf rfl
  |sl _ _ _ _ _ _ _ _ _ _ hf=>exact hf rfl
 split at h;cases h;exact nothing a _ q rfl rfl o2;rename_i y r;split at h;rename_i hr;cases h;exact F a _ q xs m rfl rfl (by simp;omega) hr o3 o5 o6;cases h;cases h;rename_i l i' hq n;split at h;rename_i M e' T xs Z D;split at h;rename_i hl;obtain⟨rfl,rfl,rfl,rfl,C⟩:=hl
 cases h;obtain⟨a,n,q,rfl,hw,o2,m,o3,o4,o5,o6⟩:=zqs (P:=P) U c2 (show zeo H i.size (.hs l i' M 0 xs.length false)=some xs by simp[zeo,D]) hs
 cases hs with
 |hs _ _ _ _ _ _ _ _ _ hd hv ha=>
  obtain⟨rfl,rfl,⟨E,hp,k7⟩,h6⟩:=ha _ _ _ _ D;have⟨K,k1,k2,k3,h8,k4,k5,k6⟩:=y84 U D;rw[Nat.zero_mul]at *;by_cases Y:xs.length+B.length<=q
  have h7:0+xs.length * i.size+news.size<=K.size:=by
   rw[n1,k3,Nat.zero_add,<-Nat.add_mul];exact Qau _ (by omega)
  have X:=yfk (P:=P) (W:=W) (ty:=ty) ht hu h4 hi hlen (n4 W.drawn) n2 Y k1 h7;rw[Nat.zero_add]at X;have⟨p1,p2⟩:=zkk K (xs.length * i.size) news;have⟨s1,s2,s3,s4⟩:=zrv W (g.ab l i') (putCells K (xs.length * i.size) news)
  have⟨q1,q2⟩:=zgk U (o':=.arr (M+1) e' i.size (xs++B) none) D rfl s1 s2 s3 s4 (λb _ hb=>setRow_other W _ b _ hb)
   (λ_ _ _ _ _ h=>by cases h;exact⟨M,xs,Z,rfl,Nat.le_succ _,λh=>by omega⟩) (λI=>by
   have N:y2k W g H i.size (xs++B) (putCells K (xs.length * i.size) news):=k6.append n3 (λj hj=>by
    rw[Qae,p2,Qbr (by omega),<-Qae]) (λj hj=>by
    rw[Qae,p2,Qbq ⟨by omega,by rw[n1];omega,by rw[n1]at h7;omega⟩,show xs.length * i.size+j-xs.length * i.size=j by omega,<-Qae])
   have h3:=N.mono I
   exact⟨_,setRow_heap W _ K _ e' _ k1,k2,by rw[p1];exact k3,h8,by simp;omega,by simp,h3.1,h3.2.1,h3.2.2⟩)
  refine⟨_,_,g,.inl (by simp[X];rfl),q1,q2,?_⟩;refine .hs _ _ _ _ _ _ _ _ _ hd (λv ty T zs Z A =>?_) λty T zs Z A =>?_
  rw[Heap.y38 D,Qbq ⟨rfl,rfl⟩]at A;injection A with A;injection A with e1 _ _ _ _;omega;rw[Heap.y38 D,Qbq ⟨rfl,rfl⟩]at A;injection A with A;injection A with _ _ e3 e4 _;subst e3;subst e4;exact⟨by simp,rfl,⟨Y,by omega,by simp⟩,by simp⟩;have⟨p,d,j1,j2,j3,j4,j5⟩:=fresh (some ⟨g.ab l i',0,none⟩) xs.length q xs m rfl rfl (by omega) C o3 o5 o6
  have h5:=U.grow (Grow.drawn W d)
  have⟨q1,q2⟩:=z059 h5 (zs:=xs++B) D (W':=({W with drawn:=d}:World).alloc (.cells (m++news++Builtin.zeroCells z.cells (p-(xs.length+B.length))) e')) rfl p (λI=>by
   have N:=(j5.mono (Grow.drawn W d).step).mono I;refine⟨_,?_,k2,?_,?_,?_,by simp,N.1,N.2.1,N.2.2⟩;simp only[Gh.move,and_self,if_true];exact z4l _ _;simpa[Gh.move]using j4;simpa[Gh.move]using j2
   simp[Gh.move];omega)
  refine⟨_,_,_,.inl (by simp[j3];rfl),(Grow.drawn W d).step.trans q1,q2,?_⟩;refine .hs _ _ _ _ _ _ _ _ _ hd (λv ty T zs Z A =>?_) λty T zs Z A =>?_
  rw[Heap.y38 D,Qbq ⟨rfl,rfl⟩]at A;injection A with A;injection A with e1 _ _ _ _;omega;rw[Heap.y38 D,Qbq ⟨rfl,rfl⟩]at A;injection A with A;injection A with _ _ e3 e4 _;subst e3;subst e4;exact⟨by simp[Gh.move],rfl,⟨j1,by simp[Gh.move],by simp⟩,by simp⟩
 cases h;cases h;cases h;cases h;cases h;cases h;cases h
end
section
variable {W:World}{g:Gh}{H:Heap}{P:Program}
def zel(s:B8)(b:Nat):Nat×Nat:=Utf8.decode ⟨s.toArray⟩ b
def yqg(P:Program)(H:Heap)(t:Nat)(x:V):Option (V×Heap) :=
 match x with
 |.str s=>match P.underlying t with
  |some .string=>some (.ptr H.lv H.L.length 0,H.push (.siter s 0))
  |_=>none
 |_=>none
def yu6(j:Good W g H){t x v c H'}(h:yqg P H t x=some (v,H'))(b:Rel W g H x c):za2 P W g H (do pure (.value (<-Instr.range t c))) v H':=by
 unfold yqg at h;split at h;rename_i s;split at h;rename_i d;injection h with h;cases h;cases b
 have⟨l,k⟩:=zj5 j (O:=.stringIter ⟨s.toArray⟩ 0) (o:=.siter s 0) 0 (λW' g' H' i e n m=>by
  show W'.heap[g'.blk H.lv H.L.length]? = _;rw[i,e];simp only[Gh.add,if_true]
  exact z4l _ _)
 refine⟨.pointer (some ⟨W.heap.size,0,none⟩),_,_,.inl ?_,l,k,?_⟩;simp[Instr.range,yz3 d];have:=Rel.ptr (W:=W.alloc (.stringIter ⟨s.toArray⟩ 0)) (g:=g.add H.lv H.L.length W.heap.size 0) (H:=H.push (.siter s 0)) H.lv H.L.length 0 (.inr ⟨rfl,rfl⟩);simpa[Gh.add]using this;cases h;cases h
def yoo(H:Heap)(x:V)(str:Bool):Option (V×Heap) :=
 match x,str with
 |.ptr l i 0,true=>match H.get l i with
  |some (.siter s b)=>if b<s.length then some (.tup [.bool true,.int .i64 b,.int .i32 (zel s b).1],H.set l i (.siter s (b+(zel s b).2)))else some (.tup [.bool false],H)
  |_=>none
 |_,_=>none
theorem yyb(p:Good W g H){ty:Nat}{x v c str H'}(h:yoo H x str=some (v,H'))(A:Rel W g H x c):za2 P W g H (do pure (.value (<-Instr.next c str ty))) v H':=by
 unfold yoo at h;split at h
 ·rename_i l i;split at h
  ·rename_i s d r
   cases A with
   |ptr _ _ _ K=>
    have B:=p.obj _ _ _ r;have n:W.heap[g.blk l i]? = some (.stringIter ⟨s.toArray⟩ d):=B;have I:=p.lt _ _ _ r;split at h
    ·rename_i q;injection h with h;cases h
     have o:(do pure (.value (<-Instr.next (.pointer (some ⟨g.blk l i,0,none⟩)) true ty)):Sem Next).run P W =
       .ok (.value (.tuple #[.bool true,.int .i64 d,.int .i32 (zel s d).1])) {W with heap:=W.heap.setIfInBounds (g.blk l i) (.stringIter ⟨s.toArray⟩ (d+(zel s d).2))}:=by
      have m:d<ByteArray.size ⟨s.toArray⟩:=by simpa[ByteArray.size]using q
      simp[Instr.next,getObj,Sem.run,n,m,setObj,goInt,zel]
     have⟨E,D⟩:=zgk p (o':=.siter s (d+(zel s d).2)) r rfl (W':={W with heap:=W.heap.setIfInBounds (g.blk l i) (.stringIter ⟨s.toArray⟩ (d+(zel s d).2))}) rfl rfl rfl (by simp)
      (λb L u=>by
        have z:g.blk l i≠b:=λe=>u e.symm
        grind) (λF ty J xs M C=>by cases C) (λG=>by
        show(Array.setIfInBounds _ _ _)[g.blk l i]? = _
        grind)
     refine⟨_,_,_,.inl o,E,D,.tup _ _ rfl λj v k =>?_⟩
     match j with
     |0=>simp at k;subst k;exact .bool true
     |1=>simp at k;subst k;exact .int .i64 _
     |2=>simp at k;subst k;exact .int .i32 _
     |j+3=>simp at k
    ·rename_i q;injection h with h;cases h;refine⟨.tuple #[.bool false],W,g,.inl ?_,.refl _ _ _,p,.tup _ _ rfl λj v k =>?_⟩
     ·have m:¬d<ByteArray.size ⟨s.toArray⟩:=by simpa[ByteArray.size]using q
      simp[Instr.next,getObj,Sem.run,n,m]
     match j with
     |0=>simp at k;subst k;exact .bool false
     |j+1=>simp at k
  cases h
 cases h
end
section
variable {W:World}{g:Gh}{H:Heap}{P:Program}
def y7i(P:Program)(H:Heap)(t:Nat)(d s:V):Option (V×Heap) :=
 match P.underlying t with
 |some (.slice e)=>if (P.info? e).isSome then
  match d,s with
  |.sl _ [] _,.hs l i b j n full=>match H.get l i with
   |some (.arr h _ _ _ _)=>if h=b then some (.int .i64 0,H)else none
   |_=>none
  |.hs l i b j n full,.hs r u k m o p=>if r=l∧u=i∧k=b then
   match H.get l i with
   |some (.arr h ty q xs z)=>if h=b∧q=P.cellsOf e then
    some (.int .i64 (min o n:Nat),H.set l i (.arr b ty q (xs.take j++((xs.drop m).take (min o n)++xs.drop (j+min o n))) z))else none
   |_=>none
   else none
  |_,_=>none
  else none
 |_=>none
def ymt{t u ty e i}(z:P.underlying t=some (.slice e))(hi:P.info? e=some i){b o h dLen dCap sLen sCap m:Nat}{d}(s:W.heap[b]? = some (.cells d m (0,0)))
  (C:o+Nat.min sLen dLen * i.size<=d.size) (B:h+Nat.min sLen dLen * i.size<=d.size) (q:∀j,h<=j->j<h+Nat.min sLen dLen * i.size->(d.getD j undef).oneCell'=true) :
  (Builtin.copy_ #[t,u] ty #[.slice (some ⟨b,o,none⟩) dLen dCap,.slice (some ⟨b,h,none⟩) sLen sCap]).run P W =
   .ok (goInt (Nat.min sLen dLen)) (W.setRow b (putCells d o (d.extract h (h+Nat.min sLen dLen * i.size)))):=by
 have hlen:(d.extract h (h+Nat.min sLen dLen * i.size)).toList.length=Nat.min sLen dLen * i.size:=by simp;omega
 have A:=run_loadCells_list (P:=P) (w:=W) (a:=⟨b,h,none⟩) (d.extract h (h+Nat.min sLen dLen * i.size)).toList (λj v r=>by
  have k:(d.extract h (h+Nat.min sLen dLen * i.size))[j]? = some v:=by grind
  have n:=(Qbh.1 k).1;rw[Array.getElem?_extract,Qbq (by simp at n;omega)]at k
  grind[Addr.add,World.cell?])
 have l:=run_storeCells_at P b o m (d.extract h (h+Nat.min sLen dLen * i.size)).toList 0 d W s (by omega) (λv p=>by
  obtain⟨j,r,rfl⟩:=List.getElem_of_mem p;have k:=by omega
  have:=q (h+j) (by omega) (by omega);rw[Qae]at this
  grind)
 simp only[Nat.add_zero]at l;rw[zpz d o _ (by grind)]at l
 simp_all[Builtin.copy_,yz3,Builtin.lenOf,Builtin.firstCells,sizeOf,typeInfo]
def z021(hG:Good W g H){t u ty:Nat}{d s v:V}{cd cs:Value}{H':Heap}(h:y7i P H t d s=some (v,H'))(hd:Rel W g H d cd)(hs:Rel W g H s cs) :
  za2 P W g H (do pure (.value (<-Builtin.copy_ #[t,u] ty #[cd,cs]))) v H':=by
 unfold y7i at h;split at h;rename_i e ht;split at h;rename_i hi;have⟨i,hi⟩:=Option.isSome_iff_exists.1 hi;split at h;rename_i sz fu l i' Y k n full;split at h;rename_i I O hr xs cp R;split at h;rename_i hv;subst hv;cases h
 have C:(Builtin.copy_ #[t,u] ty #[cd,cs]).run P W = .ok (goInt 0) W:=by
  cases hs with
  |hs _ _ _ _ _ _ a m h2 h8 hv ha=>
   obtain⟨rfl,rfl,_,_⟩:=ha _ _ _ _ R
   cases hd with
   |slnil=>simp[Builtin.copy_,yz3 ht,Builtin.lenOf,Builtin.firstCells,sizeOf,typeInfo,hi];rfl
   |sle _ _ a E hf=>simp[Builtin.copy_,yz3 ht,Builtin.lenOf,Builtin.firstCells,sizeOf,typeInfo,hi,storeCells];rfl
   |sl _ _ _ b o E c=>simp[Builtin.copy_,yz3 ht,Builtin.lenOf,Builtin.firstCells,sizeOf,typeInfo,hi,storeCells];rfl
 exact⟨_,W,g,.inl (by simp[C];rfl),.refl _ _ _,hG,.int _ _⟩;cases h;cases h;rename_i l i' Y k n full M i2 ho p n2 hn;split at h;rename_i hk;obtain⟨rfl,rfl,rfl⟩:=hk;split at h;rename_i I O sz xs cp R;split at h;rename_i hc;obtain⟨rfl,h9⟩:=hc;cases h;obtain rfl:sz=i.size:=h9.trans (by simp[Program.cellsOf,hi])
 have⟨r,k1,k2,k3,h4,k4,k5,k6,k7,k8⟩:=hG.obj _ _ _ R
 cases hd with
 |hs _ _ _ _ _ _ a m h2 h8 hv ha=>
  obtain⟨rfl,rfl,⟨a1,a2,_⟩,a3⟩:=ha _ _ _ _ R
  cases hs with
  |hs _ _ _ _ _ _ a' z E hp hu hm=>
   obtain⟨rfl,rfl,⟨b1,b2,_⟩,b3⟩:=hm _ _ _ _ R;have h6:Nat.min z m=min z m:=rfl;have L:∀q,q<=g.cap M i2->q * i.size<=r.size:=λq hq=>by rw[k3];exact Qau _ hq
   have f1:k * i.size+min z m * i.size<=r.size:=by rw[<-Nat.add_mul];exact L _ (by omega)
   have f2:p * i.size+min z m * i.size<=r.size:=by rw[<-Nat.add_mul];exact L _ (by omega)
   have cellOf:∀(j t:Nat),j<xs.length->t<i.size->∃x v,xs[j]? = some x∧x.cells[t]? = some v∧x.cells.length=i.size:=λj t A hx=>by
    have hl:=k6 j xs[j] (Qab A);exact⟨xs[j],xs[j].cells[t]'(by omega),Qab A,Qab _,hl⟩
   have h3:∀j,p * i.size<=j->j<p * i.size+min z m * i.size->(r.getD j undef).oneCell'=true:=λj q1 q2=>by
    have hq:j / i.size<xs.length:=by
     have:j<(p+min z m) * i.size:=by rw[Nat.add_mul];exact q2
     have:=Nat.div_lt_of_lt_mul (show j<i.size * (p+min z m) by rw[Nat.mul_comm];exact this);omega
    have⟨x,v,e1,T,_⟩:=cellOf (j / i.size) (j % i.size) hq (Nat.mod_lt _ k2);have:=k7 _ _ _ _ e1 T;rwa[Nat.mul_comm,Nat.div_add_mod]at this
   have C:=ymt (W:=W) (u:=u) (ty:=ty) (dLen:=m) (dCap:=h2) (sLen:=z) (sCap:=E) ht hi k1 f1 f2 h3;rw[h6]at C;have⟨p1,p2⟩:=zkk r (k * i.size) (r.extract (p * i.size) (p * i.size+min z m * i.size));have⟨s1,s2,s3,s4⟩:=zrv W (g.ab M i2) (putCells r (k * i.size) (r.extract (p * i.size) (p * i.size+min z m * i.size)))
   have G:(xs.take k++((xs.drop p).take (min z m)++xs.drop (k+min z m))).length=xs.length:=by simp;omega
   have K:∀j,j<xs.length->(xs.take k++((xs.drop p).take (min z m)++xs.drop (k+min z m)))[j]? = if k<=j∧j<k+min z m then xs[p+(j-k)]? else xs[j]? := λj A=>by
    by_cases X:j<k;rw[Qal (by simp;omega),Qaw,Qbq X,Qbr (by omega)];rw[Qav (by simp;omega)];have l1:(xs.take k).length=k:=by simp;omega
    rw[l1];have M:((xs.drop p).take (min z m)).length=min z m:=by simp;omega
    by_cases U:j<k+min z m;rw[Qal (by rw[M];omega),Qaw,Qbq (by omega),Qba,Qbq ⟨by omega,U⟩];rw[Qav (by rw[M];omega),M,Qba,Qbr (by omega)]
    congr 1;omega
   have F:∀j t,j<xs.length->t<i.size->(putCells r (k * i.size) (r.extract (p * i.size) (p * i.size+min z m * i.size))).getD (j * i.size+t) undef=if k<=j∧j<k+min z m then r.getD ((p+(j-k)) * i.size+t) undef else r.getD (j * i.size+t) undef:=λj t A hw=>by
    have h1:(r.extract (p * i.size) (p * i.size+min z m * i.size)).size=min z m * i.size:=by simp;omega
    have h7:j * i.size+t<r.size:=by
     have:(j+1) * i.size<=g.cap M i2 * i.size:=Qau _ (by omega);rw[Nat.add_mul,Nat.one_mul]at this;rw[k3];omega
    rw[Qae,p2 (j * i.size+t)];by_cases c:k<=j∧j<k+min z m;have e1:k * i.size<=j * i.size:=Qau _ c.1;have T:(j+1) * i.size<=(k+min z m) * i.size:=Qau _ (by omega);rw[Nat.add_mul,Nat.add_mul,Nat.one_mul]at T;have e3:(j-k) * i.size=j * i.size-k * i.size:=Nat.sub_mul _ _ _
    rw[Qbq ⟨by omega,by rw[h1];omega,h7⟩,Qbq c,Qae,Array.getElem?_extract,Qbq (by omega)]
    congr 2
    rw[Nat.add_mul,e3];omega;rw[Qbr,Qbr c,Qae];rw[h1];intro hh;apply c;constructor
    rcases Nat.lt_or_ge j k with q|q
    have:(j+1) * i.size<=k * i.size:=Qau _ q;rw[Nat.add_mul,Nat.one_mul]at this;omega;exact q
    rcases Nat.lt_or_ge j (k+min z m)with q|q
    exact q;have:(k+min z m) * i.size<=j * i.size:=Qau _ q;rw[Nat.add_mul]at this;omega
   have J:∀(j:Nat) (x:V) (t:Nat) (v:V),(xs.take k++((xs.drop p).take (min z m)++xs.drop (k+min z m)))[j]? = some x->x.cells[t]? = some v ->
     ∃N,xs[N]? = some x∧(putCells r (k * i.size) (r.extract (p * i.size) (p * i.size+min z m * i.size))).getD (j * i.size+t) undef=r.getD (N * i.size+t) undef:=λj x t v A B=>by
    have D:j<xs.length:=by rw[<-G];exact(Qaa.1 A).1
    rw[K j D]at A;have Z:∀N,xs[N]? = some x->t<i.size:=λN h'=>by have:=k6 _ _ h';have:=(Qaa.1 B).1;omega
    split at A;rename_i c;exact⟨_,A,by rw[F j t D (Z _ A),Qbq c]⟩;rename_i c;exact⟨_,A,by rw[F j t D (Z _ A),Qbr c]⟩
   have⟨q1,q2⟩:=zgk hG (o':=.arr I O i.size (xs.take k++((xs.drop p).take (min z m)++xs.drop (k+min z m))) cp) R rfl s1 s2 s3 s4 (λb _ hb=>setRow_other W _ b _ hb)
    (λY ty sz zs hy he=>by injection he with e1 T e3 e4 e5;subst e1;subst T;subst e3;subst e4;exact⟨_,xs,cp,rfl,Qbp _,λ_=>by rw[G];exact Qbp _⟩) (λh5=>by
    refine⟨_,setRow_heap W _ r _ O _ k1,k2,by rw[p1];exact k3,h4,by rw[G];exact k4,k5,λj x A =>?_,λj x t v A B =>?_,λj x t v A B =>?_⟩;have D:j<xs.length:=by rw[<-G];exact(Qaa.1 A).1
    rw[K j D]at A;split at A <;> exact k6 _ _ A
    have⟨N,X,U⟩:=J j x t v A B;rw[U];exact k7 _ _ _ _ X B;have⟨N,X,U⟩:=J j x t v A B
    rw[U];exact(k8 _ _ _ _ X B).mono h5)
   exact⟨_,_,g,.inl (by simp[C];rfl),q1,q2,.int _ _⟩
 cases h;cases h;cases h;cases h;cases h;cases h
end
section
variable {P:Program}
def ox(P:Program)(H:Heap)(ρ:Operand->V):Op->Option (V×Heap)
 |.alloc t=>yhe P H t
 |.box _ x=>hBox H (ρ x)
 |.store t a x=>zgl P H t (ρ a) (ρ x)
 |.makeMap t r=>y0s P H t (r.map ρ)
 |.mapUpdate t m k x=>ziq P H t (ρ m) (ρ k) (ρ x)
 |.insert t m k x=>ziq P H t (ρ m) (ρ k) (ρ x)
 |.range t x=>yqg P H t (ρ x)
 |.next i b=>yoo H (ρ i) b
 |.call c=>match c.callee with
  |.builtin .append=>match c.args.toList,c.argTypes.toList with
   |[s,x],[t,u]=>hAppend P H t u (ρ s) (ρ x)
   |_,_=>none
  |.builtin .copy=>match c.args.toList,c.argTypes.toList with
   |[s,x],[t,u]=>y7i P H t (ρ s) (ρ x)
   |_,_=>none
  |_=>(zf9 P H ρ c).map λv=>(v,H)
 |o=>(pv P H ρ o).map λv=>(v,H)
def yk4{W g H H' ρ r o v}(k:Good W g H)(l:∀x,Rel W g H (ρ x) (r x))(h:ox P H ρ o.op=some (v,H')):za2 P W g H (execOp r o) v H':=by
 have pure':∀{q:Option V},(q.map λv=>(v,H))=some (v,H')->q=some v∧H'=H:=λ{q} h=>by
  grind[Qaf]
 unfold ox at h;split at h;rename_i t i;unfold execOp;rw[i];exact yya k h
 grind[execOp,z03w]
 grind[execOp,yw7]
 grind[execOp,yod,yfu]
 grind[execOp,zxk]
 grind[execOp,zxk]
 rename_i t x i;unfold execOp;rw[i];exact yu6 k h (l x)
 grind[execOp,yyb]
 rename_i c i;split at h;rename_i e;split at h;rename_i s x t u b d;unfold execOp;rw[i];have:=yqj (ty:=o.type) k h (l s) (l x);have⟨callee,args,argTypes⟩:=c;simp at e b d;subst e;obtain rfl:=z1o b;obtain rfl:=z1o d;have⟨c,W',g',j,p,n,m⟩:=this;refine⟨c,W',g',?_,p,n,m⟩
 rcases j with j|⟨j,z⟩
 grind[resolve,invoke,builtin]
 grind[resolve,invoke,builtin]
 cases h;rename_i e;split at h;rename_i s x t u b d;unfold execOp;rw[i];have:=z021 (u:=u) (ty:=o.type) k h (l s) (l x);have⟨callee,args,argTypes⟩:=c;simp at e b d;subst e;obtain rfl:=z1o b;obtain rfl:=z1o d;have⟨c,W',g',j,p,n,m⟩:=this;refine⟨c,W',g',?_,p,n,m⟩
 rcases j with j|⟨j,z⟩
 grind[resolve,invoke,builtin]
 grind[resolve,invoke,builtin]
 cases h;obtain⟨j,rfl⟩:=pure' h;exact(y8p k l (o:=o) (v:=v) (by rw[i];exact j)).turns k;obtain⟨j,rfl⟩:=pure' h;exact(y8p k l j).turns k
structure St where
 t:List V
 H:Heap
 d:List (Nat×List V)
 e0:Nat->Nat->Option yzm
def gv(k:Nat):V:=match gl k with
 |some cs=>.ref (cs.map λp=>.int p.1 p.2) 0
 |none=>.any
def z0ey{W g H}(h:zn8 W g H)(k):Rel W g H (gv k) (.pointer (some ⟨k,0,none⟩)):=by
 unfold gv;split;rename_i cs e;have⟨l,ty,q,i⟩:=h.1 k cs e;refine .ref _ 0 k 0 (λj=>(cs[j]?.map λp=>Value.int p.1 p.2).getD undef) (λ_=>l) (λj v b =>?_) (λj v b =>?_) (λj v b =>?_);rw[Qan]at b;simp only[Qaf]at b;obtain⟨p,d,rfl⟩:=b;simp[World.cell?,i,d];rw[Qan]at b;simp only[Qaf]at b;obtain⟨p,d,rfl⟩:=b;simp[d,Value.oneCell']
 rw[Qan]at b;simp only[Qaf]at b;obtain⟨p,d,rfl⟩:=b;simp[d,Option.getD_some];exact .int _ _;exact .any _
def St.ev(σ:St):Operand->V
 |.tmp t=>σ.t.getD t .any
 |.const v=>ofConst v
 |.global k=>gv k
 |.func f=>.fn f [] []
def St.put(σ:St)(b:Option Nat)(v:V):St :=
 match b with
 |some d=>{σ with t:=σ.t.set d v}
 |none=>σ
def znq:Nat:=4000000000
def ypm(W:World)(g:Gh)(H:Heap)(d:Option Deferred)(f:Nat)(vs:List V):Prop :=
 (f<znq∧∃b e,d=some ⟨.fn (.func f) b,e⟩∧zmy W g H vs (e++b))∨(f=znq∧∃D,d=some ⟨.collected D,#[]⟩∧W.heap[D]? = some (.deferred (some []))∧g.base<=D)
def z02p{W g H}(m:Good W g H){b x}(h:W.heap[b]? = some (.deferred x)):¬Own g H b:=λ⟨l,i,o,j,e⟩=>by
 have d:=m.obj l i o j
 cases o with
 |cells cs=>have⟨c,ty,k,_⟩:=d;rw[show g.blk l i=b from e,h]at k;cases k
 |arr q ty u xs A=>have⟨c,k,_⟩:=d;rw[show g.ab l i=b from e,h]at k;cases k
 |map es=>have⟨n,clock,k,_⟩:=d;rw[show g.blk l i=b from e,h]at k;cases k
 |siter s r=>have k:W.heap[g.blk l i]? = _:=d;rw[show g.blk l i=b from e,h]at k;cases k
 |mit es p=>have⟨n,clock,z,k,_⟩:=d;rw[show g.blk l i=b from e,h]at k;cases k
structure yze(W:World)(a:Act)(g:Gh)(σ:St):Prop where
 good:Good W g σ.H
 size:a.tmps.size=σ.t.length
 tmps:∀j v,σ.t[j]? = some v->Rel W g σ.H v (a.tmps.getD j undef)
 dlen:a.defers.length=σ.d.length
 defs:∀(j f:Nat) (vs:List V),σ.d[j]? = some (f,vs)->ypm W g σ.H a.defers[j]? f vs
theorem zmy.mono{W g H vs cs}(h:zmy W g H vs cs){W' g' H'}(s:Step W g H W' g' H'):zmy W' g' H' vs cs:=⟨h.1,λj v b=>(h.2 j v b).mono s⟩
theorem ypm.mono{W g H}(k:Good W g H){d f vs}(h:ypm W g H d f vs){W' g' H'}(s:Step W g H W' g' H'):ypm W' g' H' d f vs:=by
 rcases h with ⟨j,e,m,i,b⟩|⟨j,D,i,b,l⟩
 exact .inl ⟨j,e,m,i,b.mono s⟩;exact .inr ⟨j,D,i,(s.block D (Qbh.1 b).1 (z02p k b)).trans b,by rw[s.base];exact l⟩
def ypm.fn{W g H d f vs}(h:ypm W g H d f vs)(i:f<znq):∃b e,d=some ⟨.fn (.func f) b,e⟩∧zmy W g H vs (e++b):=by
 rcases h with ⟨_,h⟩|⟨j,_⟩
 exact h;omega
theorem yze.ev{W a g σ}(h:yze W a g σ)(x):Rel W g σ.H (σ.ev x) (a.eval x):=by
 cases x with
 |tmp t=>
  simp only[St.ev,Act.eval]
  cases b:σ.t[t]? with
  |none=>rw[List.getD_eq_getElem?_getD,b];exact .any _
  |some v=>rw[List.getD_eq_getElem?_getD,b];exact h.tmps t v b
 |const v=>exact zqw v
 |global k=>exact z0ey h.good.zqr k
 |func f=>exact .fn f [] [] #[] #[] rfl rfl (by simp) (by simp)
def yze.next{W a g σ}(h:yze W a g σ){W' g' H'}(s:Step W g σ.H W' g' H')(p:Good W' g' H'){v c}(o:Rel W' g' H' v c)(b:Option Nat) :
  yze W' (a.put b c) g' ({σ with H:=H'}.put b v):=by
 have l:({σ with H:=H'}.put b v).H=H':=by cases b <;> rfl
 have n:({σ with H:=H'}.put b v).d=σ.d:=by cases b <;> rfl
 have k:(a.put b c).defers=a.defers:=by cases b <;> rfl
 refine⟨by rw[l];exact p,?_,?_,by rw[k,n];exact h.dlen,λj f vs e =>?_⟩
 cases b with
 |none=>exact h.size
 |some d=>simpa[Act.put,St.put]using h.size
 intro j u e;rw[l]
 cases b with
 |none=>exact(h.tmps j u e).mono s
 |some d=>
  simp[St.put]at e;rw[Qbc]at e;simp[Act.put,Array.getElem?_setIfInBounds];split at e;rename_i i;subst i;split at e;rename_i m;cases e;rw[Qbq rfl,Qbq (by rw[h.size];exact m)];exact o;cases e;rename_i i;rw[Qbr i,<-Qae];exact(h.tmps j u e).mono s
 rw[n]at e;rw[k,l];exact(h.defs j f vs e).mono h.good s
def y4u(P:Program)(f:Nat)(args:List V)(H:Heap)(r:V)(H':Heap):Prop :=
 ∀(W) (g) (b),Good W g H->zmy W g H args b ->
  ((callFunc f b).run P W = .ok (.enter f b) W∧Calls P f b W (λe W'=>∃c g',e = .returned c∧Step W g H W' g' H'∧Good W' g' H'∧Rel W' g' H' r c)) ∨
  ∃c W' g',(callFunc f b).run P W = .ok (.value c) W'∧Step W g H W' g' H'∧Good W' g' H'∧Rel W' g' H' r c
structure Claim where
 f:Nat
 args:List V
 H:Heap
 r:V
 H':Heap
def Claim.ok(P:Program)(c:Claim):Prop:=y4u P c.f c.args c.H c.r c.H'
def z0r(ops:Array Oper)(σ:St)(o:Oper):Option Bool :=
 match o.guard with
 |none=>some true
 |some (j,want)=>match (ops[j]?).bind (·.dst)with
  |some d=>match σ.t.getD d .any with
   |.bool b=>some (b==want)
   |.tup _=>some false
   |_=>none
  |none=>none
def z1u{W a g σ}(h:yze W a g σ){ops o b}(j:z0r ops σ o=some b):Region.wanted o (yielded ops a.tmps)=b:=by
 unfold z0r at j;unfold Region.wanted;split at j
 grind
 split at j;rename_i d q;split at j;rename_i p n;cases j
 have i:d<σ.t.length:=by
  grind
 have e:=h.tmps d _ (Qab i);have l:σ.t[d] = .bool p:=by grind
 rw[l]at e;have k:d<a.tmps.size:=by rw[h.size];exact i
 rw[Qae,Qas k]at e;simp[Option.getD_some]at e;generalize m:a.tmps[d]=c at e;cases e
 grind[yielded]
 rename_i vs n;cases j
 have i:d<σ.t.length:=by
  grind
 have e:=h.tmps d _ (Qab i);have l:σ.t[d] = .tup vs:=by grind
 rw[l]at e;have k:d<a.tmps.size:=by rw[h.size];exact i
 rw[Qae,Qas k]at e;simp[Option.getD_some]at e;generalize m:a.tmps[d]=c at e;cases e
 grind[yielded]
 cases j;cases j
def target(ρ:Operand->V)(c:Call):Option (Nat×List V) :=
 match c.callee with
 |.value f=>match ρ f with
  |.fn f first b=>some (f,first++c.args.toList.map ρ++b)
  |_=>none
 |_=>none
def y7c(P:Program)(ops:Array Oper):List Oper->List (V×Option Heap)->St->Option (St×List (V×Option Heap)×List Claim)
 |[],d,σ=>some (σ,d,[])
 |o::rest,d,σ=>
  match z0r ops σ o with
  |none=>none
  |some b=>if b then
    (match ox P σ.H σ.ev o.op with
    |some (v,H')=>y7c P ops rest d ({σ with H:=H'}.put o.dst v)
    |none=>match o.op with
     |.call c=>match target σ.ev c,d with
      |some (f,args),(r,H')::e=>match y7c P ops rest e ({σ with H:=H'.getD σ.H}.put o.dst r)with
       |some (σ',l,cl)=>some (σ',l,⟨f,args,σ.H,r,H'.getD σ.H⟩::cl)
       |none=>none
      |_,_=>none
     |_=>none)
   else y7c P ops rest d (σ.put o.dst (.tup []))
end
def yt6(o:Oper):Bool:=match o.op with
 |.defer _=>false
 |_=>true
def calm:Code->Bool
 |.region _ ops _=>ops.toList.all yt6
 |.seq a b=>calm a&&calm b
 |.cond _ a b=>calm a&&calm b
 |.block _ a=>calm a
 |.loop a=>calm a
 |.skip=>true
 |.exit _=>true
 |.ret=>true
 |_=>false
abbrev rF(r:Option Nat):Fence:={Fence.wide with round:=r}
def wpR(P:Program)(c:Code)(Q:Exit->Act->World->Prop)(a:Act)(w:World):Prop :=
 ∀r:Option Nat,(r=none∨calm c=true)->∀n,c.wpIn (rF r) n P Q a w
section
variable {P:Program}{Q Q':Exit → Act → World → Prop}{a:Act}{w:World}{x y c:Code}
def wpR.wp(h:wpR P c Q a w):c.wp P Q a w:=(wpIn_wide (n:=0)).1 (h none (.inl rfl) 0)
def y01(h:wpR P c Q a w)(d:∀e a w,Q e a w->Q' e a w):wpR P c Q' a w:=λr b n=>wpIn_mono (h r b n) d
def z0ah(h:Q .normal a w):wpR P .skip Q a w:=λr _ n=>wpIn_skip h
def z07u{id}(h:Q (.exit id) a w):wpR P (.exit id) Q a w:=λr _ n=>wpIn_exit h
def z0ci(h:Q .ret a w):wpR P .ret Q a w:=λr _ n=>wpIn_ret h
def z0dl(h:wpR P x (Exit.then (wpR P y Q) Q) a w):wpR P (.seq x y) Q a w:=λr b n=>by
 have j:r=none∨calm x=true:=b.imp_right λh=>by simp_all[calm]
 have i:r=none∨calm y=true:=b.imp_right λh=>by simp_all[calm]
 refine wpIn_seq (wpIn_mono (h r j n) λe a w d =>?_)
 cases e with
 |normal=>exact d r i n
 |_=>exact d
def ykc{o t}(l:a.eval o = .bool t)(j:t=true->wpR P x Q a w)(k:t=false->wpR P y Q a w):wpR P (.cond o x y) Q a w:=λr b n=>by
 have i:r=none∨calm x=true:=b.imp_right λh=>by simp_all[calm]
 have d:r=none∨calm y=true:=b.imp_right λh=>by simp_all[calm]
 exact wpIn_cond_split l (λe=>j e r i n) λe=>k e r d n
def z06f{id}(h:wpR P c (Exit.inBlock id Q) a w):wpR P (.block id c) Q a w:=λr b n=>wpIn_block (h r (b.imp_right λh=>h) n)
def z0bm{o:Oper}{r n next next'}(k:∀a w,next a w->next' a w)(m:∀a w,¬Q .outgrown a w){d}(h:o.upon P a next Q d):o.uponIn (rF r) n P a next' Q d:=by
 cases d with
 |ok x i=>
  cases x <;> simp[Oper.upon,Oper.uponIn]at h ⊢
  case enter f args=>
   refine⟨λh=>(by cases h),?_⟩
   have j:=CallsIn.mono ((callsIn_wide (n:=n-1)).2 h) (R':=λe b=>match e,b with
    |.returned v,b=>next' (a.put o.dst v) b
    |.panicked chain,b=>Q (.panic chain) a b
    |.outgrown,_=>LetsOut Q) λe b p=>by grind
   cases r with
   |none=>exact j
   |some l=>exact CallsIn.inRound l j
  case row row args=>
   exact⟨λh=>(by cases h),λc cs _=>let ⟨v,i,r,s⟩:=h c cs;⟨v,i,k _ _ r,stepsIn_wide.2 s⟩⟩
  all_goals grind
 |halt x i=>
  cases x <;> simp[Oper.uponIn]at h ⊢ <;> exact h
def z0ay{o ρ r}(h:r=none∨yt6 o=true):o.semAt r ρ=execOp ρ o:=by
 rcases h with rfl|h
 simp[Oper.semAt];exact Oper.semAt_plain (rF r) ρ o λc e=>by rw[yt6,e]at h;cases h
def zyd{ops r n}(d:r=none∨ops.toList.all yt6=true)(b:∀a w,¬Q .outgrown a w):∀(l) (a) (w),wpOps P ops Q l a w->wpOpsIn (rF r) n P ops Q l a w
 |[],a,w,h=>h
 |i::rest,a,w,h=>by
  have k:¬LetsOut Q:=λ⟨a,w,h⟩=>b a w h
  simp[wpOps,wpOpsIn]at h ⊢;split at h;rename_i j;rw[j];exact zyd d b rest a w h;rename_i o j;rw[j];simp
  have m:=d.imp_right λh=>Qat.1 h o (by
   grind)
  split at h;rename_i e;rw[Qbq e]
  rcases h with h|⟨_,h⟩
  refine⟨λf _=>trivial,?_⟩;rw[show(rF r).round=r from rfl,z0ay m];exact z0bm (λa w=>zyd d b rest a w) b h;exact(k h).elim;rename_i e;rw[Qbr e];exact⟨λf _=>trivial,zyd d b rest _ w h⟩
def z01g{id ops}(d:∀a w,¬Q .outgrown a w)(h:wpOps P ops Q (List.range ops.size) a w):wpR P (.region id ops false) Q a w:=λr b n=>
 wpIn_region (zyd (b.imp_right λh=>h) d _ _ _ h)
def zjz{id ops}(d:∀a w,¬Q .outgrown a w)(e:P.follows .mixedOrders=true)(h:wpAny P .any ops Q ops.size (Array.replicate ops.size false) a {w with drawn:=w.drawn+1}) :
  wpR P (.region id ops true) Q a w:=λr b n=>
 wpIn_region_draw λt=>by
  simp[e,if_true];exact zyd (b.imp_right λh=>h) d _ _ _ (wpAny_sound ops.size t _ a _ h)
def y71(P:Program)(c:Code)(Q:Exit->Act->World->Prop)(a:Act)(w:World):Prop :=
 ∀r:Option Nat,(r=none∨calm c=true)->∀n,∀(b) (k) (cs),b.roundOf=r->(rF r).room (cs.length+1+n) ->
  ∃e h d,Q e h d∧ArrivesIn (Machine.fenced P (rF r)) P (lone (b.atR a (.code c :: .inLoop c::k)) cs w) b k cs e h d
def y71.wp(h:y71 P c Q a w):wpR P (.loop c) Q a w:=λr m n b k cs j q d=>by
 have⟨e,p,l,o,i⟩:=h r (m.imp_right λh=>h) n b k cs j d;exact⟨e,p,l,o,.of_steps (.one (fenced_calm (n:=n) trivial d rfl) stepR_loop) i⟩
def y71.round(h:wpR P c (Exit.then (y71 P c Q) Q) a w):y71 P c Q a w:=λr u n b k cs q i=>by
 have⟨e,p,o,m,d⟩:=h r u n b (.inLoop c::k) cs q trivial i
 cases e with
 |normal=>
  have⟨A,B,z,s,j⟩:=m r u n b k cs q i
  exact⟨A,B,z,s,.of_steps (StepsIn.trans d (.one (fenced_calm (n:=n) trivial i rfl) stepR_inLoop)) j⟩
 |exit id=>exact⟨_,p,o,m,.pass (x:=.inLoop c) rfl (λ_ _=>.inl (by simp)) d⟩
 |goto l=>exact⟨_,p,o,m,.pass (x:=.inLoop c) rfl (λ_ _=>.inl (by simp)) d⟩
 |ret=>exact⟨_,p,o,m,.pass (x:=.inLoop c) rfl (λ_ _=>.inl (by simp)) d⟩
 |panic C=>exact⟨_,p,o,m,.pass (x:=.inLoop c) rfl (λ_ _=>.inl (by simp)) d⟩
 |outgrown=>exact⟨_,p,o,m,.pass (x:=.inLoop c) rfl (λ_ _=>.inl (by simp)) d⟩
end
section
variable {P:Program}
def zr1{W g H xs i a b}(h:zmy W g H xs a)(k:zmy W g H i b):zmy W g H (xs++i) (a++b):=by
 refine⟨by simp[h.1,k.1],λj v d =>?_⟩;rw[Qaz]at d;split at d;rename_i e;rw[z3j (by rw[h.1];exact e)];exact h.2 j v d;have:j=a.size+(j-xs.length):=by rw[h.1];omega
 rw[this,zjy];exact k.2 _ v d
def zh5{W g H ρ r}(i:∀x,Rel W g H (ρ x) (r x)){c ty f args}(h:target ρ c=some (f,args)) :
  ∃b,zmy W g H args b∧∀w:World,(do let d <-resolve r c ty;invoke d.target d.args:Sem Next).run P w=(callFunc f b).run P w:=by
 unfold target at h;split at h;rename_i j z;split at h;rename_i A first k p;injection h with h;cases h;have e:=i j;rw[p]at e;generalize s:r j=u at e
 cases e with
 |fn _ _ _ q cs o n m l=>
  refine⟨q++c.args.map r++cs,zr1 (zr1 ⟨o,m⟩ (zyw i c.args)) ⟨n,l⟩,λw =>?_⟩
  grind[resolve,Deferred.ofValue,invoke]
 cases h;cases h
inductive z27 where
 |normal
 |exit (id:Nat)
 |ret
 |panic (v:V)
inductive ERel (W:World) (g:Gh) (H:Heap):Exit->z27->Prop where
 |normal:ERel W g H .normal .normal
 |exit (id:Nat):ERel W g H (.exit id) (.exit id)
 |ret:ERel W g H .ret .ret
 |panic (v:V) (c:Value) (h:Rel W g H v c):ERel W g H (.panic [{v:=c,recovered:=false}]) (.panic v)
def ylf(W0:World)(g0:Gh)(H0:Heap)(Q:z27->St->Prop)(e:Exit)(a:Act)(W:World):Prop :=
 ∃g σ b,ERel W g σ.H e b∧(σ.e0=H0.E∧Step W0 g0 H0 W g σ.H)∧yze W a g σ∧Q b σ
structure Base(W0:World)(g0:Gh)(H0:Heap):Prop where
 good:Good W0 g0 H0
def zx5{ops:Array Oper}{Q:Exit->Act->World->Prop}{W0:World}{g0:Gh}{H0:Heap}:∀(l:List Oper) (k:Nat) (i rest:List (V×Option Heap)) (σ σ':St) (cl:List Claim) (W:World) (a:Act) (g:Gh),
  (∀j,l[j]? = ops[k+j]?)->y7c P ops l i σ=some (σ',rest,cl)->(∀c∈cl,c.ok P)->yze W a g σ->(σ.e0=H0.E∧Step W0 g0 H0 W g σ.H) ->
  (∀W' Y g',(σ'.e0=H0.E∧Step W0 g0 H0 W' g' σ'.H)->yze W' Y g' σ'->Q .normal Y W')->wpOps P ops Q (List.range' k l.length) a W
 |[],k,i,rest,σ,σ',cl,W,a,g,K,h,z,d,s,A=>by
  simp only[y7c,Qbn,Qbs]at h;obtain⟨rfl,_,_⟩:=h
  exact A W a g s d
 |o::l,k,i,rest,σ,σ',cl,W,a,g,K,h,z,d,s,A=>by
  have ho:ops[k]? = some o:=by simpa using(K 0).symm
  have u:∀j,l[j]? = ops[k+1+j]? := λj=>by have:=K (j+1);simpa[Nat.add_assoc,Nat.add_comm 1 j]using this
  simp only[List.length_cons,List.range'_succ,wpOps,ho];simp only[y7c]at h;split at h;cases h
  ·rename_i b hw;rw[z1u d hw];split at h
   ·rename_i L;subst L;rw[Qbq rfl];left;unfold Oper.wp;split at h
    ·rename_i v H' C;have⟨c,W',g',B,h2,h3,h4⟩:=yk4 (P:=P) (r:=a.eval) d.good d.ev C
     have m:=zx5 l (k+1) i rest _ σ' cl W' (a.put o.dst c) g' u h z (d.next h2 h3 h4 o.dst) (by
      have:({σ with H:=H'}.put o.dst v).H=H':=by cases o.dst <;> rfl
      have q:({σ with H:=H'}.put o.dst v).e0=σ.e0:=by cases o.dst <;> rfl
      rw[this,q];exact⟨s.1,s.2.trans h2⟩) A
     rcases B with B|⟨B,rfl⟩
     rw[B];exact m;rw[B];exact m
    ·rename_i C;split at h
     ·rename_i call O;split at h
      ·rename_i f args r H' G ht;split at h
       ·rename_i σ1 l1 h5 F;simp only[Qbn,Qbs]at h;obtain⟨rfl,rfl,rfl⟩:=h;have⟨p,k1,Z⟩:=zh5 (P:=P) (ty:=o.type) d.ev ht;have T:=z _ (.head _)
        have D:(execOp a.eval o).run P W=(callFunc f p).run P W:=by
         rw[<-Z W];unfold execOp;rw[O]
        have n:∀c W' g',Step W g σ.H W' g' (H'.getD σ.H)->Good W' g' (H'.getD σ.H)->Rel W' g' (H'.getD σ.H) r c->wpOps P ops Q (List.range' (k+1) l.length) (a.put o.dst c) W':=λc W' g' s1 J I=>
         zx5 l (k+1) G _ _ _ _ W' (a.put o.dst c) g' u F (λc U=>z c (.tail _ U)) (d.next s1 J I o.dst) (by
          have:({σ with H:=H'.getD σ.H}.put o.dst r).H=H'.getD σ.H:=by cases o.dst <;> rfl
          have q:({σ with H:=H'.getD σ.H}.put o.dst r).e0=σ.e0:=by cases o.dst <;> rfl
          rw[this,q];exact⟨s.1,s.2.trans s1⟩) A
        rcases T W g p d.good k1 with ⟨N,M⟩|⟨c,W',g',N,M,e3,e4⟩
        rw[D,N];refine M.mono λe W' ⟨c,g',q,s1,J,I⟩ =>?_
        subst q;exact n c W' g' s1 J I;rw[D,N];exact n c W' g' M e3 e4
       cases h
      cases h
     cases h
   ·rename_i L;have X:b=false:=by simpa using L
    subst X;rw[Qbr (by simp)];have R:=d.next (.refl W g σ.H) d.good (v:=.tup []) (c:=undef) (.tup [] #[] rfl (by simp)) o.dst
    exact zx5 l (k+1) i rest _ σ' cl W (a.put o.dst undef) g u h z R (by
     have:(σ.put o.dst (.tup [])).H=σ.H:=by cases o.dst <;> rfl
     have q:(σ.put o.dst (.tup [])).e0=σ.e0:=by cases o.dst <;> rfl
     rw[this,q];exact s) A
def y2v{ops:Array Oper}{Q:Exit->Act->World->Prop}(more:List Nat){W0:World}{g0:Gh}{H0:Heap}:∀(l:List Oper) (k:Nat) (i rest:List (V×Option Heap)) (σ σ':St) (cl:List Claim) (W:World) (a:Act) (g:Gh),
  (∀j,j<l.length->l[j]? = ops[k+j]?)->y7c P ops l i σ=some (σ',rest,cl)->(∀c∈cl,c.ok P)->yze W a g σ->(σ.e0=H0.E∧Step W0 g0 H0 W g σ.H) ->
  (∀W' Y g',(σ'.e0=H0.E∧Step W0 g0 H0 W' g' σ'.H)->yze W' Y g' σ'->wpOps P ops Q more Y W')->wpOps P ops Q (List.range' k l.length++more) a W
 |[],k,i,rest,σ,σ',cl,W,a,g,K,h,z,d,s,A=>by
  simp only[y7c,Qbn,Qbs]at h;obtain⟨rfl,_,_⟩:=h
  simpa using A W a g s d
 |o::l,k,i,rest,σ,σ',cl,W,a,g,K,h,z,d,s,A=>by
  have ho:ops[k]? = some o:=by simpa using(K 0 (by simp)).symm
  have u:∀j,j<l.length->l[j]? = ops[k+1+j]? := λj hj=>by have:=K (j+1) (by simp;omega);simpa[Nat.add_assoc,Nat.add_comm 1 j]using this
  simp only[List.length_cons,List.range'_succ,Qby,wpOps,ho];simp only[y7c]at h;split at h;cases h
  ·rename_i b hw;rw[z1u d hw];split at h
   ·rename_i L;subst L;rw[Qbq rfl];left;unfold Oper.wp;split at h
    ·rename_i v H' C;have⟨c,W',g',B,h2,h3,h4⟩:=yk4 (P:=P) (r:=a.eval) d.good d.ev C
     have m:=y2v more l (k+1) i rest _ σ' cl W' (a.put o.dst c) g' u h z (d.next h2 h3 h4 o.dst) (by
      have:({σ with H:=H'}.put o.dst v).H=H':=by cases o.dst <;> rfl
      have q:({σ with H:=H'}.put o.dst v).e0=σ.e0:=by cases o.dst <;> rfl
      rw[this,q];exact⟨s.1,s.2.trans h2⟩) A
     rcases B with B|⟨B,rfl⟩
     rw[B];exact m;rw[B];exact m
    ·rename_i C;split at h
     ·rename_i call O;split at h
      ·rename_i f args r H' G ht;split at h
       ·rename_i σ1 l1 h5 F;simp only[Qbn,Qbs]at h;obtain⟨rfl,rfl,rfl⟩:=h;have⟨p,k1,Z⟩:=zh5 (P:=P) (ty:=o.type) d.ev ht;have T:=z _ (.head _)
        have D:(execOp a.eval o).run P W=(callFunc f p).run P W:=by
         rw[<-Z W];unfold execOp;rw[O]
        have n:∀c W' g',Step W g σ.H W' g' (H'.getD σ.H)->Good W' g' (H'.getD σ.H)->Rel W' g' (H'.getD σ.H) r c->wpOps P ops Q (List.range' (k+1) l.length++more) (a.put o.dst c) W':=λc W' g' s1 J I=>
         y2v more l (k+1) G _ _ _ _ W' (a.put o.dst c) g' u F (λc U=>z c (.tail _ U)) (d.next s1 J I o.dst) (by
          have:({σ with H:=H'.getD σ.H}.put o.dst r).H=H'.getD σ.H:=by cases o.dst <;> rfl
          have q:({σ with H:=H'.getD σ.H}.put o.dst r).e0=σ.e0:=by cases o.dst <;> rfl
          rw[this,q];exact⟨s.1,s.2.trans s1⟩) A
        rcases T W g p d.good k1 with ⟨N,M⟩|⟨c,W',g',N,M,e3,e4⟩
        rw[D,N];refine M.mono λe W' ⟨c,g',q,s1,J,I⟩ =>?_
        subst q;exact n c W' g' s1 J I;rw[D,N];exact n c W' g' M e3 e4
       cases h
      cases h
     cases h
   ·rename_i L;have X:b=false:=by simpa using L
    subst X;rw[Qbr (by simp)];have R:=d.next (.refl W g σ.H) d.good (v:=.tup []) (c:=undef) (.tup [] #[] rfl (by simp)) o.dst
    exact y2v more l (k+1) i rest _ σ' cl W (a.put o.dst undef) g u h z R (by
     have:(σ.put o.dst (.tup [])).H=σ.H:=by cases o.dst <;> rfl
     have q:(σ.put o.dst (.tup [])).e0=σ.e0:=by cases o.dst <;> rfl
     rw[this,q];exact s) A
def zw2:∀c∈([]:List Claim),c.ok P:=by simp
def zs7{c}{l:List Claim}(h:y4u P c.f c.args c.H c.r c.H')(r:∀c∈l,c.ok P):∀d∈c::l,d.ok P:=λd b=>by
 cases b with
 |head=>exact h
 |tail _ b=>exact r d b
def y0q{W0 g0 H0 Q}(a)(w):¬ylf W0 g0 H0 Q .outgrown a w:=λ⟨_,_,_,h,_⟩=>by cases h
def Sat(P:Program)(c:Code)(σ:St)(Q:z27->St->Prop):Prop :=
 ∀W0 g0 H0 W a g,Base W0 g0 H0->(σ.e0=H0.E∧Step W0 g0 H0 W g σ.H)->yze W a g σ->wpR P c (ylf W0 g0 H0 Q) a W
theorem Sat.mono{c σ Q Q'}(h:Sat P c σ Q)(b:∀e σ,Q e σ->Q' e σ):Sat P c σ Q' :=
 λW0 g0 H0 W a g j d i=>y01 (h W0 g0 H0 W a g j d i) λe a w ⟨g,σ,o,n,m,l,k⟩=>⟨g,σ,o,n,m,l,b _ _ k⟩
def z072{σ Q}(h:Q .normal σ):Sat P .skip σ Q:=λ_ _ _ _ _ g _ b d=>z0ah ⟨g,σ,.normal,.normal,b,d,h⟩
def z0b5{id σ Q}(h:Q (.exit id) σ):Sat P (.exit id) σ Q:=λ_ _ _ _ _ g _ b d=>z07u ⟨g,σ,.exit id,.exit id,b,d,h⟩
def z0cn{σ Q}(h:Q .ret σ):Sat P .ret σ Q:=λ_ _ _ _ _ g _ b d=>z0ci ⟨g,σ,.ret,.ret,b,d,h⟩
def z27.then(next:St->Prop)(Q:z27->St->Prop):z27->St->Prop
 |.normal,σ=>next σ
 |e,σ=>Q e σ
def z0br{x y σ Q}(h:Sat P x σ (z27.then (λσ'=>Sat P y σ' Q) Q)):Sat P (.seq x y) σ Q:=λW0 g0 H0 W a g j l m=>by
 refine z0dl (y01 (h W0 g0 H0 W a g j l m) λe a w ⟨g,σ,o,n,i,d,b⟩ =>?_)
 cases n with
 |normal=>exact b W0 g0 H0 w a g j i d
 |exit id=>exact⟨g,σ,_,.exit id,i,d,b⟩
 |ret=>exact⟨g,σ,_,.ret,i,d,b⟩
 |panic v c k=>exact⟨g,σ,_,.panic v c k,i,d,b⟩
def yw6{c x y σ Q b}(l:σ.ev c = .bool b)(n:b=true->Sat P x σ Q)(m:b=false->Sat P y σ Q):Sat P (.cond c x y) σ Q:=λW0 g0 H0 W a g k j e=>by
 have d:=e.ev c;rw[l]at d;generalize i:a.eval c=o at d;cases d;exact ykc i (λh=>n h W0 g0 H0 W a g k j e) (λh=>m h W0 g0 H0 W a g k j e)
def z07y(b:Bool)(x y:Prop):Prop:=match b with
 |true=>x
 |false=>y
def z27.inBlock(id:Nat)(Q:z27->St->Prop):z27->St->Prop
 |.exit b,σ=>z07y (Nat.beq b id) (Q .normal σ) (Q (.exit b) σ)
 |e,σ=>Q e σ
def z049{id c σ Q}(h:Sat P c σ (z27.inBlock id Q)):Sat P (.block id c) σ Q:=λW0 g0 H0 W a g n l m=>by
 refine z06f (y01 (h W0 g0 H0 W a g n l m) λe a w ⟨g,σ,q,o,j,i,b⟩ =>?_)
 cases o with
 |normal=>exact⟨g,σ,_,.normal,j,i,b⟩
 |exit d=>
  simp[z27.inBlock]at b;simp[Exit.inBlock];split;rename_i p;rw[show Nat.beq d id=true from by simp_all]at b;exact⟨g,σ,_,.normal,j,i,b⟩
  rw[show Nat.beq d id=false from by
   grind[Qaj]]at b
  exact⟨g,σ,_,.exit d,j,i,b⟩
 |ret=>exact⟨g,σ,_,.ret,j,i,b⟩
 |panic v c k=>exact⟨g,σ,_,.panic v c k,j,i,b⟩
end
inductive VLe:V->V->Prop where
 |refl (v:V):VLe v v
 |any (v:V):VLe v .any
 |nil (sz:Nat) (b:Bool):VLe .nils (.sl sz [] b)
 |full (sz:Nat) (xs:List V):VLe (.sl sz xs true) (.sl sz xs false)
 |agg (vs us:List V) (hn:vs.length=us.length) (h:∀(j:Nat) (v u:V),vs[j]? = some v->us[j]? = some u->VLe v u):VLe (.agg vs) (.agg us)
 |tup (vs us:List V) (hn:vs.length=us.length) (h:∀(j:Nat) (v u:V),vs[j]? = some v->us[j]? = some u->VLe v u):VLe (.tup vs) (.tup us)
inductive yak:List V->List V->Prop where
 |nil:yak [] []
 |cons {v u:V} {vs us:List V}(h:VLe v u) (r:yak vs us):yak (v::vs) (u::us)
def yak.length{vs b}(h:yak vs b):vs.length=b.length:=by induction h <;> simp_all
theorem yak.get{vs b}(h:yak vs b):∀(j:Nat) (v u),vs[j]? = some v->b[j]? = some u->VLe v u:=by
 induction h with
 |nil=>grind
 |cons h r d=>
  grind
def yak.refl:∀vs:List V,yak vs vs
 |[]=>.nil
 |v::vs=>.cons (.refl v) (yak.refl vs)
def VLe.agg'{vs b}(h:yak vs b):VLe (.agg vs) (.agg b):=.agg _ _ h.length h.get
def VLe.tup'{vs b}(h:yak vs b):VLe (.tup vs) (.tup b):=.tup _ _ h.length h.get
def VLe.rel{v u}(h:VLe v u){W g H}:∀{c},Rel W g H v c->Rel W g H u c:=by
 induction h with
 |refl v=>exact λh=>h
 |any v=>exact λ_=>.any _
 |nil q b=>intro c h;cases h;exact .slnil _ _
 |full q xs=>
  intro c h
  cases h with
  |slnil=>exact .slnil _ _
  |sle _ _ a d A=>exact .sle _ _ a d (by simp)
  |sl _ _ _ b o d c B s i A k e n l=>exact .sl _ _ _ b o d c B s i (by simp) k e n l
 |agg vs p z h r=>
  intro c e
  cases e with
  |agg _ cs k n l=>
   refine .agg _ cs (by omega) (λj u m =>?_) (λj u m =>?_)
   grind
   grind
 |tup vs p z h r=>
  intro c e
  cases e with
  |tup _ cs k l=>
   refine .tup _ cs (by omega) (λj u m =>?_);have C:=(Qaa.1 m).1;have D:vs[j]? = some (vs[j]'(by omega)):=Qab _
   grind
mutual
def V.kin(D:Nat->Nat->Prop):V->Prop
 |.ptr l i _=>D l i
 |.ref cs _=>V.ze2 D cs
 |.ap l i _ _ _=>D l i
 |.sl _ xs _=>V.ze2 D xs
 |.hs l i _ _ _ _=>D l i
 |.map l i=>D l i
 |.fn _ a b=>V.ze2 D a∧V.ze2 D b
 |.iface _ v=>V.kin D v
 |.agg cs=>V.ze2 D cs
 |.tup vs=>V.ze2 D vs
 |_=>True
def V.ze2(D:Nat->Nat->Prop):List V->Prop
 |[]=>True
 |v::vs=>V.kin D v∧V.ze2 D vs
end
def zco{D}:∀{vs},V.ze2 D vs->∀(j:Nat) (v),vs[j]? = some v->V.kin D v
 |[],_,j,v,b=>by simp at b
 |u::d,h,0,v,b=>by grind[V.ze2]
 |u::d,h,j+1,v,b=>by exact zco h.2 j v (by simpa using b)
theorem zhd{D}:∀{vs},(∀v∈vs,V.kin D v)->V.ze2 D vs
 |[],_=>by simp[V.ze2]
 |u::d,h=>by exact⟨h u (.head _),zhd λv b=>h v (.tail _ b)⟩
def zuz{D x}(h:V.kin D x):V.ze2 D x.cells:=by
 cases x <;> simp_all[V.kin,V.cells,V.ze2]
def Rel.restrict{W g g' H H' D}(p:∀l i,D l i->g.dom l i->g'.dom l i)(C:∀l i,D l i->g'.blk l i=g.blk l i)(h3:∀l i,D l i->g'.ab l i=g.ab l i)(B:∀l i,D l i->g'.cap l i=g.cap l i)
  (Y:∀l i,D l i->H'.get l i=H.get l i) (r:∀b,Own g' H' b->Own g H b) {v c} (h:Rel W g H v c):V.kin D v->Rel W g' H' v c:=by
 induction h with
 |any c=>exact λ_=>.any c
 |bool b=>exact λ_=>.bool b
 |int k n=>exact λ_=>.int k n
 |str s=>exact λ_=>.str s
 |nilp=>exact λ_=>.nilp
 |ptr l i e E=>intro k;rw[<-C l i k];exact .ptr l i e (p l i k E)
 |ref cs e b o c I M F J z=>intro k;exact .ref cs e b o c (λR A=>I R (r b A)) M F (λj v d=>z j v d (zco k j v d))
 |ap l i G O e a E hv ha=>
  intro k;simp[V.kin]at k;refine .ap l i G O e a (p l i k E) (λv ty u xs N K =>?_) λty u xs N K =>?_
  grind
  grind
 |nils=>exact λ_=>.nils
 |slnil u full=>exact λ_=>.slnil u full
 |sle u full a q L=>exact λ_=>.sle u full a q L
 |sl u xs full b o q c I hz B L hs M F J z=>
  intro k;exact .sl u xs full b o q c (λA=>I (r b A)) hz B L hs M F (λj x t v d X=>z j x t v d X (zco (zuz (zco k j x d)) t v X))
 |hs l i G e n full a m q E hv ha=>
  intro k;simp[V.kin]at k;refine .hs l i G e n full a m q (p l i k E) (λv ty u xs N K =>?_) λty u xs N K =>?_
  grind
  grind
 |mapn=>exact λ_=>.mapn
 |mapc es b en clock I hw he=>exact λ_=>.mapc es b en clock (λA=>I (r b A)) hw he
 |map l i E=>intro k;rw[<-C l i k];exact .map l i (p l i k E)
 |fn f fs cs T U F h2 r1 r2 i1 Z=>intro k;exact .fn f fs cs T U F h2 (λj v d=>i1 j v d (zco k.1 j v d)) (λj v d=>Z j v d (zco k.2 j v d))
 |nilf=>exact λ_=>.nilf
 |iface t v c h z=>intro k;exact .iface t v c (z k)
 |nili=>exact λ_=>.nili
 |agg vs cs A F J z=>intro k;exact .agg vs cs A F (λj v d=>z j v d (zco k j v d))
 |tup vs cs A J z=>intro k;exact .tup vs cs A (λj v d=>z j v d (zco k j v d))
theorem Rel.kin{W g H v c}(h:Rel W g H v c):V.kin g.dom v:=by
 induction h with
 |ptr l i k e=>simpa[V.kin]using e
 |ap l i s I k a e p G=>simpa[V.kin]using e
 |hs l i s k n full a m u e p G=>simpa[V.kin]using e
 |map l i e=>simpa[V.kin]using e
 |ref cs k b o c F E r q d=>grind[V.kin,zhd,Qbj]
 |fn f Y cs J K r X N M R O=>
  grind[V.kin,zhd,Qbj]
 |iface t v c h d=>simpa[V.kin]using d
 |agg vs cs D r q d=>grind[V.kin,zhd,Qbj]
 |tup vs cs D q d=>grind[V.kin,zhd,Qbj]
 |sl L xs full b o u c F T A U hs E r q d=>
  refine zhd λx B =>?_
  have⟨j,z⟩:=Qbj B;cases x
  case agg cs=>
   simp[V.kin];exact zhd λv p=>by have⟨t,C⟩:=Qbj p;exact d j _ t v z C
  all_goals exact d j _ 0 _ z rfl
 |_=>simp[V.kin,V.ze2]
mutual
def V.zvi{D d:Nat->Nat->Prop}(h:∀l i,D l i->d l i):∀v:V,V.kin D v->V.kin d v
 |.ptr l i _,k=>by simp only[V.kin]at *;exact h l i k
 |.ref cs _,k=>by simp only[V.kin]at *;exact V.zh6 h cs k
 |.ap l i _ _ _,k=>by simp only[V.kin]at *;exact h l i k
 |.sl _ xs _,k=>by simp only[V.kin]at *;exact V.zh6 h xs k
 |.hs l i _ _ _ _,k=>by simp only[V.kin]at *;exact h l i k
 |.map l i,k=>by simp only[V.kin]at *;exact h l i k
 |.fn _ a b,k=>by simp only[V.kin]at *;exact⟨V.zh6 h a k.1,V.zh6 h b k.2⟩
 |.iface _ v,k=>by simp only[V.kin]at *;exact V.zvi h v k
 |.agg cs,k=>by simp only[V.kin]at *;exact V.zh6 h cs k
 |.tup vs,k=>by simp only[V.kin]at *;exact V.zh6 h vs k
 |.any,_| .bool _,_| .int _ _,_| .str _,_| .nilp,_| .nils,_| .mapn,_| .mapc _,_| .nilf,_| .nili,_=>by simp[V.kin]
def V.zh6{D b:Nat->Nat->Prop}(h:∀l i,D l i->b l i):∀vs:List V,V.ze2 D vs->V.ze2 b vs
 |[],_=>by simp[V.ze2]
 |v::vs,k=>by simp only[V.ze2]at *;exact⟨V.zvi h v k.1,V.zh6 h vs k.2⟩
end
section
variable {P:Program}
def znz(σ τ:St):Prop :=
 ∀W0 g0 H0 W a g,Base W0 g0 H0->(σ.e0=H0.E∧Step W0 g0 H0 W g σ.H)->yze W a g σ->∃g',(τ.e0=H0.E∧Step W0 g0 H0 W g' τ.H)∧yze W a g' τ
def znz.refl(σ):znz σ σ:=λ_ _ _ _ _ g _ b d=>⟨g,b,d⟩
def znz.trans{σ τ υ}(h:znz σ τ)(k:znz τ υ):znz σ υ:=λW0 g0 H0 W a g b d e=>
 let ⟨l,j,i⟩:=h W0 g0 H0 W a g b d e
 k W0 g0 H0 W a l b j i
def yzm.kin(D:Nat->Nat->Prop):yzm->Prop
 |.cells cs=>V.ze2 D cs
 |.arr _ _ _ xs _=>V.ze2 D xs
 |.map es=>∀p∈es,V.kin D p.1∧V.kin D p.2
 |.siter _ _=>True
 |.mit _ _=>True
def yzm.zvi{D d}(h:∀l i,D l i->d l i){o:yzm}(k:o.kin D):o.kin d:=by
 cases o with
 |cells cs=>exact V.zh6 h _ k
 |arr=>exact V.zh6 h _ k
 |map es=>exact λp b=>⟨V.zvi h _ (k p b).1,V.zvi h _ (k p b).2⟩
 |siter=>trivial
 |mit=>trivial
theorem zgm.kin{W g H l i o}(h:zgm W g H l i o):o.kin g.dom:=by
 cases o with
 |cells cs=>
  have⟨c,ty,_,_,_,z⟩:=h
  exact zhd λv d=>by have⟨j,b⟩:=Qbj d;exact(z j v b).kin
 |arr A ty B xs F=>
  have⟨c,_,D,_,_,_,_,C,_,k⟩:=h;refine zhd λx q =>?_
  have⟨j,b⟩:=Qbj q;cases x
  case agg cs=>
   simp[V.kin];exact zhd λv d=>by have⟨t,r⟩:=Qbj d;exact(k j _ t v b r).kin
  all_goals exact(k j _ 0 _ b rfl).kin
 |map es=>
  have⟨E,clock,_,_,_,_,u⟩:=h;intro p s;have⟨j,b⟩:=Qbj s;have⟨e,_,n,m⟩:=u j p b
  exact⟨n.kin,m.kin⟩
 |siter=>trivial
 |mit=>trivial
def zgm.restrict{W g g' H H' D}(E:∀l i,D l i->g.dom l i->g'.dom l i)(e:∀l i,g'.blk l i=g.blk l i)(B:∀l i,g'.ab l i=g.ab l i)(d:∀l i,g'.cap l i=g.cap l i)
  (C:∀l i,D l i->H'.get l i=H.get l i) (m:∀b,Own g' H' b->Own g H b) {l i o} (h:zgm W g H l i o) (k:o.kin D):zgm W g' H' l i o:=by
 have r:∀{v:V}{c:Value},Rel W g H v c->V.kin D v->Rel W g' H' v c:=λh k=>h.restrict E (λl i _=>e l i) (λl i _=>B l i) (λl i _=>d l i) C m k
 cases o with
 |cells cs=>
  have⟨c,ty,z,A,u,q⟩:=h
  exact⟨c,ty,by rw[e];exact z,A,u,λj v n=>r (q j v n) (zco k j v n)⟩
 |arr U ty Y xs cp=>
  have⟨c,z,u,q,G,J,R,O,N,M⟩:=h
  exact⟨c,by rw[B];exact z,u,by rw[d];exact q,by rw[d];exact G,by rw[d];exact J,by rw[d];exact R,O,N,λj x t v n I=>r (M j x t v n I) (zco (zuz (zco k j x n)) t v I)⟩
 |map es=>
  have⟨F,clock,z,A,u,q,J⟩:=h;refine⟨F,clock,by rw[e];exact z,A,u,q,λj p n =>?_⟩;have Z:=k p (Qax n)
  grind
 |siter s X=>exact(show W.heap[g'.blk l i]? = _ by rw[e];exact h)
 |mit es T=>
  have⟨F,clock,K,z,A,u,q⟩:=h;exact⟨F,clock,K,by rw[e];exact z,λL=>A (m _ L),u,q⟩
end
section
variable {P:Program}
def ywb{c σ τ Q}(d:znz σ τ)(h:Sat P c τ Q):Sat P c σ Q:=λW0 g0 H0 W a g b e i=>by
 have⟨g',k,j⟩:=d W0 g0 H0 W a g b e i;exact h W0 g0 H0 W a g' b k j
def resV(P:Program)(σ:St):ResultVar->Option V
 |.tmp t=>some (σ.t.getD t .any)
 |.cell a t=>zej P σ.H t (σ.t.getD a .any)
def y7m(P:Program)(σ:St):List ResultVar->Option (List V)
 |[]=>some []
 |r::rs=>match resV P σ r,y7m P σ rs with
  |some v,some vs=>some (v::vs)
  |_,_=>none
def zbp:List V->V
 |[v]=>v
 |vs=>.tup vs
def z2g(P:Program)(fn:Func)(σ:St):Option V:=(y7m P σ fn.results.toList).map zbp
def z03a{W a g σ}(h:yze W a g σ)(t):Rel W g σ.H (σ.t.getD t .any) (a.tmps.getD t undef):=h.ev (.tmp t)
def resC(a:Act):ResultVar->Sem Value
 |.tmp t=>pure (a.tmps.getD t undef)
 |.cell x t=>do loadVar t (<-asAddr (a.tmps.getD x undef))
def yic{W a g σ}(h:yze W a g σ):∀(rs) (vs),y7m P σ rs=some vs ->
  ∃cs:List Value,(rs.mapM (resC a):Sem (List Value)).run P W = .ok cs W∧cs.length=vs.length∧∀(j:Nat) (v),vs[j]? = some v->∃c,cs[j]? = some c∧Rel W g σ.H v c
 |[],vs,b=>by simp[y7m,Qbn]at b;simp_all
 |r::rs,vs,b=>by
  simp[y7m]at b;split at b;rename_i v i e l;cases b;have⟨cs,p,k,o⟩:=yic h rs i l
  have d:∃c,(resC a r).run P W = .ok c W∧Rel W g σ.H v c:=by
   cases r with
   |tmp t=>
    simp[resV,Qbn]at e;subst e
    exact⟨_,rfl,z03a h t⟩
   |cell x t=>
    simp[resV]at e;have⟨B,u,A,z,s⟩:=yci (P:=P) h.good e (z03a h x)
    grind[resC,asAddr]
  have⟨c,n,m⟩:=d;refine⟨c::cs,?_,by simp[k],λj u q =>?_⟩
  simp_all
  cases j with
  |zero=>grind
  |succ j=>grind
  cases b
def zff{W a g σ fn v}(h:yze W a g σ)(n:z2g P fn σ=some v):∃c,(results fn a.tmps).run P W = .ok c W∧Rel W g σ.H v c:=by
 simp[z2g,Qaf]at n;obtain⟨vs,p,rfl⟩:=n;have⟨cs,q,b,k⟩:=yic h _ _ p
 have e:results fn a.tmps=(fn.results.mapM (resC a) >>= λvs=>pure (if h:vs.size=1 then vs[0]else .tuple vs)):=by
  unfold results
  congr 2
 have d:(fn.results.mapM (resC a):Sem (Array Value)).run P W = .ok cs.toArray W:=by
  grind[Array.mapM_eq_mapM_toList,Sem.run_map,Qbu]
 match vs,b,k with
 |[v],b,k=>
  have⟨c,m,i⟩:=k 0 v rfl
  obtain⟨l,rfl⟩:∃l,cs=[l]:=by match cs,b with|[l],_=>exact⟨l,rfl⟩
  simp[Qbn]at m;subst m
  exact⟨l,by simp_all,i⟩
 |[],b,k=>
  have:=Qao b;subst this
  exact⟨.tuple #[],by rw[e,Qbt,d];rfl,.tup [] _ rfl (by simp)⟩
 |v::w::vs,b,k=>
  refine⟨.tuple cs.toArray,?_,.tup _ _ (by simpa using b) λj u o =>?_⟩;rw[e,Qbt,d,Qbu];have:¬cs.toArray.size=1:=by simp at b ⊢;omega
  simp_all
  have⟨c,m,i⟩:=k j u o
  simp_all
inductive VS (H:Heap) (D:Nat->Nat->Prop):V->V->Prop where
 |keep (v:V) (h:V.kin D v):VS H D v v
 |any (v:V):VS H D v .any
 |nil (sz:Nat) (b:Bool):VS H D .nils (.sl sz [] b)
 |hs (l i ver ty sz off n:Nat) (full:Bool) (xs ys:List V) (cp:Option Nat) (hl:l=H.lv) (hg:H.get l i=some (.arr ver ty sz xs cp)) (hn:ys.length=n)
  (h1:∀(j:Nat) (x y:V),xs[off+j]? = some x->ys[j]? = some y->x.cells.length=y.cells.length) (h2:∀(j:Nat) (x y:V) (t:Nat) (v u:V),xs[off+j]? = some x->ys[j]? = some y->x.cells[t]? = some v->y.cells[t]? = some u->VS H D v u) :
  VS H D (.hs l i ver off n full) (.sl sz ys false)
 |sl (sz:Nat) (xs ys:List V) (b:Bool) (hn:xs.length=ys.length) (h1:∀(j:Nat) (x y:V),xs[j]? = some x->ys[j]? = some y->x.cells.length=y.cells.length)
  (h2:∀(j:Nat) (x y:V) (t:Nat) (v u:V),xs[j]? = some x->ys[j]? = some y->x.cells[t]? = some v->y.cells[t]? = some u->VS H D v u):VS H D (.sl sz xs b) (.sl sz ys false)
 |agg (vs us:List V) (hn:vs.length=us.length) (h:∀(j:Nat) (v u:V),vs[j]? = some v->us[j]? = some u->VS H D v u):VS H D (.agg vs) (.agg us)
 |tup (vs us:List V) (hn:vs.length=us.length) (h:∀(j:Nat) (v u:V),vs[j]? = some v->us[j]? = some u->VS H D v u):VS H D (.tup vs) (.tup us)
def VS.rel{W g g' H H' D}(G:Good W g H)(R:∀l i,D l i->g.dom l i->g'.dom l i)(U:∀l i,D l i->g'.blk l i=g.blk l i)(h5:∀l i,D l i->g'.ab l i=g.ab l i)(T:∀l i,D l i->g'.cap l i=g.cap l i)
  (O:∀l i,D l i->H'.get l i=H.get l i) (C:∀b,Own g' H' b->Own g H b) (N:∀i o,H.get H.lv i=some o->¬Own g' H' (o.blk g H.lv i)) {v u} (h:VS H D v u):∀{c},Rel W g H v c->Rel W g' H' u c:=by
 induction h with
 |keep v hk=>intro c r;exact r.restrict R U h5 T O C hk
 |any v=>exact λ_=>.any _
 |nil A b=>intro c r;cases r;exact .slnil _ _
 |hs l i h8 ty A p n full xs E cp Z hg F J h2 I=>
  intro c r;subst Z
  cases r with
  |hs _ _ _ _ _ _ a m z hd hv ha=>
   obtain⟨rfl,rfl,⟨h7,h6,hp⟩,hi⟩:=ha _ _ _ _ hg;have⟨B,k1,k2,k3,h9,k4,k5,X⟩:=y84 G hg
   have get:∀j y,E[j]? = some y->∃x,xs[p+j]? = some x∧j<m:=λj y d=>by
    grind
   have cells:∀(j:Nat) (y:V) (t:Nat) (u:V),E[j]? = some y->y.cells[t]? = some u->∃x v,xs[p+j]? = some x∧x.cells[t]? = some v∧VS H D v u∧Rel W g' H' u (B.getD ((p+j) * A+t) undef)∧(B.getD ((p+j) * A+t) undef).oneCell'=true∧(p+j) * A+t<B.size:=λj y t u d k=>by
    have⟨x,q,hm⟩:=get j y d;have Z:=J j x y q d;have he:=X.1 _ _ q;have h3:=(Qaa.1 k).1;have s:x.cells[t]? = some (x.cells[t]'(by omega)):=Qab _;refine⟨x,_,q,s,h2 j x y t _ u q d s k,I j x y t _ u q d s k (X.2.2 _ _ _ _ q s),X.2.1 _ _ _ _ q s,?_⟩;rw[k3];exact ybd (by omega) (by omega)
   rw[<-F];refine .sl A E false (g.ab H.lv i) (p * A) z (λj t=>B.getD ((p+j) * A+t) undef) (λho=>N i _ hg ho) k2 (by omega) (by simp) (λj y d =>?_) (λj y t u d k =>?_) (λj y t u d k =>?_) (λj y t u d k =>?_);have⟨x,q,_⟩:=get j y d;rw[<-J j x y q d];exact X.1 _ _ q;have⟨x,v,_,_,_,_,_,e⟩:=cells j y t u d k;have:=cell_of k1 e
   grind
   have⟨x,v,_,_,_,_,e,_⟩:=cells j y t u d k;exact e
   have⟨x,v,_,_,_,e,_,_⟩:=cells j y t u d k;exact e
 |sl A xs E b F J h2 I=>
  intro c r
  have get:∀j y,E[j]? = some y->∃x,xs[j]? = some x:=λj y d=>by
   have:=(Qaa.1 d).1;exact⟨_,Qab (by omega)⟩
  cases r with
  |slnil=>have:=Qao (by simpa using F.symm);subst this;exact .slnil _ _
  |sle _ _ a z hf=>have:=Qao (by simpa using F.symm);subst this;exact .sle _ _ a z (by simp)
  |sl _ _ _ bl o z c hb hz M hf hs r h4 Y=>
   have cells:∀(j:Nat) (y:V) (t:Nat) (u:V),E[j]? = some y->y.cells[t]? = some u->∃x v,xs[j]? = some x∧x.cells[t]? = some v:=λj y t u d k=>by
    have⟨x,q⟩:=get j y d;have Z:=J j x y q d;have h3:=(Qaa.1 k).1
    simp_all
   rw[F]at M ⊢;refine .sl A E false bl o z c (λh=>hb (C bl h)) hz M (by simp) (λj y d =>?_) (λj y t u d k =>?_) (λj y t u d k =>?_) (λj y t u d k =>?_)
   grind
   have⟨x,v,L,K⟩:=cells j y t u d k;grind;have⟨x,v,L,K⟩:=cells j y t u d k;exact h4 _ _ _ _ L K
   have⟨x,v,L,K⟩:=cells j y t u d k;exact I j x y t v u L d K k (Y _ _ _ _ L K)
 |agg vs us F h I=>
  intro c r
  cases r with
  |agg _ cs hs J Y=>
   have get:∀j u,us[j]? = some u->∃v,vs[j]? = some v:=λj u d=>by
    have:=(Qaa.1 d).1;exact⟨_,Qab (by omega)⟩
   refine .agg _ cs (by omega) (λj u d =>?_) (λj u d =>?_)
   grind
   grind
 |tup vs us F h I=>
  intro c r
  cases r with
  |tup _ cs hs Y=>
   refine .tup _ cs (by omega) (λj u d =>?_);have hh:=(Qaa.1 d).1;have hv:vs[j]? = some (vs[j]'(by omega)):=Qab _
   grind
def outer(lv:Nat)(l _i:Nat):Prop:=l<=lv
structure Back(H H':Heap)(σ:St)(v r:V):Prop where
 res:VS σ.H (outer H.lv) v r
 get:∀l i,l<=H.lv->H'.get l i=σ.H.E l i
 lv:H'.lv=H.lv
 len:H'.L.length=H.L.length
 same:∀l i o,l<=H.lv->σ.H.E l i=some o->H.get l i=some o∨o.kin (outer H.lv)
 high:∀l i,H.lv<l->H'.E l i=H.E l i
def Fin(P:Program)(fn:Func)(H H':Heap)(r:V)(e:z27)(σ:St):Prop :=
 match e with
 |.normal| .ret=>∃v,z2g P fn σ=some v∧σ.d=[]∧Back H H' σ v r
 |_=>False
def y69{W g H}(h:Good W g H):Good W g ⟨H.lv+1,[],H.get⟩∧(∀l i,Heap.get ⟨H.lv+1,[],H.get⟩ l i=H.get l i)∧∀{v c},Rel W g H v c->Rel W g ⟨H.lv+1,[],H.get⟩ v c:=by
 have d:∀l i,Heap.get ⟨H.lv+1,[],H.get⟩ l i=H.get l i:=λl i=>by
  show(if l=H.lv+1 then _ else _)=_;split;rename_i u;subst u
  cases s:H.get (H.lv+1) i with
  |none=>simp
  |some o=>rcases h.fresh _ _ (h.dom _ _ _ s)with q|⟨q,_⟩ <;> omega
  rfl
 have e:∀b,Own g ⟨H.lv+1,[],H.get⟩ b->Own g H b:=λb ⟨l,i,o,j,m⟩=>⟨l,i,o,by grind,m⟩
 have k:∀{v:V}{c:Value},Rel W g H v c->Rel W g ⟨H.lv+1,[],H.get⟩ v c:=λn=>
  Rel.restrict (D:=g.dom) (g':=g) (λ_ _ _ h=>h) (λ_ _ _=>rfl) (λ_ _ _=>rfl) (λ_ _ _=>rfl) (λl i _=>d l i) e n n.kin
 refine⟨⟨λl i o j=>h.dom l i o (by grind),λl i o j=>h.lt l i o (by grind),λl i o p r o' B A m=>h.inj l i o p r o' (by grind) (by grind) m,λl i z =>?_,λl i o j =>?_,h.zqr.ycl e,h.base⟩,d,k⟩;left;show l<H.lv+1
 rcases h.fresh l i z with q|⟨q,_⟩ <;> omega
 rw[d]at j;exact zgm.restrict (D:=g.dom) (g':=g) (λ_ _ _ h=>h) (λ_ _=>rfl) (λ_ _=>rfl) (λ_ _=>rfl) (λl i _=>d l i) e (h.obj l i o j) (h.obj l i o j).kin
def yhz{W W' g F H H' σ v r c}(L:Good W g H)(h5:σ.H.lv=H.lv+1)(d:Step W g ⟨H.lv+1,[],H.get⟩ W' F σ.H)(j:Good W' F σ.H)(B:Back H H' σ v r)(Z:Rel W' F σ.H v c) :
  ∃A,Step W g H W' A H'∧Good W' A H'∧Rel W' A H' r c:=by
 have⟨h7,h6,h4⟩:=y69 L
 let A:={F with dom:=g.dom}
 have C:∀l i (o:yzm),o.blk A l i=o.blk F l i:=λl i o=>by cases o <;> rfl
 have J:∀l i,g.dom l i->l<=H.lv:=λl i h=>by rcases L.fresh l i h with q|⟨q,_⟩ <;> omega
 have u:∀l i,l<=H.lv->H'.get l i=σ.H.get l i:=λl i p=>by
  rw[B.get l i p];unfold Heap.get
  grind
 have k:∀l i o,H'.get l i=some o->l<=H.lv:=λl i o e=>by
  rcases Nat.lt_or_ge H.lv l with q|q
  unfold Heap.get at e;rw[Qbr (by rw[B.lv];omega),B.high l i q]at e;have:H.get l i=some o:=by unfold Heap.get;grind
  exact J l i (L.dom l i o this);exact q
 have z:∀l i,l<=H.lv->F.dom l i->g.dom l i:=λl i p s=>by
  rcases d.new l i s with q|q
  exact q
  grind
 have n:∀b,Own A H' b->Own F σ.H b:=λb ⟨l,i,o,e,m⟩=>⟨l,i,o,by grind,by grind⟩
 have M:∀i o,σ.H.get σ.H.lv i=some o->¬Own A H' (o.blk F σ.H.lv i):=λi o e ⟨l,R,o',I,m⟩=>by
  have p:=k l R o' I;rw[u l R p]at I;rw[C]at m;have:=(j.inj _ _ _ _ _ _ I e m).1;omega
 have N:∀l i o,H'.get l i=some o->o.kin (outer H.lv):=λl i o e=>by
  have p:=k l i o e;have hE:σ.H.E l i=some o:=by rw[<-B.get l i p];exact e
  rcases B.same l i o p hE with q|q
  exact yzm.zvi (λl i h=>J l i h) (L.obj l i o q).kin;exact q
 have O:=λl i o e=>by
  have p:=k l i o e;have:=j.obj l i o (by grind);exact zgm.restrict (D:=outer H.lv) (g':=A) (λl i G s=>z l i G s) (λ_ _=>rfl) (λ_ _=>rfl) (λ_ _=>rfl) (λl i G=>u l i G) n this (N l i o e)
 refine⟨A,⟨d.os,d.tape,d.output,d.size,λb K hn=>d.block b K (λ⟨l,i,o,e,m⟩=>hn ⟨l,i,o,by grind,m⟩),λb K =>?_,λ_ _ h=>h,λ_ _ h=>.inl h,λl i s=>d.blk l i s,λl i U ty X xs cp s hg =>?_,B.lv,d.base⟩,⟨λl i o e =>?_,λl i o e =>?_,λl i o Y R o' h1 h2 T =>?_,λl i s =>?_,O,j.zqr.ycl n,j.base⟩,?_⟩
 rcases d.own b (n b K)with ⟨l,i,o,e,m⟩|q
 exact .inl ⟨l,i,o,by grind,m⟩;exact .inr q;have p:=J l i s;have⟨v',ys,h8,h1,h2,T⟩:=d.arr l i U ty X xs cp s (by grind)
 grind
 have p:=k l i o e;exact z l i p (j.dom l i o (by grind));have p:=k l i o e;rw[C];exact j.lt l i o (by grind);rw[C,C]at T;exact j.inj l i o Y R o' (by grind) (by grind) T;rw[B.lv,B.len];exact L.fresh l i s;exact VS.rel (g':=A) j (λl i G s=>z l i G s) (λ_ _ _=>rfl) (λ_ _ _=>rfl) (λ_ _ _=>rfl) (λl i G=>u l i G) n M B.res Z
def ynp{f:Nat}{fn c n}(R:P.funcs[f]? = some fn)(T:fn.body=some c)(C:fn.ntmps=n)(s:∀args w,(callFunc f args).run P w = .ok (.enter f args) w){args H H' r}
  (h:Sat P c ⟨args++List.replicate (n-args.length) .any,⟨H.lv+1,[],H.get⟩,[],H.get⟩ (Fin P fn H H' r)):y4u P f args H r H':=by
 intro W g b G A;subst C;refine .inl ⟨s b W,calls_of_wp R T ?_⟩;have⟨p,X,B⟩:=y69 G;have q:Step W g ⟨H.lv+1,[],H.get⟩ W g ⟨H.lv+1,[],H.get⟩:=.refl _ _ _
 have E:yze W {tmps:=b++Array.replicate (fn.ntmps-b.size) undef,defers:=[]} g ⟨args++List.replicate (fn.ntmps-args.length) .any,⟨H.lv+1,[],H.get⟩,[],H.get⟩:=by
  refine⟨p,by simp[A.1],λj v i =>?_,rfl,by simp⟩;rw[Qaz]at i;split at i;rename_i D;rw[z3j (by rw[A.1];exact D)];exact B (A.2 j v i);rw[Qbi]at i;split at i;cases i;exact .any _;cases i
 refine wp_mono (h W g ⟨H.lv+1,[],H.get⟩ W _ g ⟨p⟩ ⟨rfl,q⟩ E).wp λe a W' ⟨Z,σ,e',M,F,z,u⟩ =>?_
 have o:∀v,z2g P fn σ=some v->σ.d=[]->Back H H' σ v r->a.defers=[]∧∃c,(results fn a.tmps).run P W' = .ok c W'∧∃I g',Ending.returned c = .returned I∧Step W g H W' g' H'∧Good W' g' H'∧Rel W' g' H' r I:=λv m l k=>by
  have⟨c,O,N⟩:=zff z m;have⟨U,L,K,J⟩:=yhz G F.2.lv F.2 z.good k N;refine⟨Qao (by rw[z.dlen,l];rfl),c,O,c,U,rfl,L,K,J⟩
 cases M with
 |normal=>have⟨v,m,l,k⟩:=u;exact o v m l k
 |ret=>have⟨v,m,l,k⟩:=u;exact o v m l k
 |exit id=>exact u.elim
 |panic v c Y=>exact u.elim
def wrI{x}(d : -9223372036854775808<=x)(b:x<=9223372036854775807):IntKind.i64.wrap x=x:=by
 exact IntWalk.i64_in _ (by omega)
def wr1{k:Nat}(h:k<=4611686018427387904):IntKind.i64.wrap ((k:Int)+1)=(k:Int)+1:=wrI (by omega) (by omega)
def zrw(P:Program)(f:Nat)(args:List V)(r:V):Prop:=∀H,y4u P f args H r H
def yan{H σ v r}(b:σ.H.E=H.get)(h:VS σ.H (outer H.lv) v r):Back H H σ v r :=
 ⟨h,λl i _=>by rw[b],rfl,rfl,λl i o _ d=>.inl (by simp_all),λ_ _ _=>rfl⟩
def Ends(P:Program)(fn:Func)(lv:Nat)(E:Nat->Nat->Option yzm)(r:V)(e:z27)(σ:St):Prop :=
 match e with
 |.normal| .ret=>∃v,z2g P fn σ=some v∧σ.d=[]∧σ.H.E=E∧VS σ.H (outer lv) v r
 |_=>False
def z094{f:Nat}{fn c n}(o:P.funcs[f]? = some fn)(p:fn.body=some c)(m:fn.ntmps=n)(b:∀args w,(callFunc f args).run P w = .ok (.enter f args) w){args r}
  (h:∀lv E,Sat P c ⟨args++List.replicate (n-args.length) .any,⟨lv+1,[],E⟩,[],E⟩ (Ends P fn lv E r)):zrw P f args r:=λH=>
 ynp o p m b ((h H.lv H.get).mono λe σ d=>by
  cases e with
  |normal=>have⟨v,l,k,j,i⟩:=d;exact⟨v,l,k,yan j i⟩
  |ret=>have⟨v,l,k,j,i⟩:=d;exact⟨v,l,k,yan j i⟩
  |exit id=>exact d
  |panic v=>exact d)
def ends{fn lv E σ v r}(b:z2g P fn σ=some v)(e:σ.d=[])(i:σ.H.E=E)(h:VS σ.H (outer lv) v r):Ends P fn lv E r .ret σ:=⟨v,b,e,i,h⟩
end
section
variable {P:Program}{ops:Array Oper}{md:Region.Mode}
def yva{H ρ ρ' o}(h:∀x∈o.operands,ρ x=ρ' x):pv P H ρ o=pv P H ρ' o:=by
 cases o
 case move x=>grind[pv,Op.operands]
 case assign x=>grind[pv,Op.operands]
 case pick c a b=>grind[pv,Op.operands]
 case load t a=>grind[pv,Op.operands]
 case nilCheck x=>grind[pv,Op.operands]
 case binOp op t x y u=>grind[pv,Op.operands]
 case unOp op t x=>grind[pv,Op.operands]
 case convert s d x=>grind[pv,Op.operands]
 case makeInterface t x=>grind[pv,Op.operands]
 case makeFunc fn first j=>
  cases fn <;> try rfl
  grind[pv,List.map_congr_left,Op.operands]
 case slice t x lo hi e=>
  simp[pv]
  have q:lo.map ρ=lo.map ρ':=by
   cases lo with
   |none=>rfl
   |some y=>grind[Op.operands]
  have p:hi.map ρ=hi.map ρ':=by
   cases hi with
   |none=>rfl
   |some y=>grind[Op.operands]
  have m:e.map ρ=e.map ρ':=by
   cases e with
   |none=>rfl
   |some y=>grind[Op.operands]
  grind[Op.operands]
 case fieldAddr s x f=>grind[pv,Op.operands]
 case field s x f=>grind[pv,Op.operands]
 case indexAddr t x i=>grind[pv,Op.operands]
 case index t x i=>grind[pv,Op.operands]
 case lookup t x k ok=>grind[pv,Op.operands]
 case typeAssert x t u ok=>grind[pv,Op.operands]
 case extract x i=>grind[pv,Op.operands]
 case build t l=>
  grind[pv,partsOf,List.map_congr_left,Op.operands]
 case buildSlice t len l=>
  grind[pv,partsOf,List.map_congr_left,Op.operands]
 case makeSlice t n c=>grind[pv,Op.operands]
 case call c=>
  grind[pv,zf9,List.map_congr_left,Op.operands,Call.operands]
 all_goals rfl
def zo1{ρ ρ' c}(h:∀x∈c.operands,ρ x=ρ' x):target ρ c=target ρ' c:=by
 unfold target
 grind[List.map_congr_left,Call.operands]
def z097{σ:St}{b:Option Nat}{v x}(h:∀d,b=some d->x ≠ .tmp d):(σ.put b v).ev x=σ.ev x:=by
 cases b with
 |none=>rfl
 |some d=>
  cases x with
  |tmp t=>
   simp[St.put,St.ev];have:d≠t:=λe=>h d rfl (by rw[e])
   simp_all
  |const v=>rfl
  |global g=>rfl
  |func f=>rfl
def z08o{σ:St}{b v}:(σ.put b v).H=σ.H:=by cases b <;> rfl
def z0ff{σ:St}{b v}:(σ.put b v).e0=σ.e0:=by cases b <;> rfl
theorem put_comm{σ:St}{x y}(v u)(h:∀d,x=some d->y≠some d):(σ.put x v).put y u=(σ.put y u).put x v:=by
 cases x with
 |none=>cases y <;> rfl
 |some d=>
  cases y with
  |none=>rfl
  |some e=>
   grind[St.put,List.set_comm]
def zgq{o:Oper}{d:Nat}(h:d∉o.looksAt ops):∀x∈o.op.operands,x ≠ .tmp d:=λx b e=>h (by
 subst e;unfold Oper.looksAt;simp[List.mem_filterMap]
 exact .inl ⟨.tmp d,by simpa using b,rfl⟩)
def ydc{σ o b v}(h:∀d,b=some d->d∉o.looksAt ops):z0r ops (σ.put b v) o=z0r ops σ o:=by
 unfold z0r;split;rfl;split;rename_i i k
 cases b with
 |none=>rfl
 |some d=>
  have j:d≠i:=λe=>h d rfl (by
   grind[Oper.looksAt])
  simp_all[St.put]
 rfl
def QV(P:Program)(σ:St)(o:Oper)(v:V):Prop :=
 pv P σ.H σ.ev o.op=some v∨∃c f args,o.op = .call c∧target σ.ev c=some (f,args)∧y4u P f args σ.H v σ.H
def QY(P:Program)(ops:Array Oper)(σ:St)(o:Oper)(v:V):Prop :=
 (z0r ops σ o=some true∧QV P σ o v)∨(z0r ops σ o=some false∧v = .tup [])
theorem z0fa{σ o}{b:Option Nat}{u v}(h:∀d,b=some d->d∉o.looksAt ops):QY P ops (σ.put b u) o v↔QY P ops σ o v:=by
 have j:∀x∈o.op.operands,(σ.put b u).ev x=σ.ev x:=λx i=>z097 λd m=>zgq (h d m) x i
 unfold QY QV;rw[ydc h,yva j,z08o];constructor
 rintro (⟨h1,e|⟨c,f,args,e,l,k⟩⟩|h1)
 grind
 exact .inl ⟨h1,.inr ⟨c,f,args,e,by rw[<-zo1 (ρ:=(σ.put b u).ev) (λx i=>j x (by rw[e];exact i))];exact l,k⟩⟩;exact .inr h1
 rintro (⟨h1,e|⟨c,f,args,e,l,k⟩⟩|h1)
 grind
 exact .inl ⟨h1,.inr ⟨c,f,args,e,by rw[zo1 (ρ':=σ.ev) (λx i=>j x (by rw[e];exact i))];exact l,k⟩⟩;exact .inr h1
def qA(P:Program)(ops:Array Oper)(i:Nat)(K:St->Prop)(σ:St):Prop :=
 match ops[i]? with
 |none=>K σ
 |some o=>∃v,QY P ops σ o v∧K (σ.put o.dst v)
def z037{i σ K b}(h:∀σ,K σ->b σ)(d:qA P ops i K σ):qA P ops i b σ:=by
 grind[qA]
theorem QY.qA{i o v σ}(hi:ops[i]? = some o)(b:QY P ops σ o v){K}(h:K (σ.put o.dst v)):qA P ops i K σ:=by
 grind[Ab.qA]
def z09j{j b e v}(i:ops[j]? = some e)(d:b.apart ops e=true){K σ}(k:QY P ops σ b v)(h:qA P ops j K (σ.put b.dst v)) :
  qA P ops j (λσ'=>QY P ops σ' b v∧K (σ'.put b.dst v)) σ:=by
 have⟨n,m,l⟩:=Oper.apart_spec d;unfold qA at *;simp[i]at *
 grind[z0fa,put_comm]
def ykb{W0 g0 H0 i σ K q Q'}
  (M:∀W a g σ,K σ->(σ.e0=H0.E∧Step W0 g0 H0 W g σ.H)->yze W a g σ->q a W) {W a g} (m:qA P ops i K σ) (C:σ.e0=H0.E∧Step W0 g0 H0 W g σ.H) (d:yze W a g σ):wpOp P ops Q' i q a W:=by
 unfold qA at m;unfold wpOp;split
 grind
 ·rename_i o L;simp[L]at m;have⟨v,I,u⟩:=m
  have h:∀c W' g',Step W g σ.H W' g' σ.H->Good W' g' σ.H->Rel W' g' σ.H v c->q (a.put o.dst c) W':=λc W' g' s1 B A=>
   M W' _ g' _ u (by rw[z08o,z0ff];exact⟨C.1,C.2.trans s1⟩) (d.next s1 B A o.dst)
  rcases I with ⟨k,l⟩|⟨k,rfl⟩
  rw[z1u d k,Qbq rfl];left;unfold Oper.wp
  rcases l with l|⟨c,f,args,s,J,z⟩
  have⟨c,W',O,D,N⟩:=y8p (P:=P) d.good (r:=a.eval) d.ev l;rw[O];exact h c W' g D.step (d.good.grow D) N;have⟨b,G,F⟩:=zh5 (P:=P) (ty:=o.type) d.ev J
  have j:(execOp a.eval o).run P W=(callFunc f b).run P W:=by
   rw[<-F W];unfold execOp;rw[s]
  rcases z W g b d.good G with ⟨p,n⟩|⟨c,W',g',p,n,T,R⟩
  rw[j,p];refine n.mono λe W' ⟨c,g',U,s1,B,A⟩ =>?_
  grind
  rw[j,p];exact h c W' g' n T R;rw[z1u d k,Qbr (by simp)];have:=h undef W g (.refl _ _ _) d.good (.tup [] #[] rfl (by simp));exact this
def AQ(P:Program)(md:Region.Mode)(ops:Array Oper)(R:St->Prop):Nat->Array Bool->St->Prop
 |0,listed,σ=>Region.ready md ops listed=[]∧R σ
 |fuel+1,listed,σ=>(Region.ready md ops listed=[]->R σ)∧∀i∈Region.ready md ops listed,qA P ops i (AQ P md ops R fuel (listed.setIfInBounds i true)) σ
def yd4{W0 g0 H0 R Q'}(e:∀W a g σ,R σ->(σ.e0=H0.E∧Step W0 g0 H0 W g σ.H)->yze W a g σ->Q' .normal a W) :
  ∀(fuel) (listed) (σ) (W) (a) (g),AQ P md ops R fuel listed σ->(σ.e0=H0.E∧Step W0 g0 H0 W g σ.H)->yze W a g σ->wpAny P md ops Q' fuel listed a W
 |0,_,σ,W,a,g,h,b,d=>⟨h.1,e W a g σ h.2 b d⟩
 |fuel+1,listed,σ,W,a,g,h,b,d=>⟨λk=>e W a g σ (h.1 k) b d,λi hi=>ykb (λW a g σ' j b d=>yd4 e fuel _ σ' W a g j b d) (h.2 i hi) b d⟩
def z07t{R i p v}(hi:ops[i]? = some p) :
  ∀(fuel) (listed) (σ),
   (∀j o,ops[j]? = some o->j≠i->listed.getD j true=false->(∀e∈o.after,Region.binds md e=true->e.on≠i)->p.apart ops o=true) ->
   i∈Region.ready md ops listed->QY P ops σ p v->AQ P md ops R fuel (listed.setIfInBounds i true) (σ.put p.dst v)->AQ P md ops R (fuel+1) listed σ:=by
 intro fuel
 induction fuel with
 |zero=>
  intro listed σ _ A u H;refine⟨λh=>(by grind),λj z =>?_⟩;by_cases b:j=i;subst b;exact u.qA hi H;have:=ready_mono z b;rw[H.1]at this
  cases this
 |succ fuel E=>
  intro listed σ d A u H;refine⟨λh=>(by grind),λj z =>?_⟩;by_cases b:j=i;subst b;exact u.qA hi H;have J:=H.2 j (ready_mono z b);have⟨m,o,q,D⟩:=mem_ready.1 z;have n:=(mem_ready.1 A).1
  have s:∀e∈o.after,Region.binds md e=true->e.on≠i:=λe L M K=>by
   grind
  have I:=z09j q (d j o q b m s) u J
  have l:∀k ok,ops[k]? = some ok->k≠i->(listed.setIfInBounds j true).getD k true=false ->
    (∀e∈ok.after,Region.binds md e=true->e.on≠i)->p.apart ops ok=true:=λk ok F C n B=>by
   refine d k ok F C ?_ B;by_cases r:j=k;subst r;exact m;rw[getD_set_ne true r]at n;exact n
  refine z037 (λσ' G=>E (listed.setIfInBounds j true) σ' l (ready_mono A (Ne.symm b)) G.1 ?_) I
  grind[Array.setIfInBounds_comm]
def zqn(P:Program)(ops:Array Oper):List Oper->List V->St->Option (St×List V×List Claim)
 |[],d,σ=>some (σ,d,[])
 |o::rest,d,σ=>
  match z0r ops σ o with
  |none=>none
  |some b=>if b then
    (match pv P σ.H σ.ev o.op with
    |some v=>zqn P ops rest d (σ.put o.dst v)
    |none=>match o.op with
     |.call c=>match target σ.ev c,d with
      |some (f,args),r::e=>match zqn P ops rest e (σ.put o.dst r)with
       |some (σ',l,cl)=>some (σ',l,⟨f,args,σ.H,r,σ.H⟩::cl)
       |none=>none
      |_,_=>none
     |_=>none)
   else zqn P ops rest d (σ.put o.dst (.tup []))
def ypi{o rest e l σ σ' cl}(h:zqn P ops (o::rest) e σ=some (σ',l,cl))(k:∀c∈cl,c.ok P) :
  ∃v d i,QY P ops σ o v∧zqn P ops rest d (σ.put o.dst v)=some (σ',l,i)∧∀c∈i,c.ok P:=by
 simp[zqn]at h;split at h;cases h;rename_i b m;split at h;rename_i n;subst n;split at h;rename_i v u;exact⟨v,e,cl,.inl ⟨m,.inl u⟩,h,k⟩;split at h;rename_i c p;split at h;rename_i f args r d z;split at h;rename_i A B s j;simp[Qbs]at h;obtain⟨rfl,rfl,rfl⟩:=h;exact⟨r,d,s,.inl ⟨m,.inr ⟨c,f,args,p,z,k _ (.head _)⟩⟩,j,λc q=>k c (.tail _ q)⟩;cases h;cases h;cases h
 rename_i n;have:=by simpa using n
 subst this;exact⟨(.tup []),e,cl,.inr ⟨m,rfl⟩,h,k⟩
def z07d{R}:∀(l) (k) (listed) (σ σ') (b rest) (cl),(∀j,l[j]? = ops[k+j]?) ->
  Region.lexFrom md ops l.length k listed=true->zqn P ops l b σ=some (σ',rest,cl)->(∀c∈cl,c.ok P)->R σ'->AQ P md ops R l.length listed σ
 |[],_,_,σ,σ',b,rest,cl,_,i,h,_,m=>by
  obtain⟨rfl,_,_⟩:=h
  exact⟨by simpa[Region.lexFrom]using i,m⟩
 |o::l,k,listed,σ,σ',b,rest,cl,r,i,h,B,m=>by
  have s:=by simpa using(r 0).symm
  simp[Region.lexFrom,Qag]at i;have⟨⟨z,A⟩,p⟩:=i;have⟨v,e,q,u,d,n⟩:=ypi h B
  exact z07t s l.length listed σ (Region.free_spec s A) (by simpa using z) u
   (z07d l (k+1) _ _ σ' e rest q (λj=>by have:=r (j+1);grind) p d n m)
def yze.drawn{W a g σ}(h:yze W a g σ)(n):yze {W with drawn:=n} a g σ :=
 have s:=(Grow.drawn W n).step (g:=g) (H:=σ.H)
 ⟨h.good.grow (Grow.drawn W n),h.size,λj v b=>(h.tmps j v b).mono s,h.dlen,λj f vs b=>(h.defs j f vs b).mono h.good s⟩
def z07x{id σ σ' Q}(m:P.follows .mixedOrders=true)(k:Region.lexB .any ops=true)(b){rest cl}(h:zqn P ops ops.toList b σ=some (σ',rest,cl))(n:∀c∈cl,c.ok P)(o:Q .normal σ') :
  Sat P (.region id ops true) σ Q:=λW0 g0 H0 W a g _ d e=>by
 simp[Region.lexB,Qag]at k;refine zjz y0q m ?_;have j:=e.drawn (W.drawn+1);have i:σ.e0=H0.E∧Step W0 g0 H0 {W with drawn:=W.drawn+1} g σ.H:=⟨d.1,d.2.trans (Grow.drawn W _).step⟩;have:=z07d (P:=P) (md:=.any) (R:=λτ=>τ=σ') ops.toList 0 (Array.replicate ops.size false) σ σ' b rest cl (by simp) (by simpa using k.2) h n rfl
 exact yd4 (Q':=ylf W0 g0 H0 Q) (λW a g τ l d e=>by subst l;exact⟨g,_,.normal,.normal,d,e,o⟩) _ _ σ _ a g this i j
def ALt(P:Program)(md:Region.Mode)(ops:Array Oper)(n:Nat)(L:Array Bool->St->Prop):Nat->Array Bool->St->Prop
 |0,listed,σ=>L listed σ
 |f+1,listed,σ=>Region.ready md ops listed≠[]∧∀i∈Region.ready md ops listed,i<n∧qA P ops i (ALt P md ops n L f (listed.setIfInBounds i true)) σ
def zwe{W0 g0 H0 n k L Q'}
  (e:∀listed W a g σ,L listed σ->(σ.e0=H0.E∧Step W0 g0 H0 W g σ.H)->yze W a g σ->wpAny P md ops Q' k listed a W) :
  ∀(f) (listed) (σ) (W) (a) (g),ALt P md ops n L f listed σ->(σ.e0=H0.E∧Step W0 g0 H0 W g σ.H)->yze W a g σ->wpAny P md ops Q' (f+k) listed a W
 |0,listed,σ,W,a,g,h,b,d=>by rw[Nat.zero_add];exact e _ _ _ g σ h b d
 |f+1,listed,σ,W,a,g,h,b,d=>by
  rw[show f+1+k=(f+k)+1 by omega];exact⟨λl=>absurd l h.1,λi hi=>ykb (λW a g σ' j b d=>zwe e f _ σ' W a g j b d) (h.2 i hi).2 b d⟩
def z05n{n i z v L}(hi:ops[i]? = some z)
  (J:Region.sinkB md ops n=true) (M:Region.chainB md ops n=true) (K:n<ops.size) (C:i<n)
  (s:∀listed σ,L listed σ->∀j∈Region.ready md ops listed,n<=j) :
  ∀(f) (listed) (σ),HeadInv md ops n listed ->
   (∀j u,ops[j]? = some u->j≠i->listed.getD j true=false->(∀e∈u.after,Region.binds md e=true->e.on≠i)->z.apart ops u=true) ->
   i∈Region.ready md ops listed->QY P ops σ z v->ALt P md ops n L f (listed.setIfInBounds i true) (σ.put z.dst v)->ALt P md ops n L (f+1) listed σ:=by
 intro f
 induction f with
 |zero=>
  intro listed σ m _ F E H;have d:=(mem_ready.1 F).1;refine⟨λh=>(by grind),λj r =>?_⟩
  have o:j<n:=by
   rcases Nat.lt_or_ge j n with h|h
   exact h;exact absurd r (tail_waits J M K m _ i rfl C d j h)
  refine⟨o,?_⟩;by_cases b:j=i;subst b;exact E.qA hi H;have:=s _ _ H j (ready_mono r b)
  omega
 |succ f O=>
  intro listed σ m l F E H;have d:=(mem_ready.1 F).1;refine⟨λh=>(by grind),λj r =>?_⟩
  have o:j<n:=by
   rcases Nat.lt_or_ge j n with h|h
   exact h;exact absurd r (tail_waits J M K m _ i rfl C d j h)
  refine⟨o,?_⟩;by_cases b:j=i;subst b;exact E.qA hi H;have X:=(H.2 j (ready_mono r b)).2;have⟨q,u,A,N⟩:=mem_ready.1 r
  have D:∀e∈u.after,Region.binds md e=true->e.on≠i:=λe Z hb Y=>by
   grind
  have U:=z09j A (l j u A b q D) E X
  have p:∀k ok,ops[k]? = some ok->k≠i->(listed.setIfInBounds j true).getD k true=false ->
    (∀e∈ok.after,Region.binds md e=true->e.on≠i)->z.apart ops ok=true:=λk ok R I d G=>by
   refine l k ok R I ?_ G;by_cases B:j=k;subst B;exact q;rw[getD_set_ne true B]at d;exact d
  refine z037 (λσ' T=>O (listed.setIfInBounds j true) σ' (m.set r o) p (ready_mono F (Ne.symm b)) T.1 ?_) U
  grind[Array.setIfInBounds_comm]
def yqm{n k0}{R:St->Prop}(C:Region.sinkB md ops n=true)(G:Region.chainB md ops n=true)(D:n<ops.size) :
  ∀(l) (k) (listed) (σ σ') (d rest) (cl),(∀j,j<l.length->l[j]? = ops[k+j]?)->k+l.length=n->HeadInv md ops n listed ->
  Region.lexHead md ops k0 l.length k listed=true->zqn P ops l d σ=some (σ',rest,cl)->(∀c∈cl,c.ok P)->R σ' ->
  ALt P md ops n (λb τ=>Region.seqB md ops k0 n b=true∧R τ) l.length listed σ
 |[],k,listed,σ,σ',d,rest,cl,_,F,_,r,h,_,s=>by
  have:=by simpa using F
  subst this;obtain⟨rfl,_,_⟩:=h
  exact⟨by simpa[Region.lexHead]using r,s⟩
 |o::l,k,listed,σ,σ',d,rest,cl,E,F,e,r,h,u,s=>by
  have I:=by simpa using(E 0 (by simp)).symm
  simp[Region.lexHead,Qag]at r;have⟨⟨K,L⟩,A⟩:=r;have m:k<n:=by grind
  have i:=by simpa using K
  have⟨v,q,B,J,p,z⟩:=ypi h u
  exact z05n I C G D m (λb τ M=>seqB_ready M.1) l.length listed σ e (Region.free_spec I L) i J
   (yqm C G D l (k+1) _ _ σ' q rest B (λj N=>by have:=E (j+1) (by simp;omega);grind) (by grind) (e.set i m) A p z s)
theorem ztj{Q'}:∀(m k) (listed) (a) (w),k+m=ops.size ->
  Region.seqB md ops m k listed=true->wpOps P ops Q' (List.range' k m) a w->wpAny P md ops Q' m listed a w
 |0,_,_,_,_,_,b,h=>⟨by simpa[Region.seqB]using b,h⟩
 |m+1,k,listed,a,w,o,b,h=>by
  simp[Region.seqB,Qar]at b;refine⟨λp=>(by grind),λi hi =>?_⟩;rw[b.1]at hi;have d:=by simpa using hi
  subst d;simp[List.range'_succ]at h
  have j:wpOp P ops Q' i (wpOps P ops Q' (List.range' (i+1) m)) a w:=by
   grind[wpOp,wpOps]
  exact wpOp_mono (λn e l=>ztj m (i+1) _ n e (by omega) b.2 l) j
def z0bh{id σ τ σ' Q}(n)(J:P.follows .mixedOrders=true)(A:Region.lexTailB .any ops n=true)
  (l) {rest cl} (h:zqn P ops (ops.toList.take n) l σ=some (τ,rest,cl)) (K:∀c∈cl,c.ok P)
  (d) {b e} (O:y7c P ops (ops.toList.drop n) d τ=some (σ',b,e)) (s:∀c∈e,c.ok P) (L:Q .normal σ') :
  Sat P (.region id ops true) σ Q:=λW0 g0 H0 W a g _ p q=>by
 simp[Region.lexTailB,Qar]at A;have⟨⟨⟨⟨B,I⟩,G⟩,r⟩,o⟩:=A;have z:=q.drawn (W.drawn+1);have u:σ.e0=H0.E∧Step W0 g0 H0 {W with drawn:=W.drawn+1} g σ.H:=⟨p.1,p.2.trans (Grow.drawn W _).step⟩;have i:(ops.toList.take n).length=n:=by simp;omega
 have m:HeadInv .any ops n (Array.replicate ops.size false) :=
  ⟨by simp,λj U _ X=>(by grind[getD_replicate_false]),λt _ F=>getD_in (by simpa using F) (getD_replicate_false _ _)⟩
 have H:=yqm (P:=P) (md:=.any) (k0:=ops.size-n) (R:=λυ=>υ=τ) G r I (ops.toList.take n) 0 _ σ τ l rest cl (λj Y=>by
  grind) (by simpa using i) m (by rw[i];exact o) h K rfl
 refine zjz y0q J ?_
 have:=zwe (P:=P) (Q':=ylf W0 g0 H0 Q) (k:=ops.size-n) (λlisted W a g υ M p q=>by
  have⟨T,N⟩:=M;subst N;refine ztj (ops.size-n) n listed a W (by omega) T ?_;have:=zx5 (P:=P) (ops:=ops) (Q:=ylf W0 g0 H0 Q) (W0:=W0) (g0:=g0) (H0:=H0) (ops.toList.drop n) n d b υ σ' e W a g (λj=>by grind) O s q p (λW' Z g' D C=>⟨g',σ',.normal,.normal,D,C,L⟩)
  simpa using this) _ _ σ _ a g H u z
 grind
def ylo{id σ τ Q}(n)(B:P.follows .mixedOrders=true)(r:Region.lexTailB .any ops n=true)
  (d) {rest cl} (h:zqn P ops (ops.toList.take n) d σ=some (τ,rest,cl)) (C:∀c∈cl,c.ok P)
  (J:∀W0 g0 H0 W a g,Base W0 g0 H0->(τ.e0=H0.E∧Step W0 g0 H0 W g τ.H)->yze W a g τ->wpOps P ops (ylf W0 g0 H0 Q) (List.range' n (ops.size-n)) a W) :
  Sat P (.region id ops true) σ Q:=λW0 g0 H0 W a g D l q=>by
 simp[Region.lexTailB,Qar]at r;have⟨⟨⟨⟨s,A⟩,z⟩,m⟩,i⟩:=r;have p:=q.drawn (W.drawn+1);have o:σ.e0=H0.E∧Step W0 g0 H0 {W with drawn:=W.drawn+1} g σ.H:=⟨l.1,l.2.trans (Grow.drawn W _).step⟩;have b:(ops.toList.take n).length=n:=by simp;omega
 have e:HeadInv .any ops n (Array.replicate ops.size false) :=
  ⟨by simp,λj F _ G=>(by grind[getD_replicate_false]),λt _ u=>getD_in (by simpa using u) (getD_replicate_false _ _)⟩
 have H:=yqm (P:=P) (md:=.any) (k0:=ops.size-n) (R:=λυ=>υ=τ) z m A (ops.toList.take n) 0 _ σ τ d rest cl (λj I=>by
  grind) (by simpa using b) e (by rw[b];exact i) h C rfl
 refine zjz y0q B ?_
 have:=zwe (P:=P) (Q':=ylf W0 g0 H0 Q) (k:=ops.size-n) (λlisted W a g υ K l q=>by
  grind[ztj]) _ _ σ _ a g H o p
 grind
def z0by{id σ Q}(d:P.follows .mixedOrders=true)(j:Region.lexB .any ops=true)(b){r}(h:zqn P ops ops.toList b σ=some r)(e:∀c∈r.2.2,c.ok P)(i:Q .normal r.1) :
 Sat P (.region id ops true) σ Q:=z07x d j b (σ':=r.1) (rest:=r.2.1) (cl:=r.2.2) h e i
end
end Go.Ab
