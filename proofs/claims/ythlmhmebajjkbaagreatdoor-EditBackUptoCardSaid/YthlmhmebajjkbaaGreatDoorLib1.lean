/-
  Texts.
-/
import Derived.Test.YthlmhmebajjkbaaGreatDoorLib0
import Derived.Laws.CopyRow
import Derived.OrdersIn
import Derived.OwnWalkIn
import Derived.ControlIn
import Derived.CallsIn
import Derived.RangeFuncCalls
import Derived.Deep.LoopGhost
import Derived.IntWalk
set_option linter.defProp false
set_option linter.unusedSimpArgs false
set_option linter.unusedVariables false
namespace Go.Ab
open Go
section
variable {W:World}{g:Gh}{H:Heap}{P:Program}
def zyn(W:World)(g:Gh)(H:Heap)(sz:Nat)(b:List V)(cs:Array Value):Prop :=
 (∀(j:Nat) (y:V),b[j]? = some y->y.cells.length=sz)∧(∀(j:Nat) (y:V) (t:Nat) (v:V),b[j]? = some y->y.cells[t]? = some v->(cs.getD (j * sz+t) undef).oneCell'=true) ∧
  ∀(j:Nat) (y:V) (t:Nat) (v:V),b[j]? = some y->y.cells[t]? = some v->Rel W g H v (cs.getD (j * sz+t) undef)
def zyn.mono{sz:Nat}{b:List V}{cs:Array Value}(h:zyn W g H sz b cs){W':World}{g':Gh}{H':Heap}(s:Step W g H W' g' H'):zyn W' g' H' sz b cs :=
 ⟨h.1,h.2.1,λj y t v e d=>(h.2.2 j y t v e d).mono s⟩
def y7c{sz n j t:Nat}(b:j<n)(d:t<sz):j * sz+t<n * sz:=by
 calc j * sz+t<j * sz+sz:=by omega
  _=(j+1) * sz:=by rw[Nat.succ_mul]
  _<=_:=Qau _ b
def zyn.append{sz:Nat}{xs l:List V}{a b r:Array Value}(p:zyn W g H sz xs a)(o:zyn W g H sz l b)
  (z:∀i,i<xs.length * sz->r.getD i undef=a.getD i undef) (u:∀i,i<l.length * sz->r.getD (xs.length * sz+i) undef=b.getD i undef):zyn W g H sz (xs++l) r:=by
 have n:∀(j:Nat) (y:V) (t:Nat) (v:V),(xs++l)[j]? = some y->y.cells[t]? = some v ->
   (xs[j]? = some y∧r.getD (j * sz+t) undef=a.getD (j * sz+t) undef)∨(l[j-xs.length]? = some y∧r.getD (j * sz+t) undef=b.getD ((j-xs.length) * sz+t) undef):=λj y t v d h=>by
  have A:=(Qaa.1 h).1;rw[Qbe]at d;split at d
  ·rename_i q;have:=p.1 _ _ d;exact .inl ⟨d,z _ (y7c q (by omega))⟩
  ·rename_i B;have s:=(Qaa.1 d).1;have:=o.1 _ _ d;refine .inr ⟨d,?_⟩
   have e:j * sz+t=xs.length * sz+((j-xs.length) * sz+t):=by
    rw[<-Nat.add_assoc,<-Nat.add_mul];congr 2;omega
   rw[e];exact u _ (y7c s (by omega))
 refine⟨λj y d =>?_,λj y t v d h =>?_,λj y t v d h =>?_⟩
 ·rw[Qbe]at d;split at d
  ·exact p.1 _ _ d
  ·exact o.1 _ _ d
 ·rcases n j y t v d h with ⟨k,m⟩|⟨k,m⟩ <;> rw[m]
  ·exact p.2.1 _ _ _ _ k h
  ·exact o.2.1 _ _ _ _ k h
 ·rcases n j y t v d h with ⟨k,m⟩|⟨k,m⟩ <;> rw[m]
  ·exact p.2.2 _ _ _ _ k h
  ·exact o.2.2 _ _ _ _ k h
def zdp(H:Heap)(sz:Nat):V->Option (List V)
 |.nils=>some []
 |.sl s xs _=>if s=sz then some xs else none
 |.hs l i d e n _=>match H.get l i with
  |some (.arr b _ s xs _)=>if b=d∧s=sz then some ((xs.drop e).take n)else none
  |_=>none
 |_=>none
def y4l{l i b ty sz:Nat}{xs:List V}{e:Option Nat}(u:Good W g H)(s:H.get l i=some (.arr b ty sz xs e)) :
  ∃c,W.heap[g.ab l i]? = some (.cells c ty (0,0))∧0<sz∧c.size=g.cap l i * sz∧g.cap l i<=maxLen∧xs.length<=g.cap l i∧(∀n,e=some n->g.cap l i=n)∧zyn W g H sz xs c:=by
 have⟨c,r,q,p,d,o,m,k,j,h⟩:=u.obj _ _ _ s;exact⟨c,r,q,p,d,o,m,k,j,h⟩
def zps(hG:Good W g H){sz:Nat}{x:V}{c:Value}{z:List V}(M:0<sz)(h:zdp H sz x=some z)(N:Rel W g H x c) :
  ∃a n e,c = .slice a n e∧n=z.length∧n<=e∧∃news:Array Value,news.size=n * sz∧(∀v∈news.toList,v.oneCell'=true)∧zyn W g H sz z news ∧
   ∀d:Nat,(Builtin.firstCells sz n c).run P {W with drawn:=d} = .ok news {W with drawn:=d}:=by
 have mk:∀(b o:Nat) (n e:Nat) (f:Nat->Value),n=z.length->(∀i,i<n * sz->W.cell? ⟨b,o+i,none⟩=some (f i))->(∀i,i<n * sz->(f i).oneCell'=true)->(∀(j:Nat) (y:V),z[j]? = some y->y.cells.length=sz) ->
   (∀(j:Nat) (y:V) (t:Nat) (v:V),z[j]? = some y->y.cells[t]? = some v->Rel W g H v (f (j * sz+t))) ->
   ∃news:Array Value,news.size=n * sz∧(∀v∈news.toList,v.oneCell'=true)∧zyn W g H sz z news∧∀d:Nat,(Builtin.firstCells sz n (.slice (some ⟨b,o,none⟩) n e)).run P {W with drawn:=d} = .ok news {W with drawn:=d}:=by
  intro b o n e f hn hf C hl R
  have D:∀i,i<n * sz->(((List.range (n * sz)).map f).toArray).getD i undef=f i:=λi r=>by
   rw[Qae];simp[r]
  have A:∀(j:Nat) (y:V) (t:Nat) (v:V),z[j]? = some y->y.cells[t]? = some v->j * sz+t<n * sz:=λj y t v q u=>
   y7c (by rw[hn];exact(Qaa.1 q).1) (by rw[<-hl j y q];exact(Qaa.1 u).1)
  refine⟨((List.range (n * sz)).map f).toArray,by simp,λv O =>?_,⟨hl,λj y t v q u =>?_,λj y t v q u =>?_⟩,λd =>?_⟩
  ·simp only[Qbg,List.mem_range]at O;obtain⟨i,r,rfl⟩:=O;exact C i r
  ·rw[D _ (A j y t v q u)];exact C _ (A j y t v q u)
  ·rw[D _ (A j y t v q u)];exact R j y t v q u
  ·simp only[Builtin.firstCells];exact run_loadCells _ ⟨b,o,none⟩ (n * sz) f (λi r=>by rw[add_eq];exact hf i r)
 have empty:∀(a:Option Addr) (e:Nat),z=[]->c = .slice a 0 e->∃a n e,c = .slice a n e∧n=z.length∧n<=e∧∃news:Array Value,news.size=n * sz∧(∀v∈news.toList,v.oneCell'=true)∧zyn W g H sz z news ∧
   ∀d:Nat,(Builtin.firstCells sz n c).run P {W with drawn:=d} = .ok news {W with drawn:=d}:=λa e E U=>by
  subst E;subst U;refine⟨a,0,e,rfl,rfl,Qbv _,#[],by simp,by simp,⟨by simp,by simp,by simp⟩,λd =>?_⟩;cases a <;> simp[Builtin.firstCells,loadCells,loadCellsFrom]
 unfold zdp at h;split at h
 ·injection h with h;cases N;exact empty none 0 h.symm rfl
 ·rename_i s xs full;split at h
  ·rename_i hs;subst hs;injection h with h;subst h
   cases N with
   |slnil=>exact empty none 0 rfl rfl
   |sle _ _ a e _=>exact empty (some a) e rfl rfl
   |sl _ _ _ b o e f hb M B hf hs h5 Y R=>
    refine⟨_,_,_,rfl,rfl,B,?_⟩
    have p:∀i,i<xs.length * s->∃y v,xs[i / s]? = some y∧y.cells[i % s]? = some v∧i=i / s * s+i % s:=λi r=>by
     have T:i / s<xs.length:=Nat.div_lt_of_lt_mul (by rw[Nat.mul_comm];exact r);have hm:i % s<s:=Nat.mod_lt _ M;have E:xs[i / s]? = some xs[i / s]:=Qab T;have X:=hs _ _ E;refine⟨_,(xs[i / s]).cells[i % s]'(by omega),E,Qab _,?_⟩;rw[Nat.mul_comm];exact(Nat.div_add_mod i s).symm
    have Z:∀(j t:Nat),t<s->(j * s+t) / s=j∧(j * s+t) % s=t:=λj t u=>by
     constructor
     ·rw[Nat.mul_comm,Nat.mul_add_div M,Nat.div_eq_of_lt u,Nat.add_zero]
     ·rw[Nat.mul_comm,Nat.mul_add_mod,Nat.mod_eq_of_lt u]
    refine mk b o xs.length e (λi=>f (i / s) (i % s)) rfl (λi r =>?_) (λi r =>?_) hs (λj y t v q u =>?_)
    ·obtain⟨y,v,C,F,L⟩:=p i r;have:=h5 _ _ _ _ C F;rw[Nat.add_assoc,<-L]at this;exact this
    ·obtain⟨y,v,C,F,L⟩:=p i r;exact Y _ _ _ _ C F
    ·have I:=(Qaa.1 u).1;rw[hs _ _ q]at I;obtain⟨e1,e2⟩:=Z j t I;simp only[e1,e2];exact R _ _ _ _ q u
  ·cases h
 ·rename_i l i h8 k n full;split at h
  ·rename_i h7 ty s xs cp hg;split at h
   ·rename_i U;obtain⟨rfl,rfl⟩:=U;injection h with h
    cases N with
    |hs _ _ _ _ _ _ a m e T O ha=>
     obtain⟨rfl,rfl,⟨B,h6,hh⟩,he⟩:=ha _ _ _ _ hg;obtain⟨J,k1,k2,k3,h9,k4,k5,K⟩:=y4l hG hg;have hlen:z.length=m:=by rw[<-h];simp;omega
     have G:∀(j:Nat) (y:V),z[j]? = some y->xs[k+j]? = some y∧j<m:=λj y q=>by
      rw[<-h,Qaw]at q;split at q
      ·rename_i h4;rw[Qbf]at q;exact⟨q,h4⟩
      ·cases q
     refine⟨_,_,_,rfl,hlen.symm,B,?_⟩
     have A:∀i,i<m * s->k * s+i<J.size:=λi r=>by
      rw[k3]
      calc k * s+i<k * s+m * s:=by omega
       _=(k+m) * s:=by rw[Nat.add_mul]
       _<=_:=Qau _ (by omega)
     have p:∀i,i<m * s->∃y v,xs[k+i / s]? = some y∧y.cells[i % s]? = some v∧k * s+i=(k+i / s) * s+i % s:=λi r=>by
      have T:i / s<m:=Nat.div_lt_of_lt_mul (by rw[Nat.mul_comm];exact r);have hm:i % s<s:=Nat.mod_lt _ k2;have E:xs[k+i / s]? = some (xs[k+i / s]'(by omega)):=Qab _;have X:=K.1 _ _ E;refine⟨_,(xs[k+i / s]'(by omega)).cells[i % s]'(by omega),E,Qab _,?_⟩;rw[Nat.add_mul,Nat.add_assoc];congr 1;rw[Nat.mul_comm];exact(Nat.div_add_mod i s).symm
     refine mk (g.ab l i) (k * s) m e (λi=>J.getD (k * s+i) undef) hlen.symm (λi r=>cell_of k1 (A i r)) (λi r =>?_) (λj y q=>K.1 _ _ (G j y q).1) (λj y t v q u =>?_)
     ·obtain⟨y,v,C,F,L⟩:=p i r;rw[L];exact K.2.1 _ _ _ _ C F
     ·have:=K.2.2 _ _ _ _ (G j y q).1 u;rw[Nat.add_mul,Nat.add_assoc]at this;exact this
   ·cases h
  ·cases h
 ·cases h
def zyp{t u ty e:TypeId}{i:TypeInfo}{z:Value}{q:TypeDesc}(C:P.underlying t=some (.slice e))(B:P.underlying u=some q)(G:∀k,q ≠ .int k)(F:P.info? e=some i)(s:i.zero=some z)
  {base:Option Addr} {sLen sCap n:Nat}{x:Value}{h news:Array Value}(A:(Builtin.lenOf x).run P W = .ok n W)
  (D:∀d:Nat,(Builtin.firstCells i.size sLen (.slice base sLen sCap)).run P {W with drawn:=d} = .ok h {W with drawn:=d})
  (E:∀d:Nat,(Builtin.firstCells i.size n x).run P {W with drawn:=d} = .ok news {W with drawn:=d})
  (J:sCap<sLen+n) (I:((sLen+n:Nat):Int)<=9223372036854775807) (r:Builtin.nextslicecap (sLen+n) sCap * i.bytes<=281474976710656) :
  ∃b d,sLen+n<=b∧b<=maxLen∧(Builtin.append_ #[t,u] ty #[.slice base sLen sCap,x]).run P W =
   .ok (.slice (some ⟨W.heap.size,0,none⟩) (sLen+n) b) (({W with drawn:=d}:World).alloc (.cells (h++news++Builtin.zeroCells z.cells (b-(sLen+n))) e)):=by
 have p:¬(sLen+n<=sCap):=by omega
 have m:¬(9223372036854775807<((sLen:Int)+(n:Int))):=by omega
 have o:¬(281474976710656<Builtin.nextslicecap (sLen+n) sCap * i.bytes):=by omega
 refine⟨grownCap W (sLen+n) sCap e,W.drawn+1,grownCap_ge _ _ _ _,grownCap_le_maxLen _ _ _ _ (by unfold maxLen;omega),?_⟩;have j:=D (W.drawn+1);have l:=E (W.drawn+1);simp only[World.drew_eq]at j l;simp[Builtin.append_,kz3 C,kz3 B,sizeOf,typeInfo,zeroValue,F,s,A,p,m,o,Question.forced,j,l,newRow,grownCap]
def y9s{t u ty e:TypeId}{i:TypeInfo}{m:TypeDesc}(r:P.underlying t=some (.slice e))(q:P.underlying u=some m)(D:∀k,m ≠ .int k)(z:P.info? e=some i)
  {b o sLen sCap n:Nat} {x:Value}{news d:Array Value}{l:TypeId}(p:(Builtin.lenOf x).run P W = .ok n W)
  (s:(Builtin.firstCells i.size n x).run P W = .ok news W) (C:∀v∈news.toList,v.oneCell'=true)
  (A:sLen+n<=sCap) (B:W.heap[b]? = some (.cells d l (0,0))) (h:o+sLen * i.size+news.size<=d.size) :
  (Builtin.append_ #[t,u] ty #[.slice (some ⟨b,o,none⟩) sLen sCap,x]).run P W =
   .ok (.slice (some ⟨b,o,none⟩) (sLen+n) sCap) (W.setRow b (putCells d (o+sLen * i.size) news)):=by
 have j:=run_storeCells_at P b (o+sLen * i.size) l news.toList 0 d W B (by simpa using h) C;simp only[Nat.add_zero]at j;rw[znx d _ news h]at j;simp[Builtin.append_,kz3 r,kz3 q,sizeOf,typeInfo,z,p,A,s,add_eq,j]
def zmk(H:Heap)(sz:Nat):V->Option (List V)
 |.str s=>if sz=1 then some (s.map λb=>.int .u8 b.toNat)else none
 |x=>zdp H sz x
def yk6(B:Good W g H){sz:Nat}{x:V}{c:Value}{o:List V}(z:0<sz)(h:zmk H sz x=some o)(r:Rel W g H x c) :
  (Builtin.lenOf c).run P W = .ok o.length W∧∃news:Array Value,news.size=o.length * sz∧(∀v∈news.toList,v.oneCell'=true)∧zyn W g H sz o news ∧
   ∀d:Nat,(Builtin.firstCells sz o.length c).run P {W with drawn:=d} = .ok news {W with drawn:=d}:=by
 unfold zmk at h;split at h
 ·rename_i s;split at h
  ·rename_i A;subst A;cases h;cases r;have q:(⟨s.toArray⟩:ByteArray).size=s.length:=by simp[ByteArray.size]
   have m:∀i b,s[i]? = some b->(s.map λb=>Value.int .u8 b.toNat).toArray.getD i undef = .int .u8 b.toNat:=λi b l=>by
    rw[Qae];simp[l]
   have e:∀(j:Nat) (y:V),(s.map λb=>V.int .u8 b.toNat)[j]? = some y->∃b,s[j]? = some b∧y = .int .u8 b.toNat:=λj y k=>by
    simp only[Qan,Qaf]at k;obtain⟨b,l,rfl⟩:=k;exact⟨b,l,rfl⟩
   refine⟨by simp[Builtin.lenOf,q],(s.map λb=>Value.int .u8 b.toNat).toArray,by simp,?_,⟨λj y k =>?_,λj y t v k p =>?_,λj y t v k p =>?_⟩,λd =>?_⟩
   ·intro v u;simp only[Qbg]at u;obtain⟨b,_,rfl⟩:=u;rfl
   ·obtain⟨b,l,rfl⟩:=e j y k;rfl
   ·obtain⟨b,l,rfl⟩:=e j y k
    have:t=0:=by
     have:=(Qaa.1 p).1;simp[V.cells]at this;exact this
    subst this;rw[Nat.mul_one,Nat.add_zero,m j b l];rfl
   ·obtain⟨b,l,rfl⟩:=e j y k
    have:t=0:=by
     have:=(Qaa.1 p).1;simp[V.cells]at this;exact this
    subst this;simp[V.cells]at p;subst p;rw[Nat.mul_one,Nat.add_zero,m j b l];exact .int _ _
   ·simp only[Builtin.firstCells,Sem.run_pure,Qbd]
    congr 1
    apply Array.ext';rw[ByteArray.data_extract];simp
  ·cases h
 ·obtain⟨a,n,G,rfl,rfl,I,news,F,E,D,C⟩:=zps (P:=P) B z h r;exact⟨by simp[Builtin.lenOf],news,F,E,D,C⟩
def zin:Nat:=268435456
def zx9:TypeDesc->Bool
 |.int _=>false
 |_=>true
def z4m(H:Heap)(e size:Nat)(s:V)(d:List V):Option (V×Heap) :=
 match s with
 |.nils=>match d with
  |[]=>some (.nils,H)
  |y::r=>if (y::r).length<=zin then some (.hs H.lv H.L.length 0 0 (y::r).length false,H.push (.arr 0 e size (y::r) none))else none
 |.sl sz xs true=>if sz=size then match d with
  |[]=>some (.sl sz xs true,H)
  |y::r=>if xs.length+(y::r).length<=zin then some (.hs H.lv H.L.length 0 0 (xs.length+(y::r).length) false,H.push (.arr 0 e size (xs++y::r) none))else none else none
 |.hs l i b 0 n false=>match H.get l i with
  |some (.arr h j sz xs _)=>if h=b∧j=e∧sz=size∧n=xs.length∧xs.length+d.length<=zin then
    some (.hs l i (b+1) 0 (xs.length+d.length) false,H.set l i (.arr (b+1) e sz (xs++d) none))else none
  |_=>none
 |_=>none
def hAppend(P:Program)(H:Heap)(t u:Nat)(s x:V):Option (V×Heap) :=
 match P.underlying t,P.underlying u with
 |some (.slice e),some d=>
  match P.info? e with
  |some i=>
   match zmk H i.size x,i.zero with
   |some b,some z=>
    if zx9 d&&decide (0<i.size)&&decide (i.bytes<=524288)&&z.cells.size==i.size then z4m H e i.size s b else none
   |_,_=>none
  |none=>none
 |_,_=>none
end
section
variable {W:World}{g:Gh}{H:Heap}{P:Program}
def Gh.move(g:Gh)(l i b c:Nat):Gh where
 dom:=g.dom
 blk:=g.blk
 ab d e:=if d=l∧e=i then b else g.ab d e
 cap d e:=if d=l∧e=i then c else g.cap d e
def yxd(u:Good W g H){l i m ty sz:Nat}{xs zs:List V}{M:Option Nat}(G:H.get l i=some (.arr m ty sz xs M)){W':World}{O:Obj}(L:W'=W.alloc O)(c:Nat)
  (F:Step W g H W' (g.move l i W.heap.size c) (H.set l i (.arr (m+1) ty sz zs none))->zif W' (g.move l i W.heap.size c) (H.set l i (.arr (m+1) ty sz zs none)) l i (.arr (m+1) ty sz zs none)) :
  Step W g H W' (g.move l i W.heap.size c) (H.set l i (.arr (m+1) ty sz zs none))∧Good W' (g.move l i W.heap.size c) (H.set l i (.arr (m+1) ty sz zs none)):=by
 have e:=Heap.y01 (o':=.arr (m+1) ty sz zs none) G;have p:Grow W W':=L▸Grow.alloc W O;have j:∀(q:yz5) (r s:Nat),¬(r=l∧s=i)->q.blk (g.move l i W.heap.size c) r s=q.blk g r s:=λq r s h=>by cases q <;> simp[yz5.blk,Gh.move,h]
 have n:Step W g H W' (g.move l i W.heap.size c) (H.set l i (.arr (m+1) ty sz zs none)):=by
  refine⟨p.os,p.tape,p.output,p.size,λb I _=>p.block b I,λb I =>?_,λ_ _ h=>h,λ_ _ h=>.inl h,λ_ _ _=>rfl,λr s E Y Z J K hd B =>?_,Heap.yky _ _ _⟩
  ·have⟨r,s,q,k,A⟩:=I;rw[e]at k;split at k
   ·rename_i d;obtain⟨rfl,rfl⟩:=d;cases k;simp only[yz5.blk,Gh.move,and_self,if_true]at A;right;omega
   ·rename_i d;rw[j _ _ _ d]at A;exact .inl ⟨r,s,q,k,A⟩
  ·rw[e]at B;split at B
   ·rename_i d;obtain⟨rfl,rfl⟩:=d;injection B with B;injection B with X U T e4 e5;subst X;subst U;subst T;exact⟨m,xs,M,G,Nat.le_succ _,λh=>by omega⟩
   ·rename_i d;exact⟨E,J,K,B,Qbw _,λ_=>⟨by simp[Gh.move,d],by simp[Gh.move,d],Qbw _⟩⟩
 refine⟨n,?_,?_,?_,?_,?_,u.y3r.step n⟩
 ·intro r s q k;rw[e]at k;split at k
  ·rename_i d;obtain⟨rfl,rfl⟩:=d;exact u.dom _ _ _ G
  ·exact u.dom _ _ _ k
 ·intro r s q k;rw[e]at k;split at k
  ·rename_i d;obtain⟨rfl,rfl⟩:=d;cases k;simp only[yz5.blk,Gh.move,and_self,if_true];rw[L];simp
  ·rename_i d;rw[j _ _ _ d];exact Qbj (u.lt _ _ _ k) p.size
 ·intro l1 i1 R l2 i2 N D C z;rw[e]at D C;split at D
  ·rename_i d;obtain⟨rfl,rfl⟩:=d;cases D;split at C
   ·rename_i o;exact⟨o.1.symm,o.2.symm⟩
   ·rename_i o;rw[j _ _ _ o]at z;simp only[yz5.blk,Gh.move,and_self,if_true]at z;have:=u.lt _ _ _ C;cases N <;> simp only[yz5.blk]at z this <;> omega
  ·rename_i d;split at C
   ·rename_i o;obtain⟨rfl,rfl⟩:=o;cases C;rw[j _ _ _ d]at z;simp only[yz5.blk,Gh.move,and_self,if_true]at z;have:=u.lt _ _ _ D;cases R <;> simp only[yz5.blk]at z this <;> omega
   ·rename_i o;rw[j _ _ _ d,j _ _ _ o]at z;exact u.inj _ _ _ _ _ _ D C z
 ·intro r s h;rw[Heap.yky,Heap.yvf];exact u.fresh r s h
 ·intro r s q k;rw[e]at k;split at k
  ·rename_i d;obtain⟨rfl,rfl⟩:=d;cases k;exact F n
  ·rename_i d;exact(u.obj r s q k).mono n (p.block _ (u.lt _ _ _ k)) rfl (by simp[Gh.move,d]) (by simp[Gh.move,d])
def zw8{t u ty e:TypeId}{i:TypeInfo}{b:TypeDesc}(l:P.underlying t=some (.slice e))(j:P.underlying u=some b)(p:∀k,b ≠ .int k)(n:P.info? e=some i)
  {base:Option Addr} {sLen sCap:Nat}{x:Value}{news:Array Value}(h:(Builtin.lenOf x).run P W = .ok 0 W) (m:(Builtin.firstCells i.size 0 x).run P W = .ok news W) (d:news = #[]) (o:sLen<=sCap) :
  (Builtin.append_ #[t,u] ty #[.slice base sLen sCap,x]).run P W = .ok (.slice base sLen sCap) W:=by
 subst d;cases base <;> simp[Builtin.append_,kz3 l,kz3 j,sizeOf,typeInfo,n,h,o,m,storeCells]
def z4i{a b:Array Value}{i:Nat}(h:i<a.size):(a++b).getD i undef=a.getD i undef:=by
 simp only[Qae];rw[Array.getElem?_append_left h]
def zjw{a b:Array Value}{i:Nat}:(a++b).getD (a.size+i) undef=b.getD i undef:=by
 simp only[Qae];rw[Array.getElem?_append_right (by omega)];congr 2;omega
def ym1(T:Good W g H){t u ty:Nat}{s x v:V}{cs cx:Value}{H':Heap}(h:hAppend P H t u s x=some (v,H'))(hs:Rel W g H s cs)(hx:Rel W g H x cx) :
  z9v P W g H (do pure (.value (<-Builtin.append_ #[t,u] ty #[cs,cx]))) v H':=by
 unfold hAppend at h;split at h
 ·rename_i e du ht hu;split at h
  ·rename_i i hi;split at h
   ·rename_i B z h9 hz;split at h
    ·rename_i hc;simp only[Qag,Qar,Qbm]at hc;have⟨⟨⟨c1,c2⟩,c3⟩,c4⟩:=hc;have h3:∀k,du ≠ .int k:=λk hk=>by subst hk;simp[zx9]at c1
     have⟨hlen,news,n1,n2,n3,n4⟩:=yk6 (P:=P) T c2 h9 hx
     have nothing:∀(a:Option Addr) (n q:Nat),B=[]->cs = .slice a n q->n<=q->z9v P W g H (do pure (.value (<-Builtin.append_ #[t,u] ty #[cs,cx]))) s H:=λa n q hy G h5=>by
      subst hy;have h8:news = #[]:=by simpa using n1
      have:=zw8 (P:=P) (W:=W) (ty:=ty) (base:=a) ht hu h3 hi hlen (n4 W.drawn) h8 h5;rw[G];exact⟨_,W,g,.inl (by simp[this]),.refl _ _ _,T,G▸hs⟩
     have fresh:∀(a:Option Addr) (n q:Nat) (xs:List V) (m:Array Value),cs = .slice a n q->n=xs.length->q<n+B.length->n+B.length<=zin->m.size=n * i.size->zyn W g H i.size xs m ->
       (∀d:Nat,(Builtin.firstCells i.size n (.slice a n q)).run P {W with drawn:=d} = .ok m {W with drawn:=d}) ->
       ∃p d,n+B.length<=p∧p<=maxLen∧(Builtin.append_ #[t,u] ty #[cs,cx]).run P W =
        .ok (.slice (some ⟨W.heap.size,0,none⟩) (n+B.length) p) (({W with drawn:=d}:World).alloc (.cells (m++news++Builtin.zeroCells z.cells (p-(n+B.length))) e)) ∧
        (m++news++Builtin.zeroCells z.cells (p-(n+B.length))).size=p * i.size∧zyn W g H i.size (xs++B) (m++news++Builtin.zeroCells z.cells (p-(n+B.length))) :=
       λa n q xs m G hn E C J h1 Z=>by
      have hb:n+B.length<=268435456:=C
      have R:(n+B.length) * i.bytes<=140737488355328:=by
       calc (n+B.length) * i.bytes<=268435456 * 524288:=Nat.mul_le_mul hb c3
        _=_:=by decide
      have⟨p,d,k1,k2,k3⟩:=zyp (P:=P) (W:=W) (ty:=ty) (base:=a) ht hu h3 hi hz hlen Z n4 E (by omega) (growslice_fits E R);refine⟨p,d,k1,k2,by rw[G];exact k3,?_,?_⟩
      ·rw[Array.size_append,Array.size_append,size_zeroCells,J,n1,c4,<-Nat.add_mul,<-Nat.add_mul]
       congr 1;omega
      ·refine h1.append n3 (λj hj =>?_) (λj hj =>?_)
       ·rw[Array.append_assoc,z4i (by rw[J,hn];exact hj)]
       ·rw[Array.append_assoc,<-hn,<-J,zjw,z4i (by rw[n1];exact hj)]
     have F:∀(a:Option Addr) (n q:Nat) (xs:List V) (m:Array Value),cs = .slice a n q->n=xs.length->q<n+B.length->n+B.length<=zin->m.size=n * i.size->zyn W g H i.size xs m ->
       (∀d:Nat,(Builtin.firstCells i.size n (.slice a n q)).run P {W with drawn:=d} = .ok m {W with drawn:=d}) ->
       z9v P W g H (do pure (.value (<-Builtin.append_ #[t,u] ty #[cs,cx]))) (.hs H.lv H.L.length 0 0 (n+B.length) false) (H.push (.arr 0 e i.size (xs++B) none)):=λa n q xs m G hn E C J h1 Z=>by
      have⟨p,d,k1,k2,k3,k4,k5⟩:=fresh a n q xs m G hn E C J h1 Z;have h4:=T.grow (Grow.drawn W d)
      have⟨q1,q2⟩:=zit h4 (o:=.arr 0 e i.size (xs++B) none) (O:=.cells (m++news++Builtin.zeroCells z.cells (p-(n+B.length))) e) p (λW' g' H' hW D hH I=>by
       have N:=(k5.mono (Grow.drawn W d).step).mono I;refine⟨_,?_,c2,?_,?_,?_,by simp,N.1,N.2.1,N.2.2⟩
       ·rw[hW,D];simp only[Gh.add,and_self,if_true];exact z2h _ _
       ·rw[D];simpa[Gh.add]using k4
       ·rw[D];simpa[Gh.add]using k2
       ·rw[D];simp[Gh.add];omega)
      refine⟨_,_,_,.inl (by simp[k3];rfl),(Grow.drawn W d).step.trans q1,q2,?_⟩;refine .hs _ _ _ _ _ _ _ _ _ (.inr ⟨rfl,rfl⟩) (λv ty sz xs Y D=>Qbv _) λty sz zs Y D =>?_
      rw[Heap.z9q,Qbx ⟨rfl,rfl⟩]at D;injection D with D;injection D with _ _ e3 e4 _;subst e3;subst e4;refine⟨by simp[Gh.add],rfl,⟨k1,by simp[Gh.add],by simp⟩,by simp;omega⟩
     unfold z4m at h;split at h
     ·
      cases hs;split at h
      ·cases h;exact nothing none 0 0 rfl rfl (Qbw _)
      ·rename_i y r;split at h
       ·rename_i hr;cases h;have:=F none 0 0 [] #[] rfl rfl (by simp) (by simpa using hr) (by simp) ⟨by simp,by simp,by simp⟩ (λd=>by simp[Builtin.firstCells]);simpa using this
       ·cases h
     ·rename_i sz xs;split at h
      ·rename_i he;obtain⟨a,n,q,rfl,rfl,o2,m,o3,o4,o5,o6⟩:=zps (P:=P) T c2 (show zdp H i.size (.sl sz xs true)=some xs by simp[zdp,he]) hs
       have hl:q=xs.length:=by
        cases hs with
        |slnil=>rfl
        |sle _ _ _ _ hf=>exact hf rfl
        |sl _ _ _ _ _ _ _ _ _ _ hf=>exact hf rfl
       split at h
       ·cases h;exact nothing a _ q rfl rfl o2
       ·rename_i y r;split at h
        ·rename_i hr;cases h;exact F a _ q xs m rfl rfl (by simp;omega) hr o3 o5 o6
        ·cases h
      ·cases h
     ·rename_i l i' hp n;split at h
      ·rename_i M e' sz xs Y D;split at h
       ·rename_i hh;obtain⟨rfl,rfl,rfl,rfl,C⟩:=hh;cases h;obtain⟨a,n,q,rfl,hq,o2,m,o3,o4,o5,o6⟩:=zps (P:=P) T c2 (show zdp H i.size (.hs l i' M 0 xs.length false)=some xs by simp[zdp,D]) hs
        cases hs with
        |hs _ _ _ _ _ _ _ _ _ hd hv ha=>
         obtain⟨rfl,rfl,⟨E,ho,hw⟩,h5⟩:=ha _ _ _ _ D;have⟨K,k1,k2,k3,h7,k4,k5,k6⟩:=y4l T D;rw[Nat.zero_mul]at *;by_cases X:xs.length+B.length<=q
         ·have h6:0+xs.length * i.size+news.size<=K.size:=by
           rw[n1,k3,Nat.zero_add,<-Nat.add_mul];exact Qau _ (by omega)
          have U:=y9s (P:=P) (W:=W) (ty:=ty) ht hu h3 hi hlen (n4 W.drawn) n2 X k1 h6;rw[Nat.zero_add]at U;have⟨p1,p2⟩:=zk2 K (xs.length * i.size) news;have⟨s1,s2,s3,s4⟩:=zpi W (g.ab l i') (putCells K (xs.length * i.size) news)
          have⟨q1,q2⟩:=zjs T (o':=.arr (M+1) e' i.size (xs++B) none) D rfl s1 s2 s3 s4 (λb _ hb=>setRow_other W _ b _ hb)
           (λ_ _ _ _ _ h=>by cases h;exact⟨M,xs,Y,rfl,Nat.le_succ _,λh=>by omega⟩) (λI=>by
           have N:zyn W g H i.size (xs++B) (putCells K (xs.length * i.size) news):=k6.append n3 (λj hj=>by
            rw[Qae,p2,Qby (by omega),<-Qae]) (λj hj=>by
            rw[Qae,p2,Qbx ⟨by omega,by rw[n1];omega,by rw[n1]at h6;omega⟩,show xs.length * i.size+j-xs.length * i.size=j by omega,<-Qae])
           have h2:=N.mono I
           exact⟨_,setRow_heap W _ K _ e' _ k1,k2,by rw[p1];exact k3,h7,by simp;omega,by simp,h2.1,h2.2.1,h2.2.2⟩)
          refine⟨_,_,g,.inl (by simp[U];rfl),q1,q2,?_⟩;refine .hs _ _ _ _ _ _ _ _ _ hd (λv ty sz zs Y A =>?_) λty sz zs Y A =>?_
          ·rw[Heap.y01 D,Qbx ⟨rfl,rfl⟩]at A;injection A with A;injection A with e1 _ _ _ _;omega
          ·rw[Heap.y01 D,Qbx ⟨rfl,rfl⟩]at A;injection A with A;injection A with _ _ e3 e4 _;subst e3;subst e4;exact⟨by simp,rfl,⟨X,by omega,by simp⟩,by simp⟩
         ·have⟨p,d,j1,j2,j3,j4,j5⟩:=fresh (some ⟨g.ab l i',0,none⟩) xs.length q xs m rfl rfl (by omega) C o3 o5 o6;have h4:=T.grow (Grow.drawn W d)
          have⟨q1,q2⟩:=yxd h4 (zs:=xs++B) D (W':=({W with drawn:=d}:World).alloc (.cells (m++news++Builtin.zeroCells z.cells (p-(xs.length+B.length))) e')) rfl p (λI=>by
           have N:=(j5.mono (Grow.drawn W d).step).mono I;refine⟨_,?_,k2,?_,?_,?_,by simp,N.1,N.2.1,N.2.2⟩
           ·simp only[Gh.move,and_self,if_true];exact z2h _ _
           ·simpa[Gh.move]using j4
           ·simpa[Gh.move]using j2
           ·simp[Gh.move];omega)
          refine⟨_,_,_,.inl (by simp[j3];rfl),(Grow.drawn W d).step.trans q1,q2,?_⟩;refine .hs _ _ _ _ _ _ _ _ _ hd (λv ty sz zs Y A =>?_) λty sz zs Y A =>?_
          ·rw[Heap.y01 D,Qbx ⟨rfl,rfl⟩]at A;injection A with A;injection A with e1 _ _ _ _;omega
          ·rw[Heap.y01 D,Qbx ⟨rfl,rfl⟩]at A;injection A with A;injection A with _ _ e3 e4 _;subst e3;subst e4;exact⟨by simp[Gh.move],rfl,⟨j1,by simp[Gh.move],by simp⟩,by simp⟩
       ·cases h
      ·cases h
     ·cases h
    ·cases h
   ·cases h
  ·cases h
 ·cases h
end
section
variable {W:World}{g:Gh}{H:Heap}{P:Program}
def zho(s:B8)(b:Nat):Nat×Nat:=Utf8.decode ⟨s.toArray⟩ b
def yni(P:Program)(H:Heap)(t:Nat)(x:V):Option (V×Heap) :=
 match x with
 |.str s=>match P.underlying t with
  |some .string=>some (.ptr H.lv H.L.length 0,H.push (.siter s 0))
  |_=>none
 |_=>none
def ys9(j:Good W g H){t:Nat}{x v:V}{c:Value}{H':Heap}(h:yni P H t x=some (v,H'))(b:Rel W g H x c):z9v P W g H (do pure (.value (<-Instr.range t c))) v H':=by
 unfold yni at h;split at h
 ·rename_i s;split at h
  ·rename_i d;cases h;cases b
   have⟨l,k⟩:=zit j (O:=.stringIter ⟨s.toArray⟩ 0) (o:=.siter s 0) 0 (λW' g' H' i e n m=>by
    show W'.heap[g'.blk H.lv H.L.length]? = _;rw[i,e];simp only[Gh.add,and_self,if_true]
    exact z2h _ _)
   refine⟨.pointer (some ⟨W.heap.size,0,none⟩),_,_,.inl ?_,l,k,?_⟩
   ·simp[Instr.range,kz3 d]
   ·have:=Rel.ptr (W:=W.alloc (.stringIter ⟨s.toArray⟩ 0)) (g:=g.add H.lv H.L.length W.heap.size 0) (H:=H.push (.siter s 0)) H.lv H.L.length 0 (.inr ⟨rfl,rfl⟩);simpa[Gh.add]using this
  ·cases h
 ·cases h
def yjw(H:Heap)(x:V)(str:Bool):Option (V×Heap) :=
 match x,str with
 |.ptr l i 0,true=>match H.get l i with
  |some (.siter s b)=>if b<s.length then some (.tup [.bool true,.int .i64 b,.int .i32 (zho s b).1],H.set l i (.siter s (b+(zho s b).2)))else some (.tup [.bool false],H)
  |_=>none
 |_,_=>none
def ytw(q:Good W g H){ty:Nat}{x v:V}{c:Value}{str:Bool}{H':Heap}(h:yjw H x str=some (v,H'))(B:Rel W g H x c):z9v P W g H (do pure (.value (<-Instr.next c str ty))) v H':=by
 unfold yjw at h;split at h
 ·rename_i l i;split at h
  ·rename_i s d u
   cases B with
   |ptr _ _ _ J=>
    have C:=q.obj _ _ _ u;have n:W.heap[g.blk l i]? = some (.stringIter ⟨s.toArray⟩ d):=C;have A:g.blk l i<W.heap.size:=q.lt _ _ _ u;split at h
    ·rename_i r;cases h
     have o:(do pure (.value (<-Instr.next (.pointer (some ⟨g.blk l i,0,none⟩)) true ty)):Sem Next).run P W =
       .ok (.value (.tuple #[.bool true,.int .i64 d,.int .i32 (zho s d).1])) {W with heap:=W.heap.setIfInBounds (g.blk l i) (.stringIter ⟨s.toArray⟩ (d+(zho s d).2))}:=by
      have m:d<ByteArray.size ⟨s.toArray⟩:=by simpa[ByteArray.size]using r
      simp[Instr.next,getObj,Sem.run,n,m,setObj,goInt,zho]
     have⟨F,E⟩:=zjs q (o':=.siter s (d+(zho s d).2)) u rfl (W':={W with heap:=W.heap.setIfInBounds (g.blk l i) (.stringIter ⟨s.toArray⟩ (d+(zho s d).2))}) rfl rfl rfl (by simp)
      (λb K z=>by
        have p:g.blk l i≠b:=λe=>z e.symm
        simp[Array.getElem?_setIfInBounds,p]) (λG ty sz xs L D=>by cases D) (λI=>by
        show(Array.setIfInBounds _ _ _)[g.blk l i]? = _
        simp[Array.getElem?_setIfInBounds,A])
     refine⟨_,_,_,.inl o,F,E,.tup _ _ rfl λj v k =>?_⟩
     match j with
     |0=>simp at k;subst k;exact .bool true
     |1=>simp at k;subst k;exact .int .i64 _
     |2=>simp at k;subst k;exact .int .i32 _
     |j+3=>simp at k
    ·rename_i r;cases h;refine⟨.tuple #[.bool false],W,g,.inl ?_,.refl _ _ _,q,.tup _ _ rfl λj v k =>?_⟩
     ·have m:¬d<ByteArray.size ⟨s.toArray⟩:=by simpa[ByteArray.size]using r
      simp[Instr.next,getObj,Sem.run,n,m]
     ·match j with
      |0=>simp at k;subst k;exact .bool false
      |j+1=>simp at k
  ·cases h
 ·cases h
end
section
variable {W:World}{g:Gh}{H:Heap}{P:Program}
def y5t(P:Program)(H:Heap)(t:Nat)(d s:V):Option (V×Heap) :=
 match P.underlying t with
 |some (.slice e)=>if (P.info? e).isSome then
  match d,s with
  |.sl _ [] _,.hs l i b j n full=>match H.get l i with
   |some (.arr h _ _ _ _)=>if h=b then some (.int .i64 0,H)else none
   |_=>none
  |.hs l i b j n full,.hs q r k m o p=>if q=l∧r=i∧k=b then
   match H.get l i with
   |some (.arr h ty sz xs u)=>if h=b∧sz=P.cellsOf e then
    some (.int .i64 (min o n:Nat),H.set l i (.arr b ty sz (xs.take j++((xs.drop m).take (min o n)++xs.drop (j+min o n))) u))else none
   |_=>none
   else none
  |_,_=>none
  else none
 |_=>none
def yi9{t u ty e:TypeId}{i:TypeInfo}(C:P.underlying t=some (.slice e))(E:P.info? e=some i){b o h dLen dCap sLen sCap m:Nat}{d:Array Value}(z:W.heap[b]? = some (.cells d m (0,0)))
  (A:o+Nat.min sLen dLen * i.size<=d.size) (G:h+Nat.min sLen dLen * i.size<=d.size) (D:∀j,h<=j->j<h+Nat.min sLen dLen * i.size->(d.getD j undef).oneCell'=true) :
  (Builtin.copy_ #[t,u] ty #[.slice (some ⟨b,o,none⟩) dLen dCap,.slice (some ⟨b,h,none⟩) sLen sCap]).run P W =
   .ok (goInt (Nat.min sLen dLen)) (W.setRow b (putCells d o (d.extract h (h+Nat.min sLen dLen * i.size)))):=by
 have hlen:(d.extract h (h+Nat.min sLen dLen * i.size)).toList.length=Nat.min sLen dLen * i.size:=by simp;omega
 have p:=run_loadCells_list (P:=P) (w:=W) (a:=⟨b,h,none⟩) (d.extract h (h+Nat.min sLen dLen * i.size)).toList (λj v r=>by
  have l:(d.extract h (h+Nat.min sLen dLen * i.size))[j]? = some v:=by rw[<-Qbh];exact r
  have s:=(Qbn.1 l).1;rw[Array.getElem?_extract,Qbx (by simp at s;omega)]at l;have n:(⟨b,h,none⟩:Addr).add j=⟨b,h+j,none⟩:=by unfold Addr.add;split <;> simp_all
  rw[n]
  simpa[World.cell?,z]using l)
 rw[hlen]at p
 have k:=run_storeCells_at P b o m (d.extract h (h+Nat.min sLen dLen * i.size)).toList 0 d W z (by rw[hlen];simpa using A) (λv B=>by
  obtain⟨j,r,rfl⟩:=List.getElem_of_mem B;have l:j<Nat.min sLen dLen * i.size:=by rw[<-hlen];exact r
  have:=D (h+j) (by omega) (by omega);rw[Qae]at this
  simpa[show h+j<d.size by omega]using this)
 simp only[Nat.add_zero]at k;rw[znx d o _ (by rw[<-Array.length_toList,hlen];exact A)]at k;generalize F:(d.extract h (h+Nat.min sLen dLen * i.size)).toList=q at p k;simp[Builtin.copy_,kz3 C,Builtin.lenOf,Builtin.firstCells,sizeOf,typeInfo,E,p,k]
def ytm(hG:Good W g H){t u ty:Nat}{d s v:V}{cd cs:Value}{H':Heap}(h:y5t P H t d s=some (v,H'))(hd:Rel W g H d cd)(hs:Rel W g H s cs) :
  z9v P W g H (do pure (.value (<-Builtin.copy_ #[t,u] ty #[cd,cs]))) v H':=by
 unfold y5t at h;split at h
 ·rename_i e ht;split at h
  ·rename_i O;have⟨i,O⟩:=Option.isSome_iff_exists.1 O;split at h
   ·rename_i sz fu l i' Z k n full;split at h
    ·rename_i I R hu xs cp T;split at h
     ·rename_i hv;subst hv;cases h
      have C:(Builtin.copy_ #[t,u] ty #[cd,cs]).run P W = .ok (goInt 0) W:=by
       cases hs with
       |hs _ _ _ _ _ _ a m h3 h9 hv ha=>
        obtain⟨rfl,rfl,_,_⟩:=ha _ _ _ _ T
        cases hd with
        |slnil=>simp[Builtin.copy_,kz3 ht,Builtin.lenOf,Builtin.firstCells,sizeOf,typeInfo,O];rfl
        |sle _ _ a E hf=>simp[Builtin.copy_,kz3 ht,Builtin.lenOf,Builtin.firstCells,sizeOf,typeInfo,O,storeCells];rfl
        |sl _ _ _ b o E c=>simp[Builtin.copy_,kz3 ht,Builtin.lenOf,Builtin.firstCells,sizeOf,typeInfo,O,storeCells];rfl
      exact⟨_,W,g,.inl (by simp[C];rfl),.refl _ _ _,hG,.int _ _⟩
     ·cases h
    ·cases h
   ·rename_i l i' Z k n full M i2 hp p n2 ho;split at h
    ·rename_i hk;obtain⟨rfl,rfl,rfl⟩:=hk;split at h
     ·rename_i I R sz xs cp T;split at h
      ·rename_i hc;obtain⟨rfl,hm⟩:=hc;cases h;obtain rfl:sz=i.size:=hm.trans (by simp[Program.cellsOf,O]);have⟨r,k1,k2,k3,h5,k4,k5,k6,k7,k8⟩:=hG.obj _ _ _ T
       cases hd with
       |hs _ _ _ _ _ _ a m h3 h9 hv ha=>
        obtain⟨rfl,rfl,⟨a1,a2,_⟩,a3⟩:=ha _ _ _ _ T
        cases hs with
        |hs _ _ _ _ _ _ a' z E hr hw hn=>
         obtain⟨rfl,rfl,⟨b1,b2,_⟩,b3⟩:=hn _ _ _ _ T;have h7:Nat.min z m=min z m:=rfl;have L:∀q,q<=g.cap M i2->q * i.size<=r.size:=λq hq=>by rw[k3];exact Qau _ hq
         have f1:k * i.size+min z m * i.size<=r.size:=by rw[<-Nat.add_mul];exact L _ (by omega)
         have f2:p * i.size+min z m * i.size<=r.size:=by rw[<-Nat.add_mul];exact L _ (by omega)
         have cellOf:∀(j t:Nat),j<xs.length->t<i.size->∃x v,xs[j]? = some x∧x.cells[t]? = some v∧x.cells.length=i.size:=λj t A hy=>by
          have hl:=k6 j xs[j] (Qab A);exact⟨xs[j],xs[j].cells[t]'(by omega),Qab A,Qab _,hl⟩
         have h4:∀j,p * i.size<=j->j<p * i.size+min z m * i.size->(r.getD j undef).oneCell'=true:=λj q1 q2=>by
          have hq:j / i.size<xs.length:=by
           have:j<(p+min z m) * i.size:=by rw[Nat.add_mul];exact q2
           have:=Nat.div_lt_of_lt_mul (show j<i.size * (p+min z m) by rw[Nat.mul_comm];exact this);omega
          have⟨x,v,e1,U,_⟩:=cellOf (j / i.size) (j % i.size) hq (Nat.mod_lt _ k2);have:=k7 _ _ _ _ e1 U;rwa[Nat.mul_comm,Nat.div_add_mod]at this
         have C:=yi9 (W:=W) (u:=u) (ty:=ty) (dLen:=m) (dCap:=h3) (sLen:=z) (sCap:=E) ht O k1 f1 f2 h4;rw[h7]at C;have⟨p1,p2⟩:=zk2 r (k * i.size) (r.extract (p * i.size) (p * i.size+min z m * i.size));have⟨s1,s2,s3,s4⟩:=zpi W (g.ab M i2) (putCells r (k * i.size) (r.extract (p * i.size) (p * i.size+min z m * i.size)))
         have G:(xs.take k++((xs.drop p).take (min z m)++xs.drop (k+min z m))).length=xs.length:=by simp;omega
         have K:∀j,j<xs.length->(xs.take k++((xs.drop p).take (min z m)++xs.drop (k+min z m)))[j]? = if k<=j∧j<k+min z m then xs[p+(j-k)]? else xs[j]? := λj A=>by
          by_cases Y:j<k
          ·rw[Qal (by simp;omega),Qaw,Qbx Y,Qby (by omega)]
          ·rw[Qav (by simp;omega)];have l1:(xs.take k).length=k:=by simp;omega
           rw[l1];have M:((xs.drop p).take (min z m)).length=min z m:=by simp;omega
           by_cases X:j<k+min z m
           ·rw[Qal (by rw[M];omega),Qaw,Qbx (by omega),Qbf,Qbx ⟨by omega,X⟩]
           ·rw[Qav (by rw[M];omega),M,Qbf,Qby (by omega)]
            congr 1;omega
         have F:∀j t,j<xs.length->t<i.size->(putCells r (k * i.size) (r.extract (p * i.size) (p * i.size+min z m * i.size))).getD (j * i.size+t) undef=if k<=j∧j<k+min z m then r.getD ((p+(j-k)) * i.size+t) undef else r.getD (j * i.size+t) undef:=λj t A hx=>by
          have h2:(r.extract (p * i.size) (p * i.size+min z m * i.size)).size=min z m * i.size:=by simp;omega
          have h8:j * i.size+t<r.size:=by
           have:(j+1) * i.size<=g.cap M i2 * i.size:=Qau _ (by omega);rw[Nat.add_mul,Nat.one_mul]at this;rw[k3];omega
          rw[Qae,p2 (j * i.size+t)];by_cases c:k<=j∧j<k+min z m
          ·have e1:k * i.size<=j * i.size:=Qau _ c.1;have U:(j+1) * i.size<=(k+min z m) * i.size:=Qau _ (by omega);rw[Nat.add_mul,Nat.add_mul,Nat.one_mul]at U;have e3:(j-k) * i.size=j * i.size-k * i.size:=Nat.sub_mul _ _ _;rw[Qbx ⟨by omega,by rw[h2];omega,h8⟩,Qbx c,Qae,Array.getElem?_extract,Qbx (by omega)]
           congr 2
           rw[Nat.add_mul,e3];omega
          ·rw[Qby,Qby c,Qae];rw[h2];intro hh;apply c;constructor
           ·rcases Nat.lt_or_ge j k with q|q
            ·have:(j+1) * i.size<=k * i.size:=Qau _ q;rw[Nat.add_mul,Nat.one_mul]at this;omega
            ·exact q
           ·rcases Nat.lt_or_ge j (k+min z m)with q|q
            ·exact q
            ·have:(k+min z m) * i.size<=j * i.size:=Qau _ q;rw[Nat.add_mul]at this;omega
         have J:∀(j:Nat) (x:V) (t:Nat) (v:V),(xs.take k++((xs.drop p).take (min z m)++xs.drop (k+min z m)))[j]? = some x->x.cells[t]? = some v ->
           ∃N,xs[N]? = some x∧(putCells r (k * i.size) (r.extract (p * i.size) (p * i.size+min z m * i.size))).getD (j * i.size+t) undef=r.getD (N * i.size+t) undef:=λj x t v A B=>by
          have D:j<xs.length:=by rw[<-G];exact(Qaa.1 A).1
          rw[K j D]at A;have h1:∀N,xs[N]? = some x->t<i.size:=λN h'=>by have:=k6 _ _ h';have:=(Qaa.1 B).1;omega
          split at A
          ·rename_i c;exact⟨_,A,by rw[F j t D (h1 _ A),Qbx c]⟩
          ·rename_i c;exact⟨_,A,by rw[F j t D (h1 _ A),Qby c]⟩
         have⟨q1,q2⟩:=zjs hG (o':=.arr I R i.size (xs.take k++((xs.drop p).take (min z m)++xs.drop (k+min z m))) cp) T rfl s1 s2 s3 s4 (λb _ hb=>setRow_other W _ b _ hb)
          (λZ ty sz zs hz he=>by injection he with e1 U e3 e4 e5;subst e1;subst U;subst e3;subst e4;exact⟨_,xs,cp,rfl,Qbw _,λ_=>by rw[G];exact Qbw _⟩) (λh6=>by
          refine⟨_,setRow_heap W _ r _ R _ k1,k2,by rw[p1];exact k3,h5,by rw[G];exact k4,k5,λj x A =>?_,λj x t v A B =>?_,λj x t v A B =>?_⟩
          ·have D:j<xs.length:=by rw[<-G];exact(Qaa.1 A).1
           rw[K j D]at A;split at A <;> exact k6 _ _ A
          ·have⟨N,Y,X⟩:=J j x t v A B;rw[X];exact k7 _ _ _ _ Y B
          ·have⟨N,Y,X⟩:=J j x t v A B
           rw[X];exact(k8 _ _ _ _ Y B).mono h6)
         exact⟨_,_,g,.inl (by simp[C];rfl),q1,q2,.int _ _⟩
      ·cases h
     ·cases h
    ·cases h
   ·cases h
  ·cases h
 ·cases h
end
section
variable {P:Program}
def ox(P:Program)(H:Heap)(ρ:Operand->V):Op->Option (V×Heap)
 |.alloc t=>ycs P H t
 |.box _ x=>hBox H (ρ x)
 |.store t a x=>zh5 P H t (ρ a) (ρ x)
 |.makeMap t r=>zxc P H t (r.map ρ)
 |.mapUpdate t m k x=>zi2 P H t (ρ m) (ρ k) (ρ x)
 |.insert t m k x=>zi2 P H t (ρ m) (ρ k) (ρ x)
 |.range t x=>yni P H t (ρ x)
 |.next i b=>yjw H (ρ i) b
 |.call c=>match c.callee with
  |.builtin .append=>match c.args.toList,c.argTypes.toList with
   |[s,x],[t,u]=>hAppend P H t u (ρ s) (ρ x)
   |_,_=>none
  |.builtin .copy=>match c.args.toList,c.argTypes.toList with
   |[s,x],[t,u]=>y5t P H t (ρ s) (ρ x)
   |_,_=>none
  |_=>(zcx P H ρ c).map λv=>(v,H)
 |o=>(pv P H ρ o).map λv=>(v,H)
def ybf{W:World}{g:Gh}{H H':Heap}{ρ:Operand->V}{r:Operand->Value}{o:Oper}{v:V}(p:Good W g H)(i:∀x,Rel W g H (ρ x) (r x))(h:ox P H ρ o.op=some (v,H')):z9v P W g H (execOp r o) v H':=by
 have pure':∀{q:Option V},(q.map λv=>(v,H))=some (v,H')->q=some v∧H'=H:=λ{q} h=>by
  simp only[Qaf]at h;have⟨u,E,d⟩:=h;injection d with j A;exact⟨by rw[E,j],A.symm⟩
 unfold ox at h;split at h
 ·rename_i t d;unfold execOp;rw[d];exact ypt p h
 ·rename_i t x d;unfold execOp;rw[d];exact yyh p h (i x)
 ·rename_i t a x d;unfold execOp;rw[d];exact yqj p h (i a) (i x)
 ·rename_i t D d;unfold execOp;rw[d];exact yh9 p h (yau i D)
 ·rename_i t m k x d;unfold execOp;rw[d];exact zw9 p h (i m) (i k) (i x)
 ·rename_i t m k x d;unfold execOp;rw[d];exact zw9 p h (i m) (i k) (i x)
 ·rename_i t x d;unfold execOp;rw[d];exact ys9 p h (i x)
 ·rename_i x b d;unfold execOp;rw[d];exact ytw p h (i x)
 ·rename_i c d;split at h
  ·rename_i n;split at h
   ·rename_i s x t u e l;unfold execOp;rw[d];have:=ym1 (ty:=o.type) p h (i s) (i x);have⟨callee,args,argTypes⟩:=c;simp only at n e l;subst n;obtain rfl:=z0w e;obtain rfl:=z0w l;have⟨c,W',g',j,A,C,B⟩:=this;refine⟨c,W',g',?_,A,C,B⟩
    rcases j with j|⟨j,z⟩
    ·left;rw[<-j];simp[resolve,invoke,builtin]
    ·right;refine⟨?_,z⟩;rw[<-j];simp[resolve,invoke,builtin]
   ·cases h
  ·rename_i n;split at h
   ·rename_i s x t u e l;unfold execOp;rw[d];have:=ytm (u:=u) (ty:=o.type) p h (i s) (i x);have⟨callee,args,argTypes⟩:=c;simp only at n e l;subst n;obtain rfl:=z0w e;obtain rfl:=z0w l;have⟨c,W',g',j,A,C,B⟩:=this;refine⟨c,W',g',?_,A,C,B⟩
    rcases j with j|⟨j,z⟩
    ·left;rw[<-j];simp[resolve,invoke,builtin]
    ·right;refine⟨?_,z⟩;rw[<-j];simp[resolve,invoke,builtin]
   ·cases h
  ·obtain⟨j,rfl⟩:=pure' h;exact(y4k p i (o:=o) (v:=v) (by rw[d];exact j)).turns p
 ·obtain⟨j,rfl⟩:=pure' h;exact(y4k p i j).turns p
structure St where
 t:List V
 H:Heap
 d:List (Nat×List V)
 e0:Nat->Nat->Option yz5
def gv(k:Nat):V:=match gl k with
 |some cs=>.ref (cs.map λp=>.int p.1 p.2) 0
 |none=>.any
def z05t{W:World}{g:Gh}{H:Heap}(h:zno W g H)(k:Nat):Rel W g H (gv k) (.pointer (some ⟨k,0,none⟩)):=by
 unfold gv;split
 ·rename_i cs e;have⟨l,ty,q,i⟩:=h.1 k cs e;refine .ref _ 0 k 0 (λj=>(cs[j]?.map λp=>Value.int p.1 p.2).getD undef) (λ_=>l) (λj v b =>?_) (λj v b =>?_) (λj v b =>?_)
  ·rw[Qan]at b;simp only[Qaf]at b;obtain⟨p,d,rfl⟩:=b;simp[World.cell?,i,d]
  ·rw[Qan]at b;simp only[Qaf]at b;obtain⟨p,d,rfl⟩:=b;simp[d,Value.oneCell']
  ·rw[Qan]at b;simp only[Qaf]at b;obtain⟨p,d,rfl⟩:=b;simp only[d,Qbr,Option.getD_some];exact .int _ _
 ·exact .any _
def St.ev(σ:St):Operand->V
 |.tmp t=>σ.t.getD t .any
 |.const v=>ofConst v
 |.global k=>gv k
 |.func f=>.fn f [] []
def St.put(σ:St)(b:Option Nat)(v:V):St :=
 match b with
 |some d=>{σ with t:=σ.t.set d v}
 |none=>σ
structure kzu(W:World)(a:Act)(g:Gh)(σ:St):Prop where
 good:Good W g σ.H
 size:a.tmps.size=σ.t.length
 tmps:∀j v,σ.t[j]? = some v->Rel W g σ.H v (a.tmps.getD j undef)
 dlen:a.defers.length=σ.d.length
 defs:∀(j f:Nat) (vs:List V),σ.d[j]? = some (f,vs)->∃caps as,a.defers[j]? = some ⟨.fn (.func f) caps,as⟩∧zlt W g σ.H vs (as++caps)
def zlt.mono{W:World}{g:Gh}{H:Heap}{vs:List V}{cs:Array Value}(h:zlt W g H vs cs){W':World}{g':Gh}{H':Heap}(s:Step W g H W' g' H'):zlt W' g' H' vs cs:=⟨h.1,λj v b=>(h.2 j v b).mono s⟩
def kzu.ev{W:World}{a:Act}{g:Gh}{σ:St}(h:kzu W a g σ)(x:Operand):Rel W g σ.H (σ.ev x) (a.eval x):=by
 cases x with
 |tmp t=>
  simp only[St.ev,Act.eval]
  cases b:σ.t[t]? with
  |none=>rw[Qba,b];exact .any _
  |some v=>rw[Qba,b];exact h.tmps t v b
 |const v=>exact zph v
 |global k=>exact z05t h.good.y3r k
 |func f=>exact .fn f [] [] #[] #[] rfl rfl (by simp) (by simp)
def kzu.next{W:World}{a:Act}{g:Gh}{σ:St}(h:kzu W a g σ){W':World}{g':Gh}{H':Heap}(s:Step W g σ.H W' g' H')(q:Good W' g' H'){v:V}{c:Value}(p:Rel W' g' H' v c)(b:Option Nat) :
  kzu W' (a.put b c) g' ({σ with H:=H'}.put b v):=by
 have m:({σ with H:=H'}.put b v).H=H':=by cases b <;> rfl
 have o:({σ with H:=H'}.put b v).d=σ.d:=by cases b <;> rfl
 have k:(a.put b c).defers=a.defers:=by cases b <;> rfl
 refine⟨by rw[m];exact q,?_,?_,by rw[k,o];exact h.dlen,λj f vs e =>?_⟩
 ·cases b with
  |none=>exact h.size
  |some d=>simpa[Act.put,St.put]using h.size
 ·intro j u e;rw[m]
  cases b with
  |none=>exact(h.tmps j u e).mono s
  |some d=>
   simp only[St.put]at e;rw[Qbi]at e;simp only[Act.put,Qae,Array.getElem?_setIfInBounds];split at e
   ·rename_i i;subst i;split at e
    ·rename_i n;cases e;rw[Qbx rfl,Qbx (by rw[h.size];exact n)];exact p
    ·cases e
   ·rename_i i;rw[Qby i,<-Qae];exact(h.tmps j u e).mono s
 ·rw[o]at e;have⟨l,A,z,r⟩:=h.defs j f vs e;exact⟨l,A,by rw[k];exact z,by rw[m];exact r.mono s⟩
def y4b(P:Program)(f:Nat)(args:List V)(H:Heap)(r:V)(H':Heap):Prop :=
 ∀(W:World) (g:Gh) (b:Array Value),Good W g H->zlt W g H args b ->
  ((callFunc f b).run P W = .ok (.enter f b) W∧Calls P f b W (λe W'=>∃c g',e = .returned c∧Step W g H W' g' H'∧Good W' g' H'∧Rel W' g' H' r c)) ∨
  ∃c W' g',(callFunc f b).run P W = .ok (.value c) W'∧Step W g H W' g' H'∧Good W' g' H'∧Rel W' g' H' r c
structure Claim where
 f:Nat
 args:List V
 H:Heap
 r:V
 H':Heap
def Claim.ok(P:Program)(c:Claim):Prop:=y4b P c.f c.args c.H c.r c.H'
def z08(ops:Array Oper)(σ:St)(o:Oper):Option Bool :=
 match o.guard with
 |none=>some true
 |some (j,want)=>match (ops[j]?).bind (·.dst)with
  |some d=>match σ.t.getD d .any with
   |.bool b=>some (b==want)
   |.tup _=>some false
   |_=>none
  |none=>none
def z0z{W:World}{a:Act}{g:Gh}{σ:St}(h:kzu W a g σ){ops:Array Oper}{o:Oper}{b:Bool}(l:z08 ops σ o=some b):Region.wanted o (yielded ops a.tmps)=b:=by
 unfold z08 at l;unfold Region.wanted;split at l
 ·rename_i p;rw[p];injection l
 ·rename_i j want p;rw[p];split at l
  ·rename_i d u;split at l
   ·rename_i s m;cases l
    have e:d<σ.t.length:=by
     rcases Nat.lt_or_ge d σ.t.length with q|q
     ·exact q
     ·rw[Qba,Qcf q]at m;simp at m
    have i:=h.tmps d _ (Qab e);have n:σ.t[d] = .bool s:=by rw[Qba,Qab e]at m;simpa using m
    rw[n]at i;have k:d<a.tmps.size:=by rw[h.size];exact e
    rw[Qae,Qas k]at i;simp only[Option.getD_some]at i;generalize r:a.tmps[d]=c at i;cases i
    have:yielded ops a.tmps j=some s:=by
     unfold yielded;rw[u];simp[k,r]
    simp only[this];cases s <;> cases want <;> rfl
   ·rename_i vs m;cases l
    have e:d<σ.t.length:=by
     rcases Nat.lt_or_ge d σ.t.length with q|q
     ·exact q
     ·rw[Qba,Qcf q]at m;simp at m
    have i:=h.tmps d _ (Qab e);have n:σ.t[d] = .tup vs:=by rw[Qba,Qab e]at m;simpa using m
    rw[n]at i;have k:d<a.tmps.size:=by rw[h.size];exact e
    rw[Qae,Qas k]at i;simp only[Option.getD_some]at i;generalize r:a.tmps[d]=c at i;cases i
    have:yielded ops a.tmps j=none:=by
     unfold yielded;rw[u];simp[k,r]
    simp only[this];rfl
   ·cases l
  ·cases l
def target(ρ:Operand->V)(c:Call):Option (Nat×List V) :=
 match c.callee with
 |.value f=>match ρ f with
  |.fn f first b=>some (f,first++c.args.toList.map ρ++b)
  |_=>none
 |_=>none
def y2f(P:Program)(ops:Array Oper):List Oper->List (V×Option Heap)->St->Option (St×List (V×Option Heap)×List Claim)
 |[],d,σ=>some (σ,d,[])
 |o::rest,d,σ=>
  match z08 ops σ o with
  |none=>none
  |some b=>if b then
    (match ox P σ.H σ.ev o.op with
    |some (v,H')=>y2f P ops rest d ({σ with H:=H'}.put o.dst v)
    |none=>match o.op with
     |.call c=>match target σ.ev c,d with
      |some (f,args),(r,H')::e=>match y2f P ops rest e ({σ with H:=H'.getD σ.H}.put o.dst r)with
       |some (σ',l,cl)=>some (σ',l,⟨f,args,σ.H,r,H'.getD σ.H⟩::cl)
       |none=>none
      |_,_=>none
     |_=>none)
   else y2f P ops rest d (σ.put o.dst (.tup []))
end
def yfz(o:Oper):Bool:=match o.op with
 |.defer _=>false
 |_=>true
def calm:Code->Bool
 |.region _ ops _=>ops.toList.all yfz
 |.seq a b=>calm a&&calm b
 |.cond _ a b=>calm a&&calm b
 |.block _ a=>calm a
 |.loop a=>calm a
 |.skip=>true
 |.exit _=>true
 |.ret=>true
 |_=>false
abbrev rF(r:Option Nat):Fence:={Fence.wide with round:=r}
def wpR(P:Program)(c:Code)(Q:Exit->Act->World->Prop)(a:Act)(w:World):Prop :=
 ∀r:Option Nat,(r=none∨calm c=true)->∀n,c.wpIn (rF r) n P Q a w
section
variable {P:Program}{Q Q':Exit → Act → World → Prop}{a:Act}{w:World}{x y c:Code}
def wpR.wp(h:wpR P c Q a w):c.wp P Q a w:=(wpIn_wide (n:=0)).1 (h none (.inl rfl) 0)
def zwu(h:wpR P c Q a w)(d:∀e a w,Q e a w->Q' e a w):wpR P c Q' a w:=λr b n=>wpIn_mono (h r b n) d
def z03n(h:Q .normal a w):wpR P .skip Q a w:=λr _ n=>wpIn_skip h
def z00v{id:Nat}(h:Q (.exit id) a w):wpR P (.exit id) Q a w:=λr _ n=>wpIn_exit h
def z04p(h:Q .ret a w):wpR P .ret Q a w:=λr _ n=>wpIn_ret h
def z04s(h:wpR P x (Exit.then (wpR P y Q) Q) a w):wpR P (.seq x y) Q a w:=λr b n=>by
 have j:r=none∨calm x=true:=b.imp_right λh=>by simp only[calm,Qag]at h;exact h.1
 have i:r=none∨calm y=true:=b.imp_right λh=>by simp only[calm,Qag]at h;exact h.2
 refine wpIn_seq (wpIn_mono (h r j n) λe a w d =>?_)
 cases e with
 |normal=>exact d r i n
 |_=>exact d
def ybq{o:Operand}{t:Bool}(l:a.eval o = .bool t)(j:t=true->wpR P x Q a w)(k:t=false->wpR P y Q a w):wpR P (.cond o x y) Q a w:=λr b n=>by
 have i:r=none∨calm x=true:=b.imp_right λh=>by simp only[calm,Qag]at h;exact h.1
 have d:r=none∨calm y=true:=b.imp_right λh=>by simp only[calm,Qag]at h;exact h.2
 exact wpIn_cond_split l (λe=>j e r i n) λe=>k e r d n
def ywb{id:Nat}(h:wpR P c (Exit.inBlock id Q) a w):wpR P (.block id c) Q a w:=λr b n=>wpIn_block (h r (b.imp_right λh=>h) n)
def z04c{o:Oper}{r:Option Nat}{n:Nat}{next next':Act->World->Prop}(j:∀a w,next a w->next' a w)(p:∀a w,¬Q .outgrown a w){d:Result Next}(h:o.upon P a next Q d):o.uponIn (rF r) n P a next' Q d:=by
 have q:¬LetsOut Q:=λ⟨a,w,h⟩=>p a w h
 cases d with
 |ok x i=>
  cases x <;> simp only[Oper.upon,Oper.uponIn]at h ⊢
  case enter f args=>
   refine⟨λh=>(by cases h),?_⟩
   have m:=CallsIn.mono ((callsIn_wide (n:=n-1)).2 h) (R':=λe b=>match e,b with
    |.returned v,b=>next' (a.put o.dst v) b
    |.panicked chain,b=>Q (.panic chain) a b
    |.outgrown,_=>LetsOut Q) λe b k=>by cases e <;> first|exact j _ _ k|exact k
   cases r with
   |none=>exact m
   |some l=>exact CallsIn.inRound l m
  case row row args=>
   exact⟨λh=>(by cases h),λc cs _=>let ⟨v,i,r,s⟩:=h c cs;⟨v,i,j _ _ r,stepsIn_wide.2 s⟩⟩
  all_goals first|exact j _ _ h|exact h
 |halt x i=>
  cases x <;> simp only[Oper.upon,Oper.uponIn]at h ⊢ <;> exact h
def z00w{o:Oper}{ρ:Operand->Value}{r:Option Nat}(h:r=none∨yfz o=true):o.semAt r ρ=execOp ρ o:=by
 rcases h with rfl|h
 ·simp[Oper.semAt]
 ·exact Oper.semAt_plain (rF r) ρ o λc e=>by rw[yfz,e]at h;cases h
def zyd{ops:Array Oper}{r:Option Nat}{n:Nat}(d:r=none∨ops.toList.all yfz=true)(b:∀a w,¬Q .outgrown a w):∀(l:List Nat) (a:Act) (w:World),wpOps P ops Q l a w->wpOpsIn (rF r) n P ops Q l a w
 |[],a,w,h=>h
 |i::rest,a,w,h=>by
  have k:¬LetsOut Q:=λ⟨a,w,h⟩=>b a w h
  simp only[wpOps,wpOpsIn]at h ⊢;split at h
  ·rename_i e;rw[e];exact zyd d b rest a w h
  ·rename_i o e;rw[e];simp only
   have m:r=none∨yfz o=true:=d.imp_right λh=>Qat.1 h o (by
    have⟨q,p⟩:=Qbn.1 e
    rw[<-p];exact Array.getElem_mem_toList _)
   split at h
   ·rename_i j;rw[Qbx j]
    rcases h with h|⟨_,h⟩
    ·refine⟨λf _=>trivial,?_⟩;rw[show(rF r).round=r from rfl,z00w m];exact z04c (λa w=>zyd d b rest a w) b h
    ·exact(k h).elim
   ·rename_i j;rw[Qby j];exact⟨λf _=>trivial,zyd d b rest _ w h⟩
def ysn{id:Nat}{ops:Array Oper}(d:∀a w,¬Q .outgrown a w)(h:wpOps P ops Q (List.range ops.size) a w):wpR P (.region id ops false) Q a w:=λr b n=>
 wpIn_region (zyd (b.imp_right λh=>h) d _ _ _ h)
def zjq{id:Nat}{ops:Array Oper}(d:∀a w,¬Q .outgrown a w)(e:P.follows .mixedOrders=true)(h:wpAny P .any ops Q ops.size (Array.replicate ops.size false) a {w with drawn:=w.drawn+1}) :
  wpR P (.region id ops true) Q a w:=λr b n=>
 wpIn_region_draw λt=>by
  simp only[Region.schedule,e,Bool.true_or,if_true];exact zyd (b.imp_right λh=>h) d _ _ _ (wpAny_sound ops.size t _ a _ h)
def y2h(P:Program)(c:Code)(Q:Exit->Act->World->Prop)(a:Act)(w:World):Prop :=
 ∀r:Option Nat,(r=none∨calm c=true)->∀n,∀(b:Frame) (k:List Item) (cs:List Frame),b.roundOf=r->(rF r).room (cs.length+1+n) ->
  ∃e h d,Q e h d∧ArrivesIn (Machine.fenced P (rF r)) P (lone (b.atR a (.code c :: .inLoop c::k)) cs w) b k cs e h d
def y2h.wp(h:y2h P c Q a w):wpR P (.loop c) Q a w:=λr m n b k cs j q d=>by
 have⟨e,p,l,o,i⟩:=h r (m.imp_right λh=>h) n b k cs j d;exact⟨e,p,l,o,.of_steps (.one (fenced_calm (n:=n) trivial d rfl) stepR_loop) i⟩
def y2h.round(h:wpR P c (Exit.then (y2h P c Q) Q) a w):y2h P c Q a w:=λr u n b k cs q i=>by
 have⟨e,p,o,m,d⟩:=h r u n b (.inLoop c::k) cs q trivial i
 cases e with
 |normal=>
  have⟨A,B,z,s,j⟩:=m r u n b k cs q i
  exact⟨A,B,z,s,.of_steps (StepsIn.trans d (.one (fenced_calm (n:=n) trivial i rfl) stepR_inLoop)) j⟩
 |exit id=>exact⟨_,p,o,m,.pass (x:=.inLoop c) rfl (λ_ _=>.inl (by simp)) d⟩
 |goto l=>exact⟨_,p,o,m,.pass (x:=.inLoop c) rfl (λ_ _=>.inl (by simp)) d⟩
 |ret=>exact⟨_,p,o,m,.pass (x:=.inLoop c) rfl (λ_ _=>.inl (by simp)) d⟩
 |panic C=>exact⟨_,p,o,m,.pass (x:=.inLoop c) rfl (λ_ _=>.inl (by simp)) d⟩
 |outgrown=>exact⟨_,p,o,m,.pass (x:=.inLoop c) rfl (λ_ _=>.inl (by simp)) d⟩
end
section
variable {P:Program}
def zq6{W:World}{g:Gh}{H:Heap}{xs i:List V}{a b:Array Value}(h:zlt W g H xs a)(k:zlt W g H i b):zlt W g H (xs++i) (a++b):=by
 refine⟨by simp[h.1,k.1],λj v d =>?_⟩;rw[Qbe]at d;split at d
 ·rename_i e;rw[z4i (by rw[h.1];exact e)];exact h.2 j v d
 ·rename_i l;have:j=a.size+(j-xs.length):=by rw[h.1];omega
  rw[this,zjw];exact k.2 _ v d
def zgh{W:World}{g:Gh}{H:Heap}{ρ:Operand->V}{r:Operand->Value}(j:∀x,Rel W g H (ρ x) (r x)){c:Call}{ty:TypeId}{f:Nat}{args:List V}(h:target ρ c=some (f,args)) :
  ∃b,zlt W g H args b∧∀w:World,(do let d <-resolve r c ty;invoke d.target d.args:Sem Next).run P w=(callFunc f b).run P w:=by
 unfold target at h;split at h
 ·rename_i k s;split at h
  ·rename_i A first l q;cases h;have e:=j k;rw[q]at e;generalize i:r k=z at e
   cases e with
   |fn _ _ _ u cs p o n m=>
    refine⟨u++c.args.map r++cs,zq6 (zq6 ⟨p,n⟩ (zws j c.args)) ⟨o,m⟩,λw =>?_⟩;simp[resolve,s,i,Deferred.ofValue,invoke]
  ·cases h
 ·cases h
inductive kze where
 |normal
 |exit (id:Nat)
 |ret
 |panic (v:V)
inductive yy2 (W:World) (g:Gh) (H:Heap):Exit->kze->Prop where
 |normal:yy2 W g H .normal .normal
 |exit (id:Nat):yy2 W g H (.exit id) (.exit id)
 |ret:yy2 W g H .ret .ret
 |panic (v:V) (c:Value) (h:Rel W g H v c):yy2 W g H (.panic [{v:=c,recovered:=false}]) (.panic v)
def yjl(W0:World)(g0:Gh)(H0:Heap)(Q:kze->St->Prop)(e:Exit)(a:Act)(W:World):Prop :=
 ∃g σ b,yy2 W g σ.H e b∧(σ.e0=H0.E∧Step W0 g0 H0 W g σ.H)∧kzu W a g σ∧Q b σ
structure Base(W0:World)(g0:Gh)(H0:Heap):Prop where
 good:Good W0 g0 H0
def zv9{ops:Array Oper}{Q:Exit->Act->World->Prop}{W0:World}{g0:Gh}{H0:Heap}:∀(l:List Oper) (k:Nat) (i rest:List (V×Option Heap)) (σ σ':St) (cl:List Claim) (W:World) (a:Act) (g:Gh),
  (∀j,l[j]? = ops[k+j]?)->y2f P ops l i σ=some (σ',rest,cl)->(∀c∈cl,c.ok P)->kzu W a g σ->(σ.e0=H0.E∧Step W0 g0 H0 W g σ.H) ->
  (∀W' Y g',(σ'.e0=H0.E∧Step W0 g0 H0 W' g' σ'.H)->kzu W' Y g' σ'->Q .normal Y W')->wpOps P ops Q (List.range' k l.length) a W
 |[],k,i,rest,σ,σ',cl,W,a,g,K,h,z,d,s,A=>by
  simp only[y2f,Qbu,Qbz]at h;obtain⟨rfl,_,_⟩:=h
  exact A W a g s d
 |o::l,k,i,rest,σ,σ',cl,W,a,g,K,h,z,d,s,A=>by
  have ho:ops[k]? = some o:=by simpa using(K 0).symm
  have u:∀j,l[j]? = ops[k+1+j]? := λj=>by have:=K (j+1);simpa[Nat.add_assoc,Nat.add_comm 1 j]using this
  simp only[List.length_cons,List.range'_succ,wpOps,ho];simp only[y2f]at h;split at h
  ·cases h
  ·rename_i b hw;rw[z0z d hw];split at h
   ·rename_i L;subst L;rw[Qbx rfl];left;unfold Oper.wp;split at h
    ·rename_i v H' C;have⟨c,W',g',B,h2,h3,h4⟩:=ybf (P:=P) (r:=a.eval) d.good d.ev C
     have m:=zv9 l (k+1) i rest _ σ' cl W' (a.put o.dst c) g' u h z (d.next h2 h3 h4 o.dst) (by
      have:({σ with H:=H'}.put o.dst v).H=H':=by cases o.dst <;> rfl
      have q:({σ with H:=H'}.put o.dst v).e0=σ.e0:=by cases o.dst <;> rfl
      rw[this,q];exact⟨s.1,s.2.trans h2⟩) A
     rcases B with B|⟨B,rfl⟩
     ·rw[B];exact m
     ·rw[B];exact m
    ·rename_i C;split at h
     ·rename_i call O;split at h
      ·rename_i f args r H' G ht;split at h
       ·rename_i σ1 l1 h5 F;simp only[Qbu,Qbz]at h;obtain⟨rfl,rfl,rfl⟩:=h;have⟨p,k1,Z⟩:=zgh (P:=P) (ty:=o.type) d.ev ht;have T:=z _ (.head _)
        have D:(execOp a.eval o).run P W=(callFunc f p).run P W:=by
         rw[<-Z W];unfold execOp;rw[O]
        have n:∀c W' g',Step W g σ.H W' g' (H'.getD σ.H)->Good W' g' (H'.getD σ.H)->Rel W' g' (H'.getD σ.H) r c->wpOps P ops Q (List.range' (k+1) l.length) (a.put o.dst c) W':=λc W' g' s1 J I=>
         zv9 l (k+1) G _ _ _ _ W' (a.put o.dst c) g' u F (λc U=>z c (.tail _ U)) (d.next s1 J I o.dst) (by
          have:({σ with H:=H'.getD σ.H}.put o.dst r).H=H'.getD σ.H:=by cases o.dst <;> rfl
          have q:({σ with H:=H'.getD σ.H}.put o.dst r).e0=σ.e0:=by cases o.dst <;> rfl
          rw[this,q];exact⟨s.1,s.2.trans s1⟩) A
        rcases T W g p d.good k1 with ⟨N,M⟩|⟨c,W',g',N,M,e3,e4⟩
        ·rw[D,N];refine M.mono λe W' ⟨c,g',q,s1,J,I⟩ =>?_
         subst q;exact n c W' g' s1 J I
        ·rw[D,N];exact n c W' g' M e3 e4
       ·cases h
      ·cases h
     ·cases h
   ·rename_i L;have X:b=false:=by simpa using L
    subst X;rw[Qby (by simp)];have R:=d.next (.refl W g σ.H) d.good (v:=.tup []) (c:=undef) (.tup [] #[] rfl (by simp)) o.dst
    exact zv9 l (k+1) i rest _ σ' cl W (a.put o.dst undef) g u h z R (by
     have:(σ.put o.dst (.tup [])).H=σ.H:=by cases o.dst <;> rfl
     have q:(σ.put o.dst (.tup [])).e0=σ.e0:=by cases o.dst <;> rfl
     rw[this,q];exact s) A
def y07{ops:Array Oper}{Q:Exit->Act->World->Prop}(more:List Nat){W0:World}{g0:Gh}{H0:Heap}:∀(l:List Oper) (k:Nat) (i rest:List (V×Option Heap)) (σ σ':St) (cl:List Claim) (W:World) (a:Act) (g:Gh),
  (∀j,j<l.length->l[j]? = ops[k+j]?)->y2f P ops l i σ=some (σ',rest,cl)->(∀c∈cl,c.ok P)->kzu W a g σ->(σ.e0=H0.E∧Step W0 g0 H0 W g σ.H) ->
  (∀W' Y g',(σ'.e0=H0.E∧Step W0 g0 H0 W' g' σ'.H)->kzu W' Y g' σ'->wpOps P ops Q more Y W')->wpOps P ops Q (List.range' k l.length++more) a W
 |[],k,i,rest,σ,σ',cl,W,a,g,K,h,z,d,s,A=>by
  simp only[y2f,Qbu,Qbz]at h;obtain⟨rfl,_,_⟩:=h
  simpa using A W a g s d
 |o::l,k,i,rest,σ,σ',cl,W,a,g,K,h,z,d,s,A=>by
  have ho:ops[k]? = some o:=by simpa using(K 0 (by simp)).symm
  have u:∀j,j<l.length->l[j]? = ops[k+1+j]? := λj hj=>by have:=K (j+1) (by simp;omega);simpa[Nat.add_assoc,Nat.add_comm 1 j]using this
  simp only[List.length_cons,List.range'_succ,List.cons_append,wpOps,ho];simp only[y2f]at h;split at h
  ·cases h
  ·rename_i b hw;rw[z0z d hw];split at h
   ·rename_i L;subst L;rw[Qbx rfl];left;unfold Oper.wp;split at h
    ·rename_i v H' C;have⟨c,W',g',B,h2,h3,h4⟩:=ybf (P:=P) (r:=a.eval) d.good d.ev C
     have m:=y07 more l (k+1) i rest _ σ' cl W' (a.put o.dst c) g' u h z (d.next h2 h3 h4 o.dst) (by
      have:({σ with H:=H'}.put o.dst v).H=H':=by cases o.dst <;> rfl
      have q:({σ with H:=H'}.put o.dst v).e0=σ.e0:=by cases o.dst <;> rfl
      rw[this,q];exact⟨s.1,s.2.trans h2⟩) A
     rcases B with B|⟨B,rfl⟩
     ·rw[B];exact m
     ·rw[B];exact m
    ·rename_i C;split at h
     ·rename_i call O;split at h
      ·rename_i f args r H' G ht;split at h
       ·rename_i σ1 l1 h5 F;simp only[Qbu,Qbz]at h;obtain⟨rfl,rfl,rfl⟩:=h;have⟨p,k1,Z⟩:=zgh (P:=P) (ty:=o.type) d.ev ht;have T:=z _ (.head _)
        have D:(execOp a.eval o).run P W=(callFunc f p).run P W:=by
         rw[<-Z W];unfold execOp;rw[O]
        have n:∀c W' g',Step W g σ.H W' g' (H'.getD σ.H)->Good W' g' (H'.getD σ.H)->Rel W' g' (H'.getD σ.H) r c->wpOps P ops Q (List.range' (k+1) l.length++more) (a.put o.dst c) W':=λc W' g' s1 J I=>
         y07 more l (k+1) G _ _ _ _ W' (a.put o.dst c) g' u F (λc U=>z c (.tail _ U)) (d.next s1 J I o.dst) (by
          have:({σ with H:=H'.getD σ.H}.put o.dst r).H=H'.getD σ.H:=by cases o.dst <;> rfl
          have q:({σ with H:=H'.getD σ.H}.put o.dst r).e0=σ.e0:=by cases o.dst <;> rfl
          rw[this,q];exact⟨s.1,s.2.trans s1⟩) A
        rcases T W g p d.good k1 with ⟨N,M⟩|⟨c,W',g',N,M,e3,e4⟩
        ·rw[D,N];refine M.mono λe W' ⟨c,g',q,s1,J,I⟩ =>?_
         subst q;exact n c W' g' s1 J I
        ·rw[D,N];exact n c W' g' M e3 e4
       ·cases h
      ·cases h
     ·cases h
   ·rename_i L;have X:b=false:=by simpa using L
    subst X;rw[Qby (by simp)];have R:=d.next (.refl W g σ.H) d.good (v:=.tup []) (c:=undef) (.tup [] #[] rfl (by simp)) o.dst
    exact y07 more l (k+1) i rest _ σ' cl W (a.put o.dst undef) g u h z R (by
     have:(σ.put o.dst (.tup [])).H=σ.H:=by cases o.dst <;> rfl
     have q:(σ.put o.dst (.tup [])).e0=σ.e0:=by cases o.dst <;> rfl
     rw[this,q];exact s) A
def zvm:∀c∈([]:List Claim),c.ok P:=by simp
def zpx{c:Claim}{l:List Claim}(h:y4b P c.f c.args c.H c.r c.H')(r:∀c∈l,c.ok P):∀d∈c::l,d.ok P:=λd b=>by
 cases b with
 |head=>exact h
 |tail _ b=>exact r d b
def zwo{W0:World}{g0:Gh}{H0:Heap}{Q:kze->St->Prop}(a:Act)(w:World):¬yjl W0 g0 H0 Q .outgrown a w:=λ⟨_,_,_,h,_⟩=>by cases h
def Sat(P:Program)(c:Code)(σ:St)(Q:kze->St->Prop):Prop :=
 ∀W0 g0 H0 W a g,Base W0 g0 H0->(σ.e0=H0.E∧Step W0 g0 H0 W g σ.H)->kzu W a g σ->wpR P c (yjl W0 g0 H0 Q) a W
def Sat.mono{c:Code}{σ:St}{Q Q':kze->St->Prop}(h:Sat P c σ Q)(b:∀e σ,Q e σ->Q' e σ):Sat P c σ Q' :=
 λW0 g0 H0 W a g j d i=>zwu (h W0 g0 H0 W a g j d i) λe a w ⟨g,σ,o,n,m,l,k⟩=>⟨g,σ,o,n,m,l,b _ _ k⟩
def z008{σ:St}{Q:kze->St->Prop}(h:Q .normal σ):Sat P .skip σ Q:=λ_ _ _ _ _ g _ b d=>z03n ⟨g,σ,.normal,.normal,b,d,h⟩
def z02q{id:Nat}{σ:St}{Q:kze->St->Prop}(h:Q (.exit id) σ):Sat P (.exit id) σ Q:=λ_ _ _ _ _ g _ b d=>z00v ⟨g,σ,.exit id,.exit id,b,d,h⟩
def z050{σ:St}{Q:kze->St->Prop}(h:Q .ret σ):Sat P .ret σ Q:=λ_ _ _ _ _ g _ b d=>z04p ⟨g,σ,.ret,.ret,b,d,h⟩
def kze.then(next:St->Prop)(Q:kze->St->Prop):kze->St->Prop
 |.normal,σ=>next σ
 |e,σ=>Q e σ
def z04x{x y:Code}{σ:St}{Q:kze->St->Prop}(h:Sat P x σ (kze.then (λσ'=>Sat P y σ' Q) Q)):Sat P (.seq x y) σ Q:=λW0 g0 H0 W a g j l m=>by
 refine z04s (zwu (h W0 g0 H0 W a g j l m) λe a w ⟨g,σ,o,n,i,d,b⟩ =>?_)
 cases n with
 |normal=>exact b W0 g0 H0 w a g j i d
 |exit id=>exact⟨g,σ,_,.exit id,i,d,b⟩
 |ret=>exact⟨g,σ,_,.ret,i,d,b⟩
 |panic v c k=>exact⟨g,σ,_,.panic v c k,i,d,b⟩
def yq7{c:Operand}{x y:Code}{σ:St}{Q:kze->St->Prop}{b:Bool}(l:σ.ev c = .bool b)(n:b=true->Sat P x σ Q)(m:b=false->Sat P y σ Q):Sat P (.cond c x y) σ Q:=λW0 g0 H0 W a g k j e=>by
 have d:=e.ev c;rw[l]at d;generalize i:a.eval c=o at d;cases d;exact ybq i (λh=>n h W0 g0 H0 W a g k j e) (λh=>m h W0 g0 H0 W a g k j e)
def z00g(b:Bool)(x y:Prop):Prop:=match b with
 |true=>x
 |false=>y
def kze.inBlock(id:Nat)(Q:kze->St->Prop):kze->St->Prop
 |.exit b,σ=>z00g (Nat.beq b id) (Q .normal σ) (Q (.exit b) σ)
 |e,σ=>Q e σ
def yxs{id:Nat}{c:Code}{σ:St}{Q:kze->St->Prop}(h:Sat P c σ (kze.inBlock id Q)):Sat P (.block id c) σ Q:=λW0 g0 H0 W a g o m n=>by
 refine ywb (zwu (h W0 g0 H0 W a g o m n) λe a w ⟨g,σ,q,p,j,i,d⟩ =>?_)
 cases p with
 |normal=>exact⟨g,σ,_,.normal,j,i,d⟩
 |exit b=>
  simp only[kze.inBlock]at d;simp only[Exit.inBlock];split
  ·rename_i k;rw[show Nat.beq b id=true from by rw[k];exact Nat.beq_refl id]at d;exact⟨g,σ,_,.normal,j,i,d⟩
  ·rename_i k
   rw[show Nat.beq b id=false from by
    cases h:Nat.beq b id with
    |false=>rfl
    |true=>exact absurd (Qaj h) k]at d
   exact⟨g,σ,_,.exit b,j,i,d⟩
 |ret=>exact⟨g,σ,_,.ret,j,i,d⟩
 |panic v c l=>exact⟨g,σ,_,.panic v c l,j,i,d⟩
end
inductive VLe:V->V->Prop where
 |refl (v:V):VLe v v
 |any (v:V):VLe v .any
 |nil (sz:Nat) (b:Bool):VLe .nils (.sl sz [] b)
 |full (sz:Nat) (xs:List V):VLe (.sl sz xs true) (.sl sz xs false)
 |agg (vs us:List V) (hn:vs.length=us.length) (h:∀(j:Nat) (v u:V),vs[j]? = some v->us[j]? = some u->VLe v u):VLe (.agg vs) (.agg us)
 |tup (vs us:List V) (hn:vs.length=us.length) (h:∀(j:Nat) (v u:V),vs[j]? = some v->us[j]? = some u->VLe v u):VLe (.tup vs) (.tup us)
inductive y9b:List V->List V->Prop where
 |nil:y9b [] []
 |cons {v u:V} {vs us:List V}(h:VLe v u) (r:y9b vs us):y9b (v::vs) (u::us)
def y9b.length{vs b:List V}(h:y9b vs b):vs.length=b.length:=by induction h <;> simp_all
def y9b.get{vs e:List V}(h:y9b vs e):∀(j:Nat) (v u:V),vs[j]? = some v->e[j]? = some u->VLe v u:=by
 induction h with
 |nil=>intro j v u b;simp at b
 |cons h r i=>
  intro j v u b d
  cases j with
  |zero=>simp at b d;subst b;subst d;exact h
  |succ j=>exact i j v u (by simpa using b) (by simpa using d)
def y9b.refl:∀vs:List V,y9b vs vs
 |[]=>.nil
 |v::vs=>.cons (.refl v) (y9b.refl vs)
def VLe.agg'{vs b:List V}(h:y9b vs b):VLe (.agg vs) (.agg b):=.agg _ _ h.length h.get
def VLe.tup'{vs b:List V}(h:y9b vs b):VLe (.tup vs) (.tup b):=.tup _ _ h.length h.get
def VLe.rel{v u:V}(h:VLe v u){W:World}{g:Gh}{H:Heap}:∀{c:Value},Rel W g H v c->Rel W g H u c:=by
 induction h with
 |refl v=>exact λh=>h
 |any v=>exact λ_=>.any _
 |nil sz b=>intro c h;cases h;exact .slnil _ _
 |full sz xs=>
  intro c h
  cases h with
  |slnil=>exact .slnil _ _
  |sle _ _ a i A=>exact .sle _ _ a i (by simp)
  |sl _ _ _ b o i c B s m A p l q k=>exact .sl _ _ _ b o i c B s m (by simp) p l q k
 |agg vs r z h n=>
  intro c l
  cases l with
  |agg _ cs p q k=>
   have get:∀j u,r[j]? = some u->∃v,vs[j]? = some v:=λj u d=>by
    have:=(Qaa.1 d).1;exact⟨_,Qab (by omega)⟩
   refine .agg _ cs (by omega) (λj u d =>?_) (λj u d =>?_)
   ·have⟨v,e⟩:=get j u d;exact q j v e
   ·have⟨v,e⟩:=get j u d;exact n j v u e d (k j v e)
 |tup vs r z h n=>
  intro c l
  cases l with
  |tup _ cs p k=>
   refine .tup _ cs (by omega) (λj u d =>?_);have C:=(Qaa.1 d).1;have e:vs[j]? = some (vs[j]'(by omega)):=Qab _;exact n j _ u e d (k j _ e)
mutual
def V.kin(D:Nat->Nat->Prop):V->Prop
 |.ptr l i _=>D l i
 |.ref cs _=>V.zb1 D cs
 |.ap l i _ _ _=>D l i
 |.sl _ xs _=>V.zb1 D xs
 |.hs l i _ _ _ _=>D l i
 |.map l i=>D l i
 |.fn _ a b=>V.zb1 D a∧V.zb1 D b
 |.iface _ v=>V.kin D v
 |.agg cs=>V.zb1 D cs
 |.tup vs=>V.zb1 D vs
 |_=>True
def V.zb1(D:Nat->Nat->Prop):List V->Prop
 |[]=>True
 |v::vs=>V.kin D v∧V.zb1 D vs
end
def zbe{D:Nat->Nat->Prop}:∀{vs:List V},V.zb1 D vs->∀(j:Nat) (v:V),vs[j]? = some v->V.kin D v
 |[],_,j,v,b=>by simp at b
 |u::d,h,0,v,b=>by simp at b;subst b;simp only[V.zb1]at h;exact h.1
 |u::d,h,j+1,v,b=>by simp only[V.zb1]at h;exact zbe h.2 j v (by simpa using b)
def zf2{D:Nat->Nat->Prop}:∀{vs:List V},(∀v∈vs,V.kin D v)->V.zb1 D vs
 |[],_=>by simp[V.zb1]
 |u::d,h=>by simp only[V.zb1];exact⟨h u (.head _),zf2 λv b=>h v (.tail _ b)⟩
def zt0{D:Nat->Nat->Prop}{x:V}(h:V.kin D x):V.zb1 D x.cells:=by
 cases x <;> simp_all[V.kin,V.cells,V.zb1]
def Rel.restrict{W:World}{g g':Gh}{H H':Heap}{D:Nat->Nat->Prop}(q:∀l i,D l i->g.dom l i->g'.dom l i)(E:∀l i,D l i->g'.blk l i=g.blk l i)(K:∀l i,D l i->g'.ab l i=g.ab l i)(A:∀l i,D l i->g'.cap l i=g.cap l i)
  (p:∀l i,D l i->H'.get l i=H.get l i) (z:∀b,Own g' H' b->Own g H b) {v:V}{c:Value}(h:Rel W g H v c):V.kin D v->Rel W g' H' v c:=by
 induction h with
 |any c=>exact λ_=>.any c
 |bool b=>exact λ_=>.bool b
 |int k n=>exact λ_=>.int k n
 |str s=>exact λ_=>.str s
 |nilp=>exact λ_=>.nilp
 |ptr l i e F=>intro k;simp only[V.kin]at k;rw[<-E l i k];exact .ptr l i e (q l i k F)
 |ref cs e b o c J O G M B=>intro k;simp only[V.kin]at k;exact .ref cs e b o c (λX C=>J X (z b C)) O G (λj v d=>B j v d (zbe k j v d))
 |ap l i I U e a F L R=>
  intro k;simp only[V.kin]at k;refine .ap l i I U e a (q l i k F) (λv ty sz xs T r =>?_) λty sz xs T r =>?_
  ·rw[p l i k]at r;exact L _ _ _ _ _ r
  ·rw[p l i k]at r;rw[K l i k];exact R _ _ _ _ r
 |nils=>exact λ_=>.nils
 |slnil sz full=>exact λ_=>.slnil sz full
 |sle sz full a u N=>exact λ_=>.sle sz full a u N
 |sl sz xs full b o u c J hz A N hs O G M B=>
  intro k;simp only[V.kin]at k
  exact .sl sz xs full b o u c (λC=>J (z b C)) hz A N hs O G (λj x t v d ht=>B j x t v d ht (zbe (zt0 (zbe k j x d)) t v ht))
 |hs l i I e n full a m u F L R=>
  intro k;simp only[V.kin]at k;refine .hs l i I e n full a m u (q l i k F) (λv ty sz xs T r =>?_) λty sz xs T r =>?_
  ·rw[p l i k]at r;exact L _ _ _ _ _ r
  ·rw[p l i k]at r;rw[K l i k,A l i k];exact R _ _ _ _ r
 |mapn=>exact λ_=>.mapn
 |mapc es b en clock J hw he=>exact λ_=>.mapc es b en clock (λC=>J (z b C)) hw he
 |map l i F=>intro k;simp only[V.kin]at k;rw[<-E l i k];exact .map l i (q l i k F)
 |fn f fs cs Y Z G h2 r1 r2 i1 i2=>intro k;simp only[V.kin]at k;exact .fn f fs cs Y Z G h2 (λj v d=>i1 j v d (zbe k.1 j v d)) (λj v d=>i2 j v d (zbe k.2 j v d))
 |nilf=>exact λ_=>.nilf
 |iface t v c h B=>intro k;simp only[V.kin]at k;exact .iface t v c (B k)
 |nili=>exact λ_=>.nili
 |agg vs cs C G M B=>intro k;simp only[V.kin]at k;exact .agg vs cs C G (λj v d=>B j v d (zbe k j v d))
 |tup vs cs C M B=>intro k;simp only[V.kin]at k;exact .tup vs cs C (λj v d=>B j v d (zbe k j v d))
def Rel.kin{W:World}{g:Gh}{H:Heap}{v:V}{c:Value}(h:Rel W g H v c):V.kin g.dom v:=by
 induction h with
 |ptr l i q p=>simpa[V.kin]using p
 |ap l i u K q a p d J=>simpa[V.kin]using p
 |hs l i u q n full a m z p d J=>simpa[V.kin]using p
 |map l i p=>simpa[V.kin]using p
 |ref cs q b o c I G s r k=>simp only[V.kin];exact zf2 λv d=>by have⟨j,e⟩:=Qbp d;exact k j v e
 |fn f Y cs L M s X O N C B=>
  simp only[V.kin]
  exact⟨zf2 λv d=>by have⟨j,e⟩:=Qbp d;exact C j v e,zf2 λv d=>by have⟨j,e⟩:=Qbp d;exact B j v e⟩
 |iface t v c h k=>simpa[V.kin]using k
 |agg vs cs F s r k=>simp only[V.kin];exact zf2 λv d=>by have⟨j,e⟩:=Qbp d;exact k j v e
 |tup vs cs F r k=>simp only[V.kin];exact zf2 λv d=>by have⟨j,e⟩:=Qbp d;exact k j v e
 |sl sz xs full b o z c I R A U hs G s r k=>
  simp only[V.kin];refine zf2 λx D =>?_
  have⟨j,e⟩:=Qbp D;have T:=hs j x e;cases x
  case agg cs=>
   simp only[V.kin];exact zf2 λv d=>by have⟨t,E⟩:=Qbp d;exact k j _ t v e E
  all_goals exact k j _ 0 _ e rfl
 |_=>simp[V.kin,V.zb1]
mutual
def V.zsl{D d:Nat->Nat->Prop}(h:∀l i,D l i->d l i):∀v:V,V.kin D v->V.kin d v
 |.ptr l i _,k=>by simp only[V.kin]at *;exact h l i k
 |.ref cs _,k=>by simp only[V.kin]at *;exact V.zgg h cs k
 |.ap l i _ _ _,k=>by simp only[V.kin]at *;exact h l i k
 |.sl _ xs _,k=>by simp only[V.kin]at *;exact V.zgg h xs k
 |.hs l i _ _ _ _,k=>by simp only[V.kin]at *;exact h l i k
 |.map l i,k=>by simp only[V.kin]at *;exact h l i k
 |.fn _ a b,k=>by simp only[V.kin]at *;exact⟨V.zgg h a k.1,V.zgg h b k.2⟩
 |.iface _ v,k=>by simp only[V.kin]at *;exact V.zsl h v k
 |.agg cs,k=>by simp only[V.kin]at *;exact V.zgg h cs k
 |.tup vs,k=>by simp only[V.kin]at *;exact V.zgg h vs k
 |.any,_| .bool _,_| .int _ _,_| .str _,_| .nilp,_| .nils,_| .mapn,_| .mapc _,_| .nilf,_| .nili,_=>by simp[V.kin]
def V.zgg{D b:Nat->Nat->Prop}(h:∀l i,D l i->b l i):∀vs:List V,V.zb1 D vs->V.zb1 b vs
 |[],_=>by simp[V.zb1]
 |v::vs,k=>by simp only[V.zb1]at *;exact⟨V.zsl h v k.1,V.zgg h vs k.2⟩
end
section
variable {P:Program}
def zwk(σ τ:St):Prop :=
 ∀W0 g0 H0 W a g,Base W0 g0 H0->(σ.e0=H0.E∧Step W0 g0 H0 W g σ.H)->kzu W a g σ->∃g',(τ.e0=H0.E∧Step W0 g0 H0 W g' τ.H)∧kzu W a g' τ
def zwk.refl(σ:St):zwk σ σ:=λ_ _ _ _ _ g _ b d=>⟨g,b,d⟩
def zwk.trans{σ τ υ:St}(h:zwk σ τ)(k:zwk τ υ):zwk σ υ:=λW0 g0 H0 W a g b d e=>
 let ⟨l,j,i⟩:=h W0 g0 H0 W a g b d e
 k W0 g0 H0 W a l b j i
def yz5.kin(D:Nat->Nat->Prop):yz5->Prop
 |.cells cs=>V.zb1 D cs
 |.arr _ _ _ xs _=>V.zb1 D xs
 |.map es=>∀p∈es,V.kin D p.1∧V.kin D p.2
 |.siter _ _=>True
 |.mit _ _=>True
def yz5.zsl{D d:Nat->Nat->Prop}(h:∀l i,D l i->d l i){o:yz5}(k:o.kin D):o.kin d:=by
 cases o with
 |cells cs=>exact V.zgg h _ k
 |arr=>exact V.zgg h _ k
 |map es=>exact λp b=>⟨V.zsl h _ (k p b).1,V.zsl h _ (k p b).2⟩
 |siter=>trivial
 |mit=>trivial
def zif.kin{W:World}{g:Gh}{H:Heap}{l i:Nat}{o:yz5}(h:zif W g H l i o):o.kin g.dom:=by
 cases o with
 |cells cs=>
  have⟨c,ty,_,_,_,z⟩:=h
  exact zf2 λv d=>by have⟨j,b⟩:=Qbp d;exact(z j v b).kin
 |arr A ty sz xs E=>
  have⟨c,_,C,_,_,_,_,B,_,k⟩:=h;refine zf2 λx q =>?_
  have⟨j,b⟩:=Qbp q;cases x
  case agg cs=>
   simp only[V.kin];exact zf2 λv d=>by have⟨t,r⟩:=Qbp d;exact(k j _ t v b r).kin
  all_goals exact(k j _ 0 _ b rfl).kin
 |map es=>
  have⟨D,clock,_,_,_,_,u⟩:=h;intro p s;have⟨j,b⟩:=Qbp s;have⟨e,_,n,m⟩:=u j p b
  exact⟨n.kin,m.kin⟩
 |siter=>trivial
 |mit=>trivial
def zif.restrict{W:World}{g g':Gh}{H H':Heap}{D:Nat->Nat->Prop}(F:∀l i,D l i->g.dom l i->g'.dom l i)(m:∀l i,g'.blk l i=g.blk l i)(C:∀l i,g'.ab l i=g.ab l i)(d:∀l i,g'.cap l i=g.cap l i)
  (E:∀l i,D l i->H'.get l i=H.get l i) (q:∀b,Own g' H' b->Own g H b) {l i:Nat}{o:yz5}(h:zif W g H l i o) (k:o.kin D):zif W g' H' l i o:=by
 have r:∀{v:V}{c:Value},Rel W g H v c->V.kin D v->Rel W g' H' v c:=λh k=>h.restrict F (λl i _=>m l i) (λl i _=>C l i) (λl i _=>d l i) E q k
 cases o with
 |cells cs=>
  have⟨c,ty,A,B,z,u⟩:=h
  exact⟨c,ty,by rw[m];exact A,B,z,λj v n=>r (u j v n) (zbe k j v n)⟩
 |arr hb ty sz xs cp=>
  have⟨c,A,z,u,J,G,Z,Y,X,U⟩:=h
  exact⟨c,by rw[C];exact A,z,by rw[d];exact u,by rw[d];exact J,by rw[d];exact G,by rw[d];exact Z,Y,X,λj x t v n L=>r (U j x t v n L) (zbe (zt0 (zbe k j x n)) t v L)⟩
 |map es=>
  have⟨I,clock,A,B,z,u,G⟩:=h;refine⟨I,clock,by rw[m];exact A,B,z,u,λj p n =>?_⟩;have⟨e,T,O,N⟩:=G j p n;have K:=k p (Qax n)
  exact⟨e,T,r O K.1,r N K.2⟩
 |siter s hc=>exact(show W.heap[g'.blk l i]? = _ by rw[m];exact h)
 |mit es ha=>
  have⟨I,clock,M,A,B,z,u⟩:=h;exact⟨I,clock,M,by rw[m];exact A,λR=>B (q _ R),z,u⟩
end
section
variable {P:Program}
def ypz{c:Code}{σ τ:St}{Q:kze->St->Prop}(d:zwk σ τ)(h:Sat P c τ Q):Sat P c σ Q:=λW0 g0 H0 W a g b e i=>by
 have⟨g',k,j⟩:=d W0 g0 H0 W a g b e i;exact h W0 g0 H0 W a g' b k j
def resV(P:Program)(σ:St):ResultVar->Option V
 |.tmp t=>some (σ.t.getD t .any)
 |.cell a t=>ze4 P σ.H t (σ.t.getD a .any)
def yn3(P:Program)(σ:St):List ResultVar->Option (List V)
 |[]=>some []
 |r::b=>match resV P σ r,yn3 P σ b with
  |some v,some vs=>some (v::vs)
  |_,_=>none
def ze6:List V->V
 |[v]=>v
 |vs=>.tup vs
def zck(P:Program)(fn:Func)(σ:St):Option V:=(yn3 P σ fn.results.toList).map ze6
def yvd{W:World}{a:Act}{g:Gh}{σ:St}(h:kzu W a g σ)(t:Nat):Rel W g σ.H (σ.t.getD t .any) (a.tmps.getD t undef):=h.ev (.tmp t)
def resC(a:Act):ResultVar->Sem Value
 |.tmp t=>pure (a.tmps.getD t undef)
 |.cell x t=>do loadVar t (<-asAddr (a.tmps.getD x undef))
def yco{W:World}{a:Act}{g:Gh}{σ:St}(h:kzu W a g σ):∀(e:List ResultVar) (vs:List V),yn3 P σ e=some vs ->
  ∃cs:List Value,(e.mapM (resC a):Sem (List Value)).run P W = .ok cs W∧cs.length=vs.length∧∀(j:Nat) (v:V),vs[j]? = some v->∃c,cs[j]? = some c∧Rel W g σ.H v c
 |[],vs,b=>by simp only[yn3,Qbu]at b;subst b;exact⟨[],by simp,rfl,by simp⟩
 |r::e,vs,b=>by
  simp only[yn3]at b;split at b
  ·rename_i v l i A;cases b;have⟨cs,z,s,q⟩:=yco h e l A
   have d:∃c,(resC a r).run P W = .ok c W∧Rel W g σ.H v c:=by
    cases r with
    |tmp t=>
     simp only[resV,Qbu]at i;subst i
     exact⟨_,rfl,yvd h t⟩
    |cell x t=>
     simp only[resV]at i;have⟨F,u,D,C,B⟩:=y8g (P:=P) h.good i (yvd h x);exact⟨u,by simp only[resC,D];simp[asAddr,C],B⟩
   have⟨c,p,o⟩:=d;refine⟨c::cs,?_,by simp[s],λj u k =>?_⟩
   ·simp only[List.mapM_cons,Qca,Sem.run_pure,p,Qcb,z]
   ·cases j with
    |zero=>simp at k;subst k;exact⟨c,rfl,o⟩
    |succ j=>have⟨E,n,m⟩:=q j u (by simpa using k);exact⟨E,by simpa using n,m⟩
  ·cases b
def zrt{W:World}{a:Act}{g:Gh}{σ:St}{fn:Func}{v:V}(h:kzu W a g σ)(n:zck P fn σ=some v):∃c,(results fn a.tmps).run P W = .ok c W∧Rel W g σ.H v c:=by
 simp only[zck,Qaf]at n;obtain⟨vs,q,rfl⟩:=n;have⟨cs,o,i,k⟩:=yco h _ _ q
 have d:results fn a.tmps=(fn.results.mapM (resC a) >>= λvs=>pure (if h:vs.size=1 then vs[0]else .tuple vs)):=by
  unfold results
  congr 2
 have b:(fn.results.mapM (resC a):Sem (Array Value)).run P W = .ok cs.toArray W:=by
  rw[Array.mapM_eq_mapM_toList];simp only[Sem.run_map,o,Qcb]
 match vs,i,k with
 |[v],i,k=>
  have⟨c,m,e⟩:=k 0 v rfl
  obtain⟨l,rfl⟩:∃l,cs=[l]:=by match cs,i with|[l],_=>exact⟨l,rfl⟩
  simp only[Qcd,Qbu]at m;subst m
  exact⟨l,by rw[d,Qca,b];rfl,e⟩
 |[],i,k=>
  have:cs=[]:=Qao i;subst this
  exact⟨.tuple #[],by rw[d,Qca,b];rfl,.tup [] _ rfl (by simp)⟩
 |v::w::vs,i,k=>
  refine⟨.tuple cs.toArray,?_,.tup _ _ (by simpa using i) λj u p =>?_⟩
  ·rw[d,Qca,b,Qcb];have:¬cs.toArray.size=1:=by simp at i ⊢;omega
   rw[dif_neg this];rfl
  ·have⟨c,m,e⟩:=k j u p;rw[Qae];simpa[m]using e
inductive VS (H:Heap) (D:Nat->Nat->Prop):V->V->Prop where
 |keep (v:V) (h:V.kin D v):VS H D v v
 |any (v:V):VS H D v .any
 |nil (sz:Nat) (b:Bool):VS H D .nils (.sl sz [] b)
 |hs (l i ver ty sz off n:Nat) (full:Bool) (xs ys:List V) (cp:Option Nat) (hl:l=H.lv) (hg:H.get l i=some (.arr ver ty sz xs cp)) (hn:ys.length=n)
  (h1:∀(j:Nat) (x y:V),xs[off+j]? = some x->ys[j]? = some y->x.cells.length=y.cells.length) (h2:∀(j:Nat) (x y:V) (t:Nat) (v u:V),xs[off+j]? = some x->ys[j]? = some y->x.cells[t]? = some v->y.cells[t]? = some u->VS H D v u) :
  VS H D (.hs l i ver off n full) (.sl sz ys false)
 |sl (sz:Nat) (xs ys:List V) (b:Bool) (hn:xs.length=ys.length) (h1:∀(j:Nat) (x y:V),xs[j]? = some x->ys[j]? = some y->x.cells.length=y.cells.length)
  (h2:∀(j:Nat) (x y:V) (t:Nat) (v u:V),xs[j]? = some x->ys[j]? = some y->x.cells[t]? = some v->y.cells[t]? = some u->VS H D v u):VS H D (.sl sz xs b) (.sl sz ys false)
 |agg (vs us:List V) (hn:vs.length=us.length) (h:∀(j:Nat) (v u:V),vs[j]? = some v->us[j]? = some u->VS H D v u):VS H D (.agg vs) (.agg us)
 |tup (vs us:List V) (hn:vs.length=us.length) (h:∀(j:Nat) (v u:V),vs[j]? = some v->us[j]? = some u->VS H D v u):VS H D (.tup vs) (.tup us)
def VS.rel{W:World}{g g':Gh}{H H':Heap}{D:Nat->Nat->Prop}(J:Good W g H)(T:∀l i,D l i->g.dom l i->g'.dom l i)(X:∀l i,D l i->g'.blk l i=g.blk l i)(h5:∀l i,D l i->g'.ab l i=g.ab l i)(U:∀l i,D l i->g'.cap l i=g.cap l i)
  (R:∀l i,D l i->H'.get l i=H.get l i) (E:∀b,Own g' H' b->Own g H b) (O:∀i o,H.get H.lv i=some o->¬Own g' H' (o.blk g H.lv i)) {v u:V}(h:VS H D v u):∀{c:Value},Rel W g H v c->Rel W g' H' u c:=by
 induction h with
 |keep v hk=>intro c r;exact r.restrict T X h5 U R E hk
 |any v=>exact λ_=>.any _
 |nil sz b=>intro c r;cases r;exact .slnil _ _
 |hs l i h8 ty sz q n full xs A cp Z hg G I h2 F=>
  intro c r;subst Z
  cases r with
  |hs _ _ _ _ _ _ a m z hd C ha=>
   obtain⟨rfl,rfl,⟨h7,h6,hp⟩,hi⟩:=ha _ _ _ _ hg;have⟨B,k1,k2,k3,h9,k4,k5,Y⟩:=y4l J hg
   have get:∀j y,A[j]? = some y->∃x,xs[q+j]? = some x∧j<m:=λj y d=>by
    have:=(Qaa.1 d).1;exact⟨_,Qab (by omega),by omega⟩
   have cells:∀(j:Nat) (y:V) (t:Nat) (u:V),A[j]? = some y->y.cells[t]? = some u->∃x v,xs[q+j]? = some x∧x.cells[t]? = some v∧VS H D v u∧Rel W g' H' u (B.getD ((q+j) * sz+t) undef)∧(B.getD ((q+j) * sz+t) undef).oneCell'=true∧(q+j) * sz+t<B.size:=λj y t u d k=>by
    have⟨x,p,hm⟩:=get j y d;have Z:=I j x y p d;have he:=Y.1 _ _ p;have h3:=(Qaa.1 k).1;have s:x.cells[t]? = some (x.cells[t]'(by omega)):=Qab _;refine⟨x,_,p,s,h2 j x y t _ u p d s k,F j x y t _ u p d s k (Y.2.2 _ _ _ _ p s),Y.2.1 _ _ _ _ p s,?_⟩;rw[k3];exact y7c (by omega) (by omega)
   rw[<-G];refine .sl sz A false (g.ab H.lv i) (q * sz) z (λj t=>B.getD ((q+j) * sz+t) undef) (λho=>O i _ hg ho) k2 (by omega) (by simp) (λj y d =>?_) (λj y t u d k =>?_) (λj y t u d k =>?_) (λj y t u d k =>?_)
   ·have⟨x,p,_⟩:=get j y d;rw[<-I j x y p d];exact Y.1 _ _ p
   ·have⟨x,v,_,_,_,_,_,e⟩:=cells j y t u d k;have:=cell_of k1 e;rw[<-this];congr 2;rw[Nat.add_mul];try omega
   ·have⟨x,v,_,_,_,_,e,_⟩:=cells j y t u d k;exact e
   ·have⟨x,v,_,_,_,e,_,_⟩:=cells j y t u d k;exact e
 |sl sz xs A b G I h2 F=>
  intro c r
  have get:∀j y,A[j]? = some y->∃x,xs[j]? = some x:=λj y d=>by
   have:=(Qaa.1 d).1;exact⟨_,Qab (by omega)⟩
  cases r with
  |slnil=>have:A=[]:=Qao (by simpa using G.symm);subst this;exact .slnil _ _
  |sle _ _ a z hf=>have:A=[]:=Qao (by simpa using G.symm);subst this;exact .sle _ _ a z (by simp)
  |sl _ _ _ bl o z c hb hz N hf hs r h4 M=>
   have cells:∀(j:Nat) (y:V) (t:Nat) (u:V),A[j]? = some y->y.cells[t]? = some u->∃x v,xs[j]? = some x∧x.cells[t]? = some v:=λj y t u d k=>by
    have⟨x,p⟩:=get j y d;have Z:=I j x y p d;have h3:=(Qaa.1 k).1;exact⟨x,_,p,Qab (by omega)⟩
   rw[G]at N ⊢;refine .sl sz A false bl o z c (λh=>hb (E bl h)) hz N (by simp) (λj y d =>?_) (λj y t u d k =>?_) (λj y t u d k =>?_) (λj y t u d k =>?_)
   ·have⟨x,p⟩:=get j y d;rw[<-I j x y p d];exact hs _ _ p
   ·have⟨x,v,L,K⟩:=cells j y t u d k;exact r _ _ _ _ L K
   ·have⟨x,v,L,K⟩:=cells j y t u d k;exact h4 _ _ _ _ L K
   ·have⟨x,v,L,K⟩:=cells j y t u d k;exact F j x y t v u L d K k (M _ _ _ _ L K)
 |agg vs us G h F=>
  intro c r
  cases r with
  |agg _ cs hs I M=>
   have get:∀j u,us[j]? = some u->∃v,vs[j]? = some v:=λj u d=>by
    have:=(Qaa.1 d).1;exact⟨_,Qab (by omega)⟩
   refine .agg _ cs (by omega) (λj u d =>?_) (λj u d =>?_)
   ·have⟨v,C⟩:=get j u d;exact I j v C
   ·have⟨v,C⟩:=get j u d;exact F j v u C d (M j v C)
 |tup vs us G h F=>
  intro c r
  cases r with
  |tup _ cs hs M=>
   refine .tup _ cs (by omega) (λj u d =>?_);have hh:=(Qaa.1 d).1;have C:vs[j]? = some (vs[j]'(by omega)):=Qab _;exact F j _ u C d (M j _ C)
def outer(lv:Nat)(l _i:Nat):Prop:=l<=lv
structure Back(H H':Heap)(σ:St)(v r:V):Prop where
 res:VS σ.H (outer H.lv) v r
 get:∀l i,l<=H.lv->H'.get l i=σ.H.E l i
 lv:H'.lv=H.lv
 len:H'.L.length=H.L.length
 same:∀l i o,l<=H.lv->σ.H.E l i=some o->H.get l i=some o∨o.kin (outer H.lv)
 high:∀l i,H.lv<l->H'.E l i=H.E l i
def Fin(P:Program)(fn:Func)(H H':Heap)(r:V)(e:kze)(σ:St):Prop :=
 match e with
 |.normal| .ret=>∃v,zck P fn σ=some v∧σ.d=[]∧Back H H' σ v r
 |_=>False
def yg8{W:World}{g:Gh}{H:Heap}(h:Good W g H):Good W g ⟨H.lv+1,[],H.get⟩∧(∀l i,Heap.get ⟨H.lv+1,[],H.get⟩ l i=H.get l i)∧∀{v:V}{c:Value},Rel W g H v c->Rel W g ⟨H.lv+1,[],H.get⟩ v c:=by
 have d:∀l i,Heap.get ⟨H.lv+1,[],H.get⟩ l i=H.get l i:=λl i=>by
  show(if l=H.lv+1 then _ else _)=_;split
  ·rename_i u;subst u
   cases s:H.get (H.lv+1) i with
   |none=>simp
   |some o=>rcases h.fresh _ _ (h.dom _ _ _ s)with q|⟨q,_⟩ <;> omega
  ·rfl
 have e:∀b,Own g ⟨H.lv+1,[],H.get⟩ b->Own g H b:=λb ⟨l,i,o,j,m⟩=>⟨l,i,o,by rw[<-d];exact j,m⟩
 have k:∀{v:V}{c:Value},Rel W g H v c->Rel W g ⟨H.lv+1,[],H.get⟩ v c:=λn=>
  Rel.restrict (D:=g.dom) (g':=g) (λ_ _ _ h=>h) (λ_ _ _=>rfl) (λ_ _ _=>rfl) (λ_ _ _=>rfl) (λl i _=>d l i) e n n.kin
 refine⟨⟨λl i o j=>h.dom l i o (by rw[<-d];exact j),λl i o j=>h.lt l i o (by rw[<-d];exact j),λl i o p r o' B A m=>h.inj l i o p r o' (by rw[<-d];exact B) (by rw[<-d];exact A) m,λl i z =>?_,λl i o j =>?_,h.y3r.y8r e⟩,d,k⟩
 ·left;show l<H.lv+1
  rcases h.fresh l i z with q|⟨q,_⟩ <;> omega
 ·rw[d]at j;exact zif.restrict (D:=g.dom) (g':=g) (λ_ _ _ h=>h) (λ_ _=>rfl) (λ_ _=>rfl) (λ_ _=>rfl) (λl i _=>d l i) e (h.obj l i o j) (h.obj l i o j).kin
def yu1{W W':World}{g F:Gh}{H H':Heap}{σ:St}{v r:V}{c:Value}(N:Good W g H)(h7:σ.H.lv=H.lv+1)(k:Step W g ⟨H.lv+1,[],H.get⟩ W' F σ.H)(p:Good W' F σ.H)(C:Back H H' σ v r)(hr:Rel W' F σ.H v c) :
  ∃z,Step W g H W' z H'∧Good W' z H'∧Rel W' z H' r c:=by
 have⟨h8,J,h6⟩:=yg8 N
 let z:Gh:={F with dom:=g.dom}
 have A:∀l i (o:yz5),o.blk z l i=o.blk F l i:=λl i o=>by cases o <;> rfl
 have K:∀l i,g.dom l i->l<=H.lv:=λl i h=>by rcases N.fresh l i h with q|⟨q,_⟩ <;> omega
 have d:∀l i,l<=H.lv->H'.get l i=σ.H.get l i:=λl i n=>by
  rw[C.get l i n];unfold Heap.get;rw[Qby (by omega)]
 have e:∀l i o,H'.get l i=some o->l<=H.lv:=λl i o j=>by
  rcases Nat.lt_or_ge H.lv l with q|q
  ·unfold Heap.get at j;rw[Qby (by rw[C.lv];omega),C.high l i q]at j;have:H.get l i=some o:=by unfold Heap.get;rw[Qby (by omega)];exact j
   exact K l i (N.dom l i o this)
  ·exact q
 have B:∀l i,l<=H.lv->F.dom l i->g.dom l i:=λl i n u=>by
  rcases k.new l i u with q|q
  ·exact q
  ·simp only at q;omega
 have s:∀b,Own z H' b->Own F σ.H b:=λb ⟨l,i,o,j,m⟩=>⟨l,i,o,by rw[<-d l i (e l i o j)];exact j,by rw[<-A];exact m⟩
 have O:∀i o,σ.H.get σ.H.lv i=some o->¬Own z H' (o.blk F σ.H.lv i):=λi o j ⟨l,M,o',I,m⟩=>by
  have n:=e l M o' I;rw[d l M n]at I;rw[A]at m;have:=(p.inj _ _ _ _ _ _ I j m).1;omega
 have R:∀l i o,H'.get l i=some o->o.kin (outer H.lv):=λl i o j=>by
  have n:=e l i o j;have hE:σ.H.E l i=some o:=by rw[<-C.get l i n];exact j
  rcases C.same l i o n hE with q|q
  ·exact yz5.zsl (λl i h=>K l i h) (N.obj l i o q).kin
  ·exact q
 have T:∀l i o,H'.get l i=some o->zif W' z H' l i o:=λl i o j=>by
  have n:=e l i o j;have:=p.obj l i o (by rw[<-d l i n];exact j);exact zif.restrict (D:=outer H.lv) (g':=z) (λl i G u=>B l i G u) (λ_ _=>rfl) (λ_ _=>rfl) (λ_ _=>rfl) (λl i G=>d l i G) s this (R l i o j)
 refine⟨z,⟨k.os,k.tape,k.output,k.size,λb L hn=>k.block b L (λ⟨l,i,o,j,m⟩=>hn ⟨l,i,o,by rw[<-J];exact j,m⟩),λb L =>?_,λ_ _ h=>h,λ_ _ h=>.inl h,λl i u=>k.blk l i u,λl i h4 ty sz xs cp u hg =>?_,C.lv⟩,⟨λl i o j =>?_,λl i o j =>?_,λl i o Z M o' Y X U =>?_,λl i u =>?_,T,p.y3r.y8r s⟩,?_⟩
 ·rcases k.own b (s b L)with ⟨l,i,o,j,m⟩|q
  ·exact .inl ⟨l,i,o,by rw[<-J];exact j,m⟩
  ·exact .inr q
 ·have n:=K l i u;have⟨v',ys,h5,Y,X,U⟩:=k.arr l i h4 ty sz xs cp u (by rw[<-d l i n];exact hg);exact⟨v',ys,h5,by rw[<-J];exact Y,X,U⟩
 ·have n:=e l i o j;exact B l i n (p.dom l i o (by rw[<-d l i n];exact j))
 ·have n:=e l i o j;rw[A];exact p.lt l i o (by rw[<-d l i n];exact j)
 ·rw[A,A]at U;exact p.inj l i o Z M o' (by rw[<-d l i (e l i o Y)];exact Y) (by rw[<-d Z M (e Z M o' X)];exact X) U
 ·rw[C.lv,C.len];exact N.fresh l i u
 ·exact VS.rel (g':=z) p (λl i G u=>B l i G u) (λ_ _ _=>rfl) (λ_ _ _=>rfl) (λ_ _ _=>rfl) (λl i G=>d l i G) s O C.res hr
def ygr{f:Nat}{fn:Func}{c:Code}{n:Nat}(R:P.funcs[f]? = some fn)(T:fn.body=some c)(C:fn.ntmps=n)(s:∀args w,(callFunc f args).run P w = .ok (.enter f args) w){args:List V}{H H':Heap}{r:V}
  (h:Sat P c ⟨args++List.replicate (n-args.length) .any,⟨H.lv+1,[],H.get⟩,[],H.get⟩ (Fin P fn H H' r)):y4b P f args H r H':=by
 intro W g b G A;subst C;refine .inl ⟨s b W,calls_of_wp R T ?_⟩;have⟨p,X,B⟩:=yg8 G;have q:Step W g ⟨H.lv+1,[],H.get⟩ W g ⟨H.lv+1,[],H.get⟩:=.refl _ _ _
 have E:kzu W {tmps:=b++Array.replicate (fn.ntmps-b.size) undef,defers:=[]} g ⟨args++List.replicate (fn.ntmps-args.length) .any,⟨H.lv+1,[],H.get⟩,[],H.get⟩:=by
  refine⟨p,by simp[A.1],λj v i =>?_,rfl,by simp⟩;rw[Qbe]at i;split at i
  ·rename_i D;rw[z4i (by rw[A.1];exact D)];exact B (A.2 j v i)
  ·rw[Qbo]at i;split at i
   ·cases i;exact .any _
   ·cases i
 refine wp_mono (h W g ⟨H.lv+1,[],H.get⟩ W _ g ⟨p⟩ ⟨rfl,q⟩ E).wp λe a W' ⟨Z,σ,e',M,F,z,u⟩ =>?_
 have o:∀v,zck P fn σ=some v->σ.d=[]->Back H H' σ v r->a.defers=[]∧∃c,(results fn a.tmps).run P W' = .ok c W'∧∃I g',Ending.returned c = .returned I∧Step W g H W' g' H'∧Good W' g' H'∧Rel W' g' H' r I:=λv m l k=>by
  have⟨c,O,N⟩:=zrt z m;have⟨U,L,K,J⟩:=yu1 G F.2.lv F.2 z.good k N;refine⟨Qao (by rw[z.dlen,l];rfl),c,O,c,U,rfl,L,K,J⟩
 cases M with
 |normal=>have⟨v,m,l,k⟩:=u;exact o v m l k
 |ret=>have⟨v,m,l,k⟩:=u;exact o v m l k
 |exit id=>exact u.elim
 |panic v c Y=>exact u.elim
def wrI{x:Int}(d : -9223372036854775808<=x)(b:x<=9223372036854775807):IntKind.i64.wrap x=x:=by
 exact IntWalk.i64_in _ (by omega)
def wr1{k:Nat}(h:k<=4611686018427387904):IntKind.i64.wrap ((k:Int)+1)=(k:Int)+1:=wrI (by omega) (by omega)
def zw3(P:Program)(f:Nat)(args:List V)(r:V):Prop:=∀H,y4b P f args H r H
def yk3{H:Heap}{σ:St}{v r:V}(d:σ.H.E=H.get)(h:VS σ.H (outer H.lv) v r):Back H H σ v r :=
 ⟨h,λl i _=>by rw[d],rfl,rfl,λl i o _ b=>.inl (by rw[d]at b;exact b),λ_ _ _=>rfl⟩
def Ends(P:Program)(fn:Func)(lv:Nat)(E:Nat->Nat->Option yz5)(r:V)(e:kze)(σ:St):Prop :=
 match e with
 |.normal| .ret=>∃v,zck P fn σ=some v∧σ.d=[]∧σ.H.E=E∧VS σ.H (outer lv) v r
 |_=>False
def z012{f:Nat}{fn:Func}{c:Code}{n:Nat}(o:P.funcs[f]? = some fn)(p:fn.body=some c)(m:fn.ntmps=n)(b:∀args w,(callFunc f args).run P w = .ok (.enter f args) w){args:List V}{r:V}
  (h:∀lv E,Sat P c ⟨args++List.replicate (n-args.length) .any,⟨lv+1,[],E⟩,[],E⟩ (Ends P fn lv E r)):zw3 P f args r:=λH=>
 ygr o p m b ((h H.lv H.get).mono λe σ d=>by
  cases e with
  |normal=>have⟨v,l,k,j,i⟩:=d;exact⟨v,l,k,yk3 j i⟩
  |ret=>have⟨v,l,k,j,i⟩:=d;exact⟨v,l,k,yk3 j i⟩
  |exit id=>exact d
  |panic v=>exact d)
def ends{fn:Func}{lv:Nat}{E:Nat->Nat->Option yz5}{σ:St}{v r:V}(b:zck P fn σ=some v)(e:σ.d=[])(i:σ.H.E=E)(h:VS σ.H (outer lv) v r):Ends P fn lv E r .ret σ:=⟨v,b,e,i,h⟩
end
end Go.Ab
