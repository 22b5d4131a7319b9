/-
  Texts.
-/
import Derived.Test.YthphaiccgnkobaaGreatDoorLib0
import Derived.Laws.CopyRow
import Derived.OrdersIn
import Derived.OwnWalkIn
import Derived.ControlIn
import Derived.CallsIn
import Derived.RangeFuncCalls
import Derived.Deep.LoopGhost
import Derived.IntWalk
import Derived.StillTail
namespace Go.Ab
open Go
set_option linter.unusedSimpArgs false
set_option linter.unusedVariables false
section
variable {W : World} {g : Gh} {H : Heap} {P : Program}
def zxu(W:World)(g:Gh)(H:Heap)(sz:Nat)(ys:List V)(cs:Array Value):Prop :=
 (∀(j:Nat) (y),ys[j]? = some y->y.cells.length=sz)∧(∀(j) (y) (t) (v),ys[j]? = some y->y.cells[t]? = some v->(cs.getD (j * sz+t) undef).oneCell'=true) ∧
  ∀(j) (y) (t) (v),ys[j]? = some y->y.cells[t]? = some v->Rel W g H v (cs.getD (j * sz+t) undef)
theorem zxu.mono{sz ys cs}(h:zxu W g H sz ys cs){W' g' H'}(s:Step W g H W' g' H'):zxu W' g' H' sz ys cs :=
 ⟨h.1,h.2.1,λj y t v hj ht=>(h.2.2 j y t v hj ht).mono s⟩
theorem y78{sz n j t:Nat}(hj:j<n)(ht:t<sz):j * sz+t<n * sz:=by
 calc j * sz+t<j * sz+sz:=by omega
  _=(j+1) * sz:=by rw[Nat.succ_mul]
  _<=_:=Qau _ hj
theorem zxu.append{sz xs ys a b r}(ha:zxu W g H sz xs a)(hb:zxu W g H sz ys b)
  (h1:∀i,i<xs.length * sz->r.getD i undef=a.getD i undef) (h2:∀i,i<ys.length * sz->r.getD (xs.length * sz+i) undef=b.getD i undef):zxu W g H sz (xs++ys) r:=by
 have key:∀(j:Nat) (y:V) (t:Nat) (v:V),(xs++ys)[j]? = some y->y.cells[t]? = some v ->
   (xs[j]? = some y∧r.getD (j * sz+t) undef=a.getD (j * sz+t) undef)∨(ys[j-xs.length]? = some y∧r.getD (j * sz+t) undef=b.getD ((j-xs.length) * sz+t) undef):=λj y t v hj ht=>by
  have htl:=(Qaa.1 ht).1;rw[Qba]at hj;split at hj;rename_i hlt;have:=ha.1 _ _ hj
  grind[y78]
  rename_i hge;have hl:=(Qaa.1 hj).1;have:=hb.1 _ _ hj;refine .inr ⟨hj,?_⟩
  have e:j * sz+t=xs.length * sz+((j-xs.length) * sz+t):=by
   rw[<-Nat.add_assoc,<-Nat.add_mul];congr 2;omega
  simp_all[y78]
 refine⟨λj y hj =>?_,λj y t v hj ht =>?_,λj y t v hj ht =>?_⟩;rw[Qba]at hj;split at hj;exact ha.1 _ _ hj;exact hb.1 _ _ hj
 rcases key j y t v hj ht with ⟨k1,k2⟩|⟨k1,k2⟩ <;> rw[k2]
 exact ha.2.1 _ _ _ _ k1 ht;exact hb.2.1 _ _ _ _ k1 ht
 rcases key j y t v hj ht with ⟨k1,k2⟩|⟨k1,k2⟩ <;> rw[k2]
 exact ha.2.2 _ _ _ _ k1 ht;exact hb.2.2 _ _ _ _ k1 ht
def zd3(H:Heap)(sz:Nat):V->Option (List V)
 |.nils=>some []
 |.sl s xs _=>if s=sz then some xs else none
 |.hs l i ver off n _=>match H.get l i with
  |some (.arr ver' _ s xs _)=>if ver'=ver∧s=sz then some ((xs.drop off).take n)else none
  |_=>none
 |_=>none
theorem y59{l i ver ty sz xs cp}(hG:Good W g H)(hg:H.get l i=some (.arr ver ty sz xs cp)) :
  ∃c,W.heap[g.ab l i]? = some (.cells c ty (0,0))∧0<sz∧c.size=g.cap l i * sz∧g.cap l i<=maxLen∧xs.length<=g.cap l i∧(∀n,cp=some n->g.cap l i=n)∧zxu W g H sz xs c:=by
 obtain⟨c,k1,k2,k3,k3',k4,k5,k6,k7,k8⟩:=hG.obj _ _ _ hg;exact⟨c,k1,k2,k3,k3',k4,k5,k6,k7,k8⟩
theorem znz(hG:Good W g H){sz:Nat}{x:V}{c:Value}{ys:List V}(hz:0<sz)(h:zd3 H sz x=some ys)(hx:Rel W g H x c) :
  ∃a n cap,c = .slice a n cap∧n=ys.length∧n<=cap∧∃news:Array Value,news.size=n * sz∧(∀v∈news.toList,v.oneCell'=true)∧zxu W g H sz ys news ∧
   ∀d:Nat,(Builtin.firstCells sz n c).run P {W with drawn:=d} = .ok news {W with drawn:=d}:=by
 have mk:∀(b o:Nat) (n cap:Nat) (f:Nat->Value),n=ys.length->(∀i,i<n * sz->W.cell? ⟨b,o+i,none⟩=some (f i))->(∀i,i<n * sz->(f i).oneCell'=true)->(∀(j:Nat) (y:V),ys[j]? = some y->y.cells.length=sz) ->
   (∀(j:Nat) (y:V) (t:Nat) (v:V),ys[j]? = some y->y.cells[t]? = some v->Rel W g H v (f (j * sz+t))) ->
   ∃news:Array Value,news.size=n * sz∧(∀v∈news.toList,v.oneCell'=true)∧zxu W g H sz ys news∧∀d:Nat,(Builtin.firstCells sz n (.slice (some ⟨b,o,none⟩) n cap)).run P {W with drawn:=d} = .ok news {W with drawn:=d}:=by
  intro b o n cap f hn hf h1 hl hr
  have hget:∀i,i<n * sz->(((List.range (n * sz)).map f).toArray).getD i undef=f i:=λi hi=>by
   rw[Qae];simp[hi]
  have hin:∀(j:Nat) (y:V) (t:Nat) (v:V),ys[j]? = some y->y.cells[t]? = some v->j * sz+t<n * sz:=λj y t v hj ht=>
   y78 (by rw[hn];exact(Qaa.1 hj).1) (by rw[<-hl j y hj];exact(Qaa.1 ht).1)
  refine⟨((List.range (n * sz)).map f).toArray,by simp,λv hv =>?_,⟨hl,λj y t v hj ht =>?_,λj y t v hj ht =>?_⟩,λd =>?_⟩;simp only[Qbc,List.mem_range]at hv;obtain⟨i,hi,rfl⟩:=hv;exact h1 i hi;rw[hget _ (hin j y t v hj ht)];exact h1 _ (hin j y t v hj ht);rw[hget _ (hin j y t v hj ht)];exact hr j y t v hj ht;simp only[Builtin.firstCells]
  exact run_loadCells _ ⟨b,o,none⟩ (n * sz) f (λi hi=>by rw[add_eq];exact hf i hi)
 have empty:∀(a:Option Addr) (cap:Nat),ys=[]->c = .slice a 0 cap->∃a n cap,c = .slice a n cap∧n=ys.length∧n<=cap∧∃news:Array Value,news.size=n * sz∧(∀v∈news.toList,v.oneCell'=true)∧zxu W g H sz ys news ∧
   ∀d:Nat,(Builtin.firstCells sz n c).run P {W with drawn:=d} = .ok news {W with drawn:=d}:=λa cap hy hc=>by
  subst hy;subst hc;refine⟨a,0,cap,rfl,rfl,Qbo _,#[],by simp,by simp,⟨by simp,by simp,by simp⟩,λd =>?_⟩;cases a <;> simp[Builtin.firstCells,loadCells,loadCellsFrom]
 unfold zd3 at h;split at h;injection h with h;cases hx;exact empty none 0 h.symm rfl;rename_i s xs full;split at h;rename_i hs;subst hs;injection h with h;subst h
 cases hx with
 |slnil=>exact empty none 0 rfl rfl
 |sle _ _ a cap _=>exact empty (some a) cap rfl rfl
 |sl _ _ _ b o cap f hob hz hcap hf hs hcc ho1 hr=>
  refine⟨_,_,_,rfl,rfl,hcap,?_⟩
  have hsplit:∀i,i<xs.length * s->∃y v,xs[i / s]? = some y∧y.cells[i % s]? = some v∧i=i / s * s+i % s:=λi hi=>by
   have hd:i / s<xs.length:=Nat.div_lt_of_lt_mul (by rw[Nat.mul_comm];exact hi);have hm:i % s<s:=Nat.mod_lt _ hz;have hy:xs[i / s]? = some xs[i / s]:=Qab hd;have hyl:=hs _ _ hy;refine⟨_,(xs[i / s]).cells[i % s]'(by omega),hy,Qab _,?_⟩;rw[Nat.mul_comm];exact(Nat.div_add_mod i s).symm
  have hmd:∀(j t:Nat),t<s->(j * s+t) / s=j∧(j * s+t) % s=t:=λj t ht=>by
   constructor;rw[Nat.mul_comm,Nat.mul_add_div hz,Nat.div_eq_of_lt ht,Nat.add_zero];rw[Nat.mul_comm,Nat.mul_add_mod,Nat.mod_eq_of_lt ht]
  refine mk b o xs.length cap (λi=>f (i / s) (i % s)) rfl (λi hi =>?_) (λi hi =>?_) hs (λj y t v hj ht =>?_);obtain⟨y,v,h1,h2,h3⟩:=hsplit i hi;have:=hcc _ _ _ _ h1 h2;rw[Nat.add_assoc,<-h3]at this;exact this;obtain⟨y,v,h1,h2,h3⟩:=hsplit i hi;exact ho1 _ _ _ _ h1 h2;have htl:=(Qaa.1 ht).1;rw[hs _ _ hj]at htl;obtain⟨e1,e2⟩:=hmd j t htl;simp only[e1,e2];exact hr _ _ _ _ hj ht
 cases h;rename_i l i ver off n full;split at h;rename_i ver' ty s xs cp hg;split at h;rename_i hc;obtain⟨rfl,rfl⟩:=hc;injection h with h
 cases hx with
 |hs _ _ _ _ _ _ a m cap hd hv ha=>
  obtain⟨rfl,rfl,⟨hcap,hcap2,hff⟩,hle⟩:=ha _ _ _ _ hg;obtain⟨cur,k1,k2,k3,k3',k4,k5,k6⟩:=y59 hG hg;have hlen:ys.length=m:=by rw[<-h];simp;omega
  have hys:∀(j:Nat) (y:V),ys[j]? = some y->xs[off+j]? = some y∧j<m:=λj y hj=>by
   rw[<-h,Qaw]at hj;split at hj;rename_i hjm;rw[Qbb]at hj;exact⟨hj,hjm⟩;cases hj
  refine⟨_,_,_,rfl,hlen.symm,hcap,?_⟩
  have hin:∀i,i<m * s->off * s+i<cur.size:=λi hi=>by
   rw[k3]
   calc off * s+i<off * s+m * s:=by omega
    _=(off+m) * s:=by rw[Nat.add_mul]
    _<=_:=Qau _ (by omega)
  have hsplit:∀i,i<m * s->∃y v,xs[off+i / s]? = some y∧y.cells[i % s]? = some v∧off * s+i=(off+i / s) * s+i % s:=λi hi=>by
   have hd:i / s<m:=Nat.div_lt_of_lt_mul (by rw[Nat.mul_comm];exact hi);have hm:i % s<s:=Nat.mod_lt _ k2;have hy:xs[off+i / s]? = some (xs[off+i / s]'(by omega)):=Qab _;have hyl:=k6.1 _ _ hy;refine⟨_,(xs[off+i / s]'(by omega)).cells[i % s]'(by omega),hy,Qab _,?_⟩;rw[Nat.add_mul,Nat.add_assoc];congr 1;rw[Nat.mul_comm];exact(Nat.div_add_mod i s).symm
  refine mk (g.ab l i) (off * s) m cap (λi=>cur.getD (off * s+i) undef) hlen.symm (λi hi=>cell_of k1 (hin i hi)) (λi hi =>?_) (λj y hj=>k6.1 _ _ (hys j y hj).1) (λj y t v hj ht =>?_);obtain⟨y,v,h1,h2,h3⟩:=hsplit i hi;rw[h3];exact k6.2.1 _ _ _ _ h1 h2;have:=k6.2.2 _ _ _ _ (hys j y hj).1 ht;rw[Nat.add_mul,Nat.add_assoc]at this;exact this
 cases h;cases h;cases h
theorem zxr{t u ty e i z du}(ht:P.underlying t=some (.slice e))(hu:P.underlying u=some du)(hdu:∀k,du ≠ .int k)(hi:P.info? e=some i)(hz:i.zero=some z)
  {base sLen sCap n x olds news} (hx:(Builtin.lenOf x).run P W = .ok n W)
  (ho:∀d:Nat,(Builtin.firstCells i.size sLen (.slice base sLen sCap)).run P {W with drawn:=d} = .ok olds {W with drawn:=d})
  (hn:∀d:Nat,(Builtin.firstCells i.size n x).run P {W with drawn:=d} = .ok news {W with drawn:=d})
  (hg:sCap<sLen+n) (h63:((sLen+n:Nat):Int)<=9223372036854775807) (hfit:Builtin.nextslicecap (sLen+n) sCap * i.bytes<=281474976710656) :
  ∃cap d,sLen+n<=cap∧cap<=maxLen∧(Builtin.append_ #[t,u] ty #[.slice base sLen sCap,x]).run P W =
   .ok (.slice (some ⟨W.heap.size,0,none⟩) (sLen+n) cap) (({W with drawn:=d}:World).alloc (.cells (olds++news++Builtin.zeroCells z.cells (cap-(sLen+n))) e)):=by
 have hg':¬(sLen+n<=sCap):=by omega
 have h63':¬(9223372036854775807<((sLen:Int)+(n:Int))):=by omega
 have h48':¬(281474976710656<Builtin.nextslicecap (sLen+n) sCap * i.bytes):=by omega
 refine⟨grownCap W (sLen+n) sCap e,W.drawn+1,grownCap_ge _ _ _ _,grownCap_le_maxLen _ _ _ _ (by unfold maxLen;omega),?_⟩;have ho':=ho (W.drawn+1);have hn':=hn (W.drawn+1);simp[World.drew_eq]at ho' hn';simp[Builtin.append_,yz3 ht,yz3 hu,sizeOf,typeInfo,zeroValue,hi,hz,hx,hg',h63',h48',Question.forced,ho',hn',newRow,grownCap]
theorem y9a{t u ty e i du}(ht:P.underlying t=some (.slice e))(hu:P.underlying u=some du)(hdu:∀k,du ≠ .int k)(hi:P.info? e=some i)
  {b o sLen sCap n x news cur tt} (hx:(Builtin.lenOf x).run P W = .ok n W)
  (hn:(Builtin.firstCells i.size n x).run P W = .ok news W) (h1:∀v∈news.toList,v.oneCell'=true)
  (hg:sLen+n<=sCap) (hb:W.heap[b]? = some (.cells cur tt (0,0))) (hfit:o+sLen * i.size+news.size<=cur.size) :
  (Builtin.append_ #[t,u] ty #[.slice (some ⟨b,o,none⟩) sLen sCap,x]).run P W =
   .ok (.slice (some ⟨b,o,none⟩) (sLen+n) sCap) (W.setRow b (putCells cur (o+sLen * i.size) news)):=by
 have hst:=run_storeCells_at P b (o+sLen * i.size) tt news.toList 0 cur W hb (by simpa using hfit) h1;simp only[Nat.add_zero]at hst;rw[zmq cur _ news hfit]at hst;simp[Builtin.append_,yz3 ht,yz3 hu,sizeOf,typeInfo,hi,hx,hg,hn,add_eq,hst]
def zmi(H:Heap)(sz:Nat):V->Option (List V)
 |.str s=>if sz=1 then some (s.map λb=>.int .u8 b.toNat)else none
 |x=>zd3 H sz x
theorem yjt(hG:Good W g H){sz x c ys}(hz:0<sz)(h:zmi H sz x=some ys)(hx:Rel W g H x c) :
  (Builtin.lenOf c).run P W = .ok ys.length W∧∃news:Array Value,news.size=ys.length * sz∧(∀v∈news.toList,v.oneCell'=true)∧zxu W g H sz ys news ∧
   ∀d:Nat,(Builtin.firstCells sz ys.length c).run P {W with drawn:=d} = .ok news {W with drawn:=d}:=by
 unfold zmi at h;split at h;rename_i s;split at h;rename_i hs;subst hs;cases h;cases hx;have hsz:(⟨s.toArray⟩:ByteArray).size=s.length:=by simp[ByteArray.size]
 have hget:∀i b,s[i]? = some b->(s.map λb=>Value.int .u8 b.toNat).toArray.getD i undef = .int .u8 b.toNat:=λi b hb=>by
  simp_all
 have hspec:∀(j:Nat) (y:V),(s.map λb=>V.int .u8 b.toNat)[j]? = some y->∃b,s[j]? = some b∧y = .int .u8 b.toNat:=λj y hj=>by
  simp[Qaf]at hj;obtain⟨b,hb,rfl⟩:=hj
  grind
 refine⟨by simp[Builtin.lenOf,hsz],(s.map λb=>Value.int .u8 b.toNat).toArray,by simp,?_,⟨λj y hj =>?_,λj y t v hj ht =>?_,λj y t v hj ht =>?_⟩,λd =>?_⟩;intro v hv;simp[Qbc]at hv;obtain⟨b,_,rfl⟩:=hv;rfl;obtain⟨b,hb,rfl⟩:=hspec j y hj;rfl;obtain⟨b,hb,rfl⟩:=hspec j y hj
 have:t=0:=by
  grind[V.cells]
 subst this;rw[Nat.mul_one,Nat.add_zero,hget j b hb];rfl;obtain⟨b,hb,rfl⟩:=hspec j y hj
 have:t=0:=by
  grind[V.cells]
 subst this;simp[V.cells]at ht;subst ht;rw[Nat.mul_one,Nat.add_zero,hget j b hb];exact .int _ _
 grind[Builtin.firstCells,Sem.run_pure,ByteArray.data_extract]
 cases h;obtain⟨a,n,cap,rfl,rfl,h2,news,h3,h4,h5,h6⟩:=znz (P:=P) hG hz h hx;exact⟨by simp[Builtin.lenOf],news,h3,h4,h5,h6⟩
def zh1:Nat:=268435456
def zx1:TypeDesc->Bool
 |.int _=>false
 |_=>true
def z1t(H:Heap)(e size:Nat)(s:V)(ys:List V):Option (V×Heap) :=
 match s with
 |.nils=>match ys with
  |[]=>some (.nils,H)
  |y::r=>if (y::r).length<=zh1 then some (.hs H.lv H.L.length 0 0 (y::r).length false,H.push (.arr 0 e size (y::r) none))else none
 |.sl sz xs true=>if sz=size then match ys with
  |[]=>some (.sl sz xs true,H)
  |y::r=>if xs.length+(y::r).length<=zh1 then some (.hs H.lv H.L.length 0 0 (xs.length+(y::r).length) false,H.push (.arr 0 e size (xs++y::r) none))else none else none
 |.hs l i' ver 0 n false=>match H.get l i' with
  |some (.arr ver' e' sz xs _)=>if ver'=ver∧e'=e∧sz=size∧n=xs.length∧xs.length+ys.length<=zh1 then
    some (.hs l i' (ver+1) 0 (xs.length+ys.length) false,H.set l i' (.arr (ver+1) e sz (xs++ys) none))else none
  |_=>none
 |_=>none
def hAppend(P:Program)(H:Heap)(t u:Nat)(s x:V):Option (V×Heap) :=
 match P.underlying t,P.underlying u with
 |some (.slice e),some du=>
  match P.info? e with
  |some i=>
   match zmi H i.size x,i.zero with
   |some ys,some z=>
    if zx1 du&&decide (0<i.size)&&decide (i.bytes<=524288)&&z.cells.size==i.size then z1t H e i.size s ys else none
   |_,_=>none
  |none=>none
 |_,_=>none
end
section
variable {W : World} {g : Gh} {H : Heap} {P : Program}
def Gh.move(g:Gh)(l i b c:Nat):Gh where
 dom:=g.dom
 blk:=g.blk
 ab l' i':=if l'=l∧i'=i then b else g.ab l' i'
 cap l' i':=if l'=l∧i'=i then c else g.cap l' i'
 base:=g.base
theorem yw5(hG:Good W g H){l i ver ty sz:Nat}{xs zs:List V}{cp:Option Nat}(ho:H.get l i=some (.arr ver ty sz xs cp)){W':World}{O:Obj}(hW:W'=W.alloc O)(c:Nat)
  (hrel:Step W g H W' (g.move l i W.heap.size c) (H.set l i (.arr (ver+1) ty sz zs none))->zev W' (g.move l i W.heap.size c) (H.set l i (.arr (ver+1) ty sz zs none)) l i (.arr (ver+1) ty sz zs none)) :
  Step W g H W' (g.move l i W.heap.size c) (H.set l i (.arr (ver+1) ty sz zs none))∧Good W' (g.move l i W.heap.size c) (H.set l i (.arr (ver+1) ty sz zs none)):=by
 have hget:=Heap.zy8 (o':=.arr (ver+1) ty sz zs none) ho;have hgr:Grow W W':=hW▸Grow.alloc W O;have hblk:∀(q:kzg) (l' i':Nat),¬(l'=l∧i'=i)->q.blk (g.move l i W.heap.size c) l' i'=q.blk g l' i':=λq l' i' h=>by cases q <;> simp[kzg.blk,Gh.move,h]
 have hstep:Step W g H W' (g.move l i W.heap.size c) (H.set l i (.arr (ver+1) ty sz zs none)):=by
  refine⟨hgr.os,hgr.tape,hgr.output,hgr.size,λb hb _=>hgr.block b hb,λb hb =>?_,λ_ _ h=>h,λ_ _ h=>.inl h,λ_ _ _=>rfl,λl' i' ver' ty' sz' xs' cp' hd hg =>?_,Heap.yl1 _ _ _,rfl⟩;obtain⟨l',i',q,hq,hqb⟩:=hb;rw[hget]at hq;split at hq;rename_i hk;obtain⟨rfl,rfl⟩:=hk;injection hq with hq;subst hq;simp only[kzg.blk,Gh.move,and_self,if_true]at hqb;right;omega;rename_i hk;rw[hblk _ _ _ hk]at hqb
  exact .inl ⟨l',i',q,hq,hqb⟩;rw[hget]at hg;split at hg;rename_i hk;obtain⟨rfl,rfl⟩:=hk;injection hg with hg;injection hg with e1 e2 e3 e4 e5;subst e1;subst e2;subst e3;exact⟨ver,xs,cp,ho,Nat.le_succ _,λh=>by omega⟩;rename_i hk;exact⟨ver',xs',cp',hg,Qbp _,λ_=>⟨by simp[Gh.move,hk],by simp[Gh.move,hk],Qbp _⟩⟩
 refine⟨hstep,?_,?_,?_,?_,?_,hG.zns.step hstep,Qbf hG.base hstep.size⟩;intro l' i' q hq;rw[hget]at hq;split at hq;rename_i hk;obtain⟨rfl,rfl⟩:=hk;exact hG.dom _ _ _ ho;exact hG.dom _ _ _ hq;intro l' i' q hq;rw[hget]at hq;split at hq;rename_i hk;obtain⟨rfl,rfl⟩:=hk;injection hq with hq;subst hq;simp only[kzg.blk,Gh.move,and_self,if_true];rw[hW];simp;rename_i hk;rw[hblk _ _ _ hk]
 exact Qbe (hG.lt _ _ _ hq) hgr.size;intro l1 i1 q1 l2 i2 q2 h1 h2 h3;rw[hget]at h1 h2;split at h1;rename_i hk;obtain⟨rfl,rfl⟩:=hk;injection h1 with h1;subst h1;split at h2;rename_i hk';exact⟨hk'.1.symm,hk'.2.symm⟩;rename_i hk';rw[hblk _ _ _ hk']at h3;simp only[kzg.blk,Gh.move,and_self,if_true]at h3;have:=hG.lt _ _ _ h2;cases q2 <;> simp only[kzg.blk]at h3 this <;> omega
 rename_i hk;split at h2;rename_i hk';obtain⟨rfl,rfl⟩:=hk';injection h2 with h2;subst h2;rw[hblk _ _ _ hk]at h3;simp only[kzg.blk,Gh.move,and_self,if_true]at h3;have:=hG.lt _ _ _ h1;cases q1 <;> simp only[kzg.blk]at h3 this <;> omega
 rename_i hk';rw[hblk _ _ _ hk,hblk _ _ _ hk']at h3;exact hG.inj _ _ _ _ _ _ h1 h2 h3;intro l' i' h;rw[Heap.yl1,Heap.yaq];exact hG.fresh l' i' h;intro l' i' q hq;rw[hget]at hq;split at hq;rename_i hk;obtain⟨rfl,rfl⟩:=hk;injection hq with hq;subst hq;exact hrel hstep;rename_i hk;exact(hG.obj l' i' q hq).mono hstep (hgr.block _ (hG.lt _ _ _ hq)) rfl (by simp[Gh.move,hk]) (by simp[Gh.move,hk])
theorem zuh{t u ty e i du}(ht:P.underlying t=some (.slice e))(hu:P.underlying u=some du)(hdu:∀k,du ≠ .int k)(hi:P.info? e=some i)
  {base sLen sCap x news} (hx:(Builtin.lenOf x).run P W = .ok 0 W) (hn:(Builtin.firstCells i.size 0 x).run P W = .ok news W) (hz:news = #[]) (hg:sLen<=sCap) :
  (Builtin.append_ #[t,u] ty #[.slice base sLen sCap,x]).run P W = .ok (.slice base sLen sCap) W:=by
 subst hz;cases base <;> simp[Builtin.append_,yz3 ht,yz3 hu,sizeOf,typeInfo,hi,hx,hg,hn,storeCells]
theorem z1n{a b:Array Value}{i}(h:i<a.size):(a++b).getD i undef=a.getD i undef:=by
 simp_all[Array.getElem?_append_left]
theorem zik{a b:Array Value}{i}:(a++b).getD (a.size+i) undef=b.getD i undef:=by
 simp_all[Array.getElem?_append_right]
theorem yl5(hG:Good W g H){t u ty:Nat}{s x v:V}{cs cx:Value}{H':Heap}(h:hAppend P H t u s x=some (v,H'))(hs:Rel W g H s cs)(hx:Rel W g H x cx) :
  z8c P W g H (do pure (.value (<-Builtin.append_ #[t,u] ty #[cs,cx]))) v H':=by
 unfold hAppend at h;split at h;rename_i e du ht hu;split at h;rename_i i hi;split at h;rename_i ys z hys hz;split at h;rename_i hc;simp only[Qag,Qar,beq_iff_eq]at hc;obtain⟨⟨⟨c1,c2⟩,c3⟩,c4⟩:=hc;have hdu:∀k,du ≠ .int k:=λk hk=>by subst hk;simp[zx1]at c1
 obtain⟨hlen,news,n1,n2,n3,n4⟩:=yjt (P:=P) hG c2 hys hx
 have nothing:∀(a:Option Addr) (n cap:Nat),ys=[]->cs = .slice a n cap->n<=cap->z8c P W g H (do pure (.value (<-Builtin.append_ #[t,u] ty #[cs,cx]))) s H:=λa n cap hy hcs hle=>by
  subst hy;have hz0:news = #[]:=by simpa using n1
  have:=zuh (P:=P) (W:=W) (ty:=ty) (base:=a) ht hu hdu hi hlen (n4 W.drawn) hz0 hle;rw[hcs];exact⟨_,W,g,.inl (by simp[this]),.refl _ _ _,hG,hcs▸hs⟩
 have fresh:∀(a:Option Addr) (n cap:Nat) (xs:List V) (olds:Array Value),cs = .slice a n cap->n=xs.length->cap<n+ys.length->n+ys.length<=zh1->olds.size=n * i.size->zxu W g H i.size xs olds ->
   (∀d:Nat,(Builtin.firstCells i.size n (.slice a n cap)).run P {W with drawn:=d} = .ok olds {W with drawn:=d}) ->
   ∃cap' d,n+ys.length<=cap'∧cap'<=maxLen∧(Builtin.append_ #[t,u] ty #[cs,cx]).run P W =
    .ok (.slice (some ⟨W.heap.size,0,none⟩) (n+ys.length) cap') (({W with drawn:=d}:World).alloc (.cells (olds++news++Builtin.zeroCells z.cells (cap'-(n+ys.length))) e)) ∧
    (olds++news++Builtin.zeroCells z.cells (cap'-(n+ys.length))).size=cap' * i.size∧zxu W g H i.size (xs++ys) (olds++news++Builtin.zeroCells z.cells (cap'-(n+ys.length))) :=
   λa n cap xs olds hcs hn hcap hroom ho1 ho2 ho3=>by
  have hb:n+ys.length<=268435456:=hroom
  have hbytes:(n+ys.length) * i.bytes<=140737488355328:=by
   calc (n+ys.length) * i.bytes<=268435456 * 524288:=Nat.mul_le_mul hb c3
    _=_:=by decide
  obtain⟨cap',d,k1,k2,k3⟩:=zxr (P:=P) (W:=W) (ty:=ty) (base:=a) ht hu hdu hi hz hlen ho3 n4 hcap (by omega) (growslice_fits hcap hbytes);refine⟨cap',d,k1,k2,by rw[hcs];exact k3,?_,?_⟩;rw[Array.size_append,Array.size_append,size_zeroCells,ho1,n1,c4,<-Nat.add_mul,<-Nat.add_mul]
  congr 1;omega
  refine ho2.append n3 (λj hj =>?_) (λj hj =>?_);rw[Array.append_assoc,z1n (by rw[ho1,hn];exact hj)];rw[Array.append_assoc,<-hn,<-ho1,zik,z1n (by rw[n1];exact hj)]
 have pushed:∀(a:Option Addr) (n cap:Nat) (xs:List V) (olds:Array Value),cs = .slice a n cap->n=xs.length->cap<n+ys.length->n+ys.length<=zh1->olds.size=n * i.size->zxu W g H i.size xs olds ->
   (∀d:Nat,(Builtin.firstCells i.size n (.slice a n cap)).run P {W with drawn:=d} = .ok olds {W with drawn:=d}) ->
   z8c P W g H (do pure (.value (<-Builtin.append_ #[t,u] ty #[cs,cx]))) (.hs H.lv H.L.length 0 0 (n+ys.length) false) (H.push (.arr 0 e i.size (xs++ys) none)):=λa n cap xs olds hcs hn hcap hroom ho1 ho2 ho3=>by
  obtain⟨cap',d,k1,k2,k3,k4,k5⟩:=fresh a n cap xs olds hcs hn hcap hroom ho1 ho2 ho3;have hGd:=hG.grow (Grow.drawn W d)
  obtain⟨q1,q2⟩:=zh2 hGd (o:=.arr 0 e i.size (xs++ys) none) (O:=.cells (olds++news++Builtin.zeroCells z.cells (cap'-(n+ys.length))) e) cap' (λW' g' H' hW hg hH hst=>by
   have hm:=(k5.mono (Grow.drawn W d).step).mono hst;refine⟨_,?_,c2,?_,?_,?_,by simp,hm.1,hm.2.1,hm.2.2⟩;rw[hW,hg];simp only[Gh.add,and_self,if_true];exact z2p _ _;rw[hg];simpa[Gh.add]using k4;rw[hg];simpa[Gh.add]using k2
   rw[hg];simp[Gh.add];omega)
  refine⟨_,_,_,.inl (by simp[k3];rfl),(Grow.drawn W d).step.trans q1,q2,?_⟩;refine .hs _ _ _ _ _ _ _ _ _ (.inr ⟨rfl,rfl⟩) (λv ty sz xs cp hg=>Qbo _) λty sz zs cp hg =>?_
  rw[Heap.zi6,Qbq ⟨rfl,rfl⟩]at hg;injection hg with hg;injection hg with _ _ e3 e4 _;subst e3;subst e4;refine⟨by simp[Gh.add],rfl,⟨k1,by simp[Gh.add],by simp⟩,by simp;omega⟩
 unfold z1t at h;split at h
 ·
  cases hs;split at h;injection h with h;injection h with h1 h2;subst h1;subst h2;exact nothing none 0 0 rfl rfl (Qbp _);rename_i y r;split at h;rename_i hr;injection h with h;injection h with h1 h2;subst h1;subst h2;have:=pushed none 0 0 [] #[] rfl rfl (by simp) (by simpa using hr) (by simp) ⟨by simp,by simp,by simp⟩ (λd=>by simp[Builtin.firstCells]);simpa using this;cases h
 rename_i sz xs;split at h;rename_i hsz;obtain⟨a,n,cap,rfl,rfl,o2,olds,o3,o4,o5,o6⟩:=znz (P:=P) hG c2 (show zd3 H i.size (.sl sz xs true)=some xs by simp[zd3,hsz]) hs
 have hfull:cap=xs.length:=by
  cases hs with
  |slnil=>rfl
  |sle _ _ _ _ hf=>exact hf rfl
  |sl _ _ _ _ _ _ _ _ _ _ hf=>exact hf rfl
 split at h;injection h with h;injection h with h1 h2;subst h1;subst h2;exact nothing a _ cap rfl rfl o2;rename_i y r;split at h;rename_i hr;injection h with h;injection h with h1 h2;subst h1;subst h2;exact pushed a _ cap xs olds rfl rfl (by simp;omega) hr o3 o5 o6;cases h;cases h;rename_i l i' ver n;split at h;rename_i ver' e' sz xs cp hg;split at h;rename_i hcc;obtain⟨rfl,rfl,rfl,rfl,hroom⟩:=hcc
 injection h with h;injection h with h1 h2;subst h1;subst h2;obtain⟨a,n,cap,rfl,hn',o2,olds,o3,o4,o5,o6⟩:=znz (P:=P) hG c2 (show zd3 H i.size (.hs l i' ver' 0 xs.length false)=some xs by simp[zd3,hg]) hs
 cases hs with
 |hs _ _ _ _ _ _ _ _ _ hd hv ha=>
  obtain⟨rfl,rfl,⟨hcap,hcap2,hff⟩,hle⟩:=ha _ _ _ _ hg;obtain⟨cur,k1,k2,k3,k3',k4,k5,k6⟩:=y59 hG hg;rw[Nat.zero_mul]at *;by_cases hfit:xs.length+ys.length<=cap
  have hf2:0+xs.length * i.size+news.size<=cur.size:=by
   rw[n1,k3,Nat.zero_add,<-Nat.add_mul];exact Qau _ (by omega)
  have hrun:=y9a (P:=P) (W:=W) (ty:=ty) ht hu hdu hi hlen (n4 W.drawn) n2 hfit k1 hf2;rw[Nat.zero_add]at hrun;obtain⟨p1,p2⟩:=zht cur (xs.length * i.size) news;obtain⟨s1,s2,s3,s4⟩:=zp2 W (g.ab l i') (putCells cur (xs.length * i.size) news)
  obtain⟨q1,q2⟩:=zei hG (o':=.arr (ver'+1) e' i.size (xs++ys) none) hg rfl s1 s2 s3 s4 (λb _ hb=>setRow_other W _ b _ hb)
   (λ_ _ _ _ _ h=>by cases h;exact⟨ver',xs,cp,rfl,Nat.le_succ _,λh=>by omega⟩) (λhst=>by
   have hm:zxu W g H i.size (xs++ys) (putCells cur (xs.length * i.size) news):=k6.append n3 (λj hj=>by
    rw[Qae,p2,Qbr (by omega),<-Qae]) (λj hj=>by
    rw[Qae,p2,Qbq ⟨by omega,by rw[n1];omega,by rw[n1]at hf2;omega⟩,show xs.length * i.size+j-xs.length * i.size=j by omega,<-Qae])
   have hm':=hm.mono hst
   exact⟨_,setRow_heap W _ cur _ e' _ k1,k2,by rw[p1];exact k3,k3',by simp;omega,by simp,hm'.1,hm'.2.1,hm'.2.2⟩)
  refine⟨_,_,g,.inl (by simp[hrun];rfl),q1,q2,?_⟩;refine .hs _ _ _ _ _ _ _ _ _ hd (λv ty sz zs cp hg' =>?_) λty sz zs cp hg' =>?_
  rw[Heap.zy8 hg,Qbq ⟨rfl,rfl⟩]at hg';injection hg' with hg';injection hg' with e1 _ _ _ _;omega;rw[Heap.zy8 hg,Qbq ⟨rfl,rfl⟩]at hg';injection hg' with hg';injection hg' with _ _ e3 e4 _;subst e3;subst e4;exact⟨by simp,rfl,⟨hfit,by omega,by simp⟩,by simp⟩;obtain⟨cap',d,j1,j2,j3,j4,j5⟩:=fresh (some ⟨g.ab l i',0,none⟩) xs.length cap xs olds rfl rfl (by omega) hroom o3 o5 o6
  have hGd:=hG.grow (Grow.drawn W d)
  obtain⟨q1,q2⟩:=yw5 hGd (zs:=xs++ys) hg (W':=({W with drawn:=d}:World).alloc (.cells (olds++news++Builtin.zeroCells z.cells (cap'-(xs.length+ys.length))) e')) rfl cap' (λhst=>by
   have hm:=(j5.mono (Grow.drawn W d).step).mono hst;refine⟨_,?_,k2,?_,?_,?_,by simp,hm.1,hm.2.1,hm.2.2⟩;simp only[Gh.move,and_self,if_true];exact z2p _ _;simpa[Gh.move]using j4;simpa[Gh.move]using j2
   simp[Gh.move];omega)
  refine⟨_,_,_,.inl (by simp[j3];rfl),(Grow.drawn W d).step.trans q1,q2,?_⟩;refine .hs _ _ _ _ _ _ _ _ _ hd (λv ty sz zs cp hg' =>?_) λty sz zs cp hg' =>?_
  rw[Heap.zy8 hg,Qbq ⟨rfl,rfl⟩]at hg';injection hg' with hg';injection hg' with e1 _ _ _ _;omega;rw[Heap.zy8 hg,Qbq ⟨rfl,rfl⟩]at hg';injection hg' with hg';injection hg' with _ _ e3 e4 _;subst e3;subst e4;exact⟨by simp[Gh.move],rfl,⟨j1,by simp[Gh.move],by simp⟩,by simp⟩
 cases h;cases h;cases h;cases h;cases h;cases h;cases h
end
section
variable {W : World} {g : Gh} {H : Heap} {P : Program}
def zde(s:B8)(pos:Nat):Nat×Nat:=Utf8.decode ⟨s.toArray⟩ pos
def ynl(P:Program)(H:Heap)(t:Nat)(x:V):Option (V×Heap) :=
 match x with
 |.str s=>match P.underlying t with
  |some .string=>some (.ptr H.lv H.L.length 0,H.push (.siter s 0))
  |_=>none
 |_=>none
theorem yot(hG:Good W g H){t x v c H'}(h:ynl P H t x=some (v,H'))(hx:Rel W g H x c):z8c P W g H (do pure (.value (<-Instr.range t c))) v H':=by
 unfold ynl at h;split at h;rename_i s;split at h;rename_i hu;injection h with h;cases h;cases hx
 obtain⟨h1,h2⟩:=zh2 hG (O:=.stringIter ⟨s.toArray⟩ 0) (o:=.siter s 0) 0 (λW' g' H' hW hg hH hst=>by
  show W'.heap[g'.blk H.lv H.L.length]? = _;rw[hW,hg];simp only[Gh.add,if_true]
  exact z2p _ _)
 refine⟨.pointer (some ⟨W.heap.size,0,none⟩),_,_,.inl ?_,h1,h2,?_⟩;simp[Instr.range,yz3 hu];have:=Rel.ptr (W:=W.alloc (.stringIter ⟨s.toArray⟩ 0)) (g:=g.add H.lv H.L.length W.heap.size 0) (H:=H.push (.siter s 0)) H.lv H.L.length 0 (.inr ⟨rfl,rfl⟩);simpa[Gh.add]using this;cases h;cases h
def yji(H:Heap)(x:V)(str:Bool):Option (V×Heap) :=
 match x,str with
 |.ptr l i 0,true=>match H.get l i with
  |some (.siter s pos)=>if pos<s.length then some (.tup [.bool true,.int .i64 pos,.int .i32 (zde s pos).1],H.set l i (.siter s (pos+(zde s pos).2)))else some (.tup [.bool false],H)
  |_=>none
 |_,_=>none
theorem ysl(hG:Good W g H){ty:Nat}{x v c str H'}(h:yji H x str=some (v,H'))(hx:Rel W g H x c):z8c P W g H (do pure (.value (<-Instr.next c str ty))) v H':=by
 unfold yji at h;split at h
 ·rename_i l i;split at h
  ·rename_i s pos hg
   cases hx with
   |ptr _ _ _ hd=>
    have ho:=hG.obj _ _ _ hg;have hob:W.heap[g.blk l i]? = some (.stringIter ⟨s.toArray⟩ pos):=ho;have hlt:=hG.lt _ _ _ hg;split at h
    ·rename_i hp;injection h with h;cases h
     have hrun:(do pure (.value (<-Instr.next (.pointer (some ⟨g.blk l i,0,none⟩)) true ty)):Sem Next).run P W =
       .ok (.value (.tuple #[.bool true,.int .i64 pos,.int .i32 (zde s pos).1])) {W with heap:=W.heap.setIfInBounds (g.blk l i) (.stringIter ⟨s.toArray⟩ (pos+(zde s pos).2))}:=by
      have hp':pos<ByteArray.size ⟨s.toArray⟩:=by simpa[ByteArray.size]using hp
      simp[Instr.next,getObj,Sem.run,hob,hp',setObj,goInt,zde]
     obtain⟨h1,h2⟩:=zei hG (o':=.siter s (pos+(zde s pos).2)) hg rfl (W':={W with heap:=W.heap.setIfInBounds (g.blk l i) (.stringIter ⟨s.toArray⟩ (pos+(zde s pos).2))}) rfl rfl rfl (by simp)
      (λb hb hne=>by
        have hne':g.blk l i≠b:=λe=>hne e.symm
        grind) (λver ty sz xs cp he=>by cases he) (λhst=>by
        show(Array.setIfInBounds _ _ _)[g.blk l i]? = _
        grind)
     refine⟨_,_,_,.inl hrun,h1,h2,.tup _ _ rfl λj v hj =>?_⟩
     match j with
     |0=>simp at hj;subst hj;exact .bool true
     |1=>simp at hj;subst hj;exact .int .i64 _
     |2=>simp at hj;subst hj;exact .int .i32 _
     |j+3=>simp at hj
    ·rename_i hp;injection h with h;cases h;refine⟨.tuple #[.bool false],W,g,.inl ?_,.refl _ _ _,hG,.tup _ _ rfl λj v hj =>?_⟩
     ·have hp':¬pos<ByteArray.size ⟨s.toArray⟩:=by simpa[ByteArray.size]using hp
      simp[Instr.next,getObj,Sem.run,hob,hp']
     match j with
     |0=>simp at hj;subst hj;exact .bool false
     |j+1=>simp at hj
  cases h
 cases h
end
section
variable {W : World} {g : Gh} {H : Heap} {P : Program}
def y52(P:Program)(H:Heap)(t:Nat)(d s:V):Option (V×Heap) :=
 match P.underlying t with
 |some (.slice e)=>if (P.info? e).isSome then
  match d,s with
  |.sl _ [] _,.hs l i ver off n full=>match H.get l i with
   |some (.arr ver' _ _ _ _)=>if ver'=ver then some (.int .i64 0,H)else none
   |_=>none
  |.hs l i ver off n full,.hs l2 i2 ver2 off2 n2 full2=>if l2=l∧i2=i∧ver2=ver then
   match H.get l i with
   |some (.arr ver' ty sz xs cp)=>if ver'=ver∧sz=P.cellsOf e then
    some (.int .i64 (min n2 n:Nat),H.set l i (.arr ver ty sz (xs.take off++((xs.drop off2).take (min n2 n)++xs.drop (off+min n2 n))) cp))else none
   |_=>none
   else none
  |_,_=>none
  else none
 |_=>none
theorem yie{t u ty e i}(ht:P.underlying t=some (.slice e))(hi:P.info? e=some i){b o o2 dLen dCap sLen sCap bty:Nat}{cur}(hb:W.heap[b]? = some (.cells cur bty (0,0)))
  (h1:o+Nat.min sLen dLen * i.size<=cur.size) (h2:o2+Nat.min sLen dLen * i.size<=cur.size) (ho:∀j,o2<=j->j<o2+Nat.min sLen dLen * i.size->(cur.getD j undef).oneCell'=true) :
  (Builtin.copy_ #[t,u] ty #[.slice (some ⟨b,o,none⟩) dLen dCap,.slice (some ⟨b,o2,none⟩) sLen sCap]).run P W =
   .ok (goInt (Nat.min sLen dLen)) (W.setRow b (putCells cur o (cur.extract o2 (o2+Nat.min sLen dLen * i.size)))):=by
 have hlen:(cur.extract o2 (o2+Nat.min sLen dLen * i.size)).toList.length=Nat.min sLen dLen * i.size:=by simp;omega
 have hl:=run_loadCells_list (P:=P) (w:=W) (a:=⟨b,o2,none⟩) (cur.extract o2 (o2+Nat.min sLen dLen * i.size)).toList (λj v hj=>by
  have hj':(cur.extract o2 (o2+Nat.min sLen dLen * i.size))[j]? = some v:=by grind
  have hlt:=(Qbh.1 hj').1;rw[Array.getElem?_extract,Qbq (by simp at hlt;omega)]at hj'
  grind[Addr.add,World.cell?])
 have hst:=run_storeCells_at P b o bty (cur.extract o2 (o2+Nat.min sLen dLen * i.size)).toList 0 cur W hb (by omega) (λv hv=>by
  obtain⟨j,hj,rfl⟩:=List.getElem_of_mem hv;have hj':=by omega
  have:=ho (o2+j) (by omega) (by omega);rw[Qae]at this
  grind)
 simp only[Nat.add_zero]at hst;rw[zmq cur o _ (by grind)]at hst
 simp_all[Builtin.copy_,yz3,Builtin.lenOf,Builtin.firstCells,sizeOf,typeInfo]
theorem ys7(hG:Good W g H){t u ty:Nat}{d s v:V}{cd cs:Value}{H':Heap}(h:y52 P H t d s=some (v,H'))(hd:Rel W g H d cd)(hs:Rel W g H s cs) :
  z8c P W g H (do pure (.value (<-Builtin.copy_ #[t,u] ty #[cd,cs]))) v H':=by
 unfold y52 at h;split at h;rename_i e ht;split at h;rename_i hi;obtain⟨i,hi⟩:=Option.isSome_iff_exists.1 hi;split at h;rename_i sz fu l i' ver off n full;split at h;rename_i ver' ty' sz' xs cp hg;split at h;rename_i hv;subst hv;injection h with h;injection h with h1 h2;subst h1;subst h2
 have hrun:(Builtin.copy_ #[t,u] ty #[cd,cs]).run P W = .ok (goInt 0) W:=by
  cases hs with
  |hs _ _ _ _ _ _ a m cap hdm hv ha=>
   obtain⟨rfl,rfl,_,_⟩:=ha _ _ _ _ hg
   cases hd with
   |slnil=>simp[Builtin.copy_,yz3 ht,Builtin.lenOf,Builtin.firstCells,sizeOf,typeInfo,hi];rfl
   |sle _ _ a cap' hf=>simp[Builtin.copy_,yz3 ht,Builtin.lenOf,Builtin.firstCells,sizeOf,typeInfo,hi,storeCells];rfl
   |sl _ _ _ b o cap' c=>simp[Builtin.copy_,yz3 ht,Builtin.lenOf,Builtin.firstCells,sizeOf,typeInfo,hi,storeCells];rfl
 exact⟨_,W,g,.inl (by simp[hrun];rfl),.refl _ _ _,hG,.int _ _⟩;cases h;cases h;rename_i l i' ver off n full l2 i2 ver2 off2 n2 full2;split at h;rename_i hk;obtain⟨rfl,rfl,rfl⟩:=hk;split at h;rename_i ver' ty' sz xs cp hg;split at h;rename_i hc;obtain⟨rfl,hce⟩:=hc;injection h with h;injection h with h1 h2;subst h1;subst h2;obtain rfl:sz=i.size:=hce.trans (by simp[Program.cellsOf,hi])
 obtain⟨cur,k1,k2,k3,k3',k4,k5,k6,k7,k8⟩:=hG.obj _ _ _ hg
 cases hd with
 |hs _ _ _ _ _ _ a m cap hdm hv ha=>
  obtain⟨rfl,rfl,⟨a1,a2,_⟩,a3⟩:=ha _ _ _ _ hg
  cases hs with
  |hs _ _ _ _ _ _ a' m' cap' hdm' hv' ha'=>
   obtain⟨rfl,rfl,⟨b1,b2,_⟩,b3⟩:=ha' _ _ _ _ hg;have hmn:Nat.min m' m=min m' m:=rfl;have hcap:∀q,q<=g.cap l2 i2->q * i.size<=cur.size:=λq hq=>by rw[k3];exact Qau _ hq
   have f1:off * i.size+min m' m * i.size<=cur.size:=by rw[<-Nat.add_mul];exact hcap _ (by omega)
   have f2:off2 * i.size+min m' m * i.size<=cur.size:=by rw[<-Nat.add_mul];exact hcap _ (by omega)
   have cellOf:∀(j t:Nat),j<xs.length->t<i.size->∃x v,xs[j]? = some x∧x.cells[t]? = some v∧x.cells.length=i.size:=λj t hj ht'=>by
    have hl:=k6 j xs[j] (Qab hj);exact⟨xs[j],xs[j].cells[t]'(by omega),Qab hj,Qab _,hl⟩
   have hone:∀j,off2 * i.size<=j->j<off2 * i.size+min m' m * i.size->(cur.getD j undef).oneCell'=true:=λj q1 q2=>by
    have hq:j / i.size<xs.length:=by
     have:j<(off2+min m' m) * i.size:=by rw[Nat.add_mul];exact q2
     have:=Nat.div_lt_of_lt_mul (show j<i.size * (off2+min m' m) by rw[Nat.mul_comm];exact this);omega
    obtain⟨x,v,e1,e2,_⟩:=cellOf (j / i.size) (j % i.size) hq (Nat.mod_lt _ k2);have:=k7 _ _ _ _ e1 e2;rwa[Nat.mul_comm,Nat.div_add_mod]at this
   have hrun:=yie (W:=W) (u:=u) (ty:=ty) (dLen:=m) (dCap:=cap) (sLen:=m') (sCap:=cap') ht hi k1 f1 f2 hone;rw[hmn]at hrun;obtain⟨p1,p2⟩:=zht cur (off * i.size) (cur.extract (off2 * i.size) (off2 * i.size+min m' m * i.size));obtain⟨s1,s2,s3,s4⟩:=zp2 W (g.ab l2 i2) (putCells cur (off * i.size) (cur.extract (off2 * i.size) (off2 * i.size+min m' m * i.size)))
   have hxl:(xs.take off++((xs.drop off2).take (min m' m)++xs.drop (off+min m' m))).length=xs.length:=by simp;omega
   have hget:∀j,j<xs.length->(xs.take off++((xs.drop off2).take (min m' m)++xs.drop (off+min m' m)))[j]? = if off<=j∧j<off+min m' m then xs[off2+(j-off)]? else xs[j]? := λj hj=>by
    by_cases c1:j<off;rw[Qal (by simp;omega),Qaw,Qbq c1,Qbr (by omega)];rw[Qav (by simp;omega)];have l1:(xs.take off).length=off:=by simp;omega
    rw[l1];have l2:((xs.drop off2).take (min m' m)).length=min m' m:=by simp;omega
    by_cases c2:j<off+min m' m;rw[Qal (by rw[l2];omega),Qaw,Qbq (by omega),Qbb,Qbq ⟨by omega,c2⟩];rw[Qav (by rw[l2];omega),l2,Qbb,Qbr (by omega)]
    congr 1;omega
   have hcell:∀j t,j<xs.length->t<i.size->(putCells cur (off * i.size) (cur.extract (off2 * i.size) (off2 * i.size+min m' m * i.size))).getD (j * i.size+t) undef=if off<=j∧j<off+min m' m then cur.getD ((off2+(j-off)) * i.size+t) undef else cur.getD (j * i.size+t) undef:=λj t hj htt=>by
    have hex:(cur.extract (off2 * i.size) (off2 * i.size+min m' m * i.size)).size=min m' m * i.size:=by simp;omega
    have hjt:j * i.size+t<cur.size:=by
     have:(j+1) * i.size<=g.cap l2 i2 * i.size:=Qau _ (by omega);rw[Nat.add_mul,Nat.one_mul]at this;rw[k3];omega
    rw[Qae,p2 (j * i.size+t)];by_cases c:off<=j∧j<off+min m' m;have e1:off * i.size<=j * i.size:=Qau _ c.1;have e2:(j+1) * i.size<=(off+min m' m) * i.size:=Qau _ (by omega);rw[Nat.add_mul,Nat.add_mul,Nat.one_mul]at e2;have e3:(j-off) * i.size=j * i.size-off * i.size:=Nat.sub_mul _ _ _
    rw[Qbq ⟨by omega,by rw[hex];omega,hjt⟩,Qbq c,Qae,Array.getElem?_extract,Qbq (by omega)]
    congr 2
    rw[Nat.add_mul,e3];omega;rw[Qbr,Qbr c,Qae];rw[hex];intro hh;apply c;constructor
    rcases Nat.lt_or_ge j off with q|q
    have:(j+1) * i.size<=off * i.size:=Qau _ q;rw[Nat.add_mul,Nat.one_mul]at this;omega;exact q
    rcases Nat.lt_or_ge j (off+min m' m)with q|q
    exact q;have:(off+min m' m) * i.size<=j * i.size:=Qau _ q;rw[Nat.add_mul]at this;omega
   have hsel:∀(j:Nat) (x:V) (t:Nat) (v:V),(xs.take off++((xs.drop off2).take (min m' m)++xs.drop (off+min m' m)))[j]? = some x->x.cells[t]? = some v ->
     ∃j',xs[j']? = some x∧(putCells cur (off * i.size) (cur.extract (off2 * i.size) (off2 * i.size+min m' m * i.size))).getD (j * i.size+t) undef=cur.getD (j' * i.size+t) undef:=λj x t v hj htv=>by
    have hjl:j<xs.length:=by rw[<-hxl];exact(Qaa.1 hj).1
    rw[hget j hjl]at hj;have htl:∀j',xs[j']? = some x->t<i.size:=λj' h'=>by have:=k6 _ _ h';have:=(Qaa.1 htv).1;omega
    split at hj;rename_i c;exact⟨_,hj,by rw[hcell j t hjl (htl _ hj),Qbq c]⟩;rename_i c;exact⟨_,hj,by rw[hcell j t hjl (htl _ hj),Qbr c]⟩
   obtain⟨q1,q2⟩:=zei hG (o':=.arr ver' ty' i.size (xs.take off++((xs.drop off2).take (min m' m)++xs.drop (off+min m' m))) cp) hg rfl s1 s2 s3 s4 (λb _ hb=>setRow_other W _ b _ hb)
    (λver ty sz zs cp' he=>by injection he with e1 e2 e3 e4 e5;subst e1;subst e2;subst e3;subst e4;exact⟨_,xs,cp,rfl,Qbp _,λ_=>by rw[hxl];exact Qbp _⟩) (λhst=>by
    refine⟨_,setRow_heap W _ cur _ ty' _ k1,k2,by rw[p1];exact k3,k3',by rw[hxl];exact k4,k5,λj x hj =>?_,λj x t v hj htv =>?_,λj x t v hj htv =>?_⟩;have hjl:j<xs.length:=by rw[<-hxl];exact(Qaa.1 hj).1
    rw[hget j hjl]at hj;split at hj <;> exact k6 _ _ hj
    obtain⟨j',c1,c2⟩:=hsel j x t v hj htv;rw[c2];exact k7 _ _ _ _ c1 htv;obtain⟨j',c1,c2⟩:=hsel j x t v hj htv
    rw[c2];exact(k8 _ _ _ _ c1 htv).mono hst)
   exact⟨_,_,g,.inl (by simp[hrun];rfl),q1,q2,.int _ _⟩
 cases h;cases h;cases h;cases h;cases h;cases h
end
section
variable {P : Program}
def ox(P:Program)(H:Heap)(ρ:Operand->V):Op->Option (V×Heap)
 |.alloc t=>ye0 P H t
 |.box _ x=>hBox H (ρ x)
 |.store t a x=>zey P H t (ρ a) (ρ x)
 |.makeMap t r=>zxk P H t (r.map ρ)
 |.mapUpdate t m k x=>zgy P H t (ρ m) (ρ k) (ρ x)
 |.insert t m k x=>zgy P H t (ρ m) (ρ k) (ρ x)
 |.range t x=>ynl P H t (ρ x)
 |.next i b=>yji H (ρ i) b
 |.call c=>match c.callee with
  |.builtin .append=>match c.args.toList,c.argTypes.toList with
   |[s,x],[t,u]=>hAppend P H t u (ρ s) (ρ x)
   |_,_=>none
  |.builtin .copy=>match c.args.toList,c.argTypes.toList with
   |[s,x],[t,u]=>y52 P H t (ρ s) (ρ x)
   |_,_=>none
  |_=>(zda P H ρ c).map λv=>(v,H)
 |o=>(pv P H ρ o).map λv=>(v,H)
theorem yei{W g H H' ρ r o v}(hG:Good W g H)(hρ:∀x,Rel W g H (ρ x) (r x))(h:ox P H ρ o.op=some (v,H')):z8c P W g H (execOp r o) v H':=by
 have pure':∀{q:Option V},(q.map λv=>(v,H))=some (v,H')->q=some v∧H'=H:=λ{q} h=>by
  grind[Qaf]
 unfold ox at h;split at h;rename_i t heq;unfold execOp;rw[heq];exact yoc hG h
 grind[execOp,yx9]
 grind[execOp,yo8]
 grind[execOp,yhn,yam]
 grind[execOp,zul]
 grind[execOp,zul]
 rename_i t x heq;unfold execOp;rw[heq];exact yot hG h (hρ x)
 grind[execOp,ysl]
 rename_i c heq;split at h;rename_i hcal;split at h;rename_i s x t u hargs htys;unfold execOp;rw[heq];have:=yl5 (ty:=o.type) hG h (hρ s) (hρ x);obtain⟨callee,args,argTypes⟩:=c;simp at hcal hargs htys;subst hcal;obtain rfl:=z05 hargs;obtain rfl:=z05 htys;obtain⟨c,W',g',h1,h2,h3,h4⟩:=this;refine⟨c,W',g',?_,h2,h3,h4⟩
 rcases h1 with h1|⟨h1,h1'⟩
 grind[resolve,invoke,builtin]
 grind[resolve,invoke,builtin]
 cases h;rename_i hcal;split at h;rename_i s x t u hargs htys;unfold execOp;rw[heq];have:=ys7 (u:=u) (ty:=o.type) hG h (hρ s) (hρ x);obtain⟨callee,args,argTypes⟩:=c;simp at hcal hargs htys;subst hcal;obtain rfl:=z05 hargs;obtain rfl:=z05 htys;obtain⟨c,W',g',h1,h2,h3,h4⟩:=this;refine⟨c,W',g',?_,h2,h3,h4⟩
 rcases h1 with h1|⟨h1,h1'⟩
 grind[resolve,invoke,builtin]
 grind[resolve,invoke,builtin]
 cases h;obtain⟨h1,rfl⟩:=pure' h;exact(y45 hG hρ (o:=o) (v:=v) (by rw[heq];exact h1)).turns hG;obtain⟨h1,rfl⟩:=pure' h;exact(y45 hG hρ h1).turns hG
structure St where
 t:List V
 H:Heap
 d:List (Nat×List V)
 e0:Nat->Nat->Option kzg
def gv(k:Nat):V:=match gl k with
 |some cs=>.ref (cs.map λp=>.int p.1 p.2) 0
 |none=>.any
theorem z066{W g H}(h:zkx W g H)(k):Rel W g H (gv k) (.pointer (some ⟨k,0,none⟩)):=by
 unfold gv;split;rename_i cs hk;obtain⟨h1,ty,q,h2⟩:=h.1 k cs hk;refine .ref _ 0 k 0 (λj=>(cs[j]?.map λp=>Value.int p.1 p.2).getD undef) (λ_=>h1) (λj v hj =>?_) (λj v hj =>?_) (λj v hj =>?_);rw[Qan]at hj;simp only[Qaf]at hj;obtain⟨p,hp,rfl⟩:=hj;simp[World.cell?,h2,hp];rw[Qan]at hj;simp only[Qaf]at hj;obtain⟨p,hp,rfl⟩:=hj;simp[hp,Value.oneCell']
 rw[Qan]at hj;simp only[Qaf]at hj;obtain⟨p,hp,rfl⟩:=hj;simp[hp,Option.getD_some];exact .int _ _;exact .any _
def St.ev(σ:St):Operand->V
 |.tmp t=>σ.t.getD t .any
 |.const v=>ofConst v
 |.global k=>gv k
 |.func f=>.fn f [] []
def St.put(σ:St)(dst:Option Nat)(v:V):St :=
 match dst with
 |some d=>{σ with t:=σ.t.set d v}
 |none=>σ
def zl8:Nat:=4000000000
def yjd(W:World)(g:Gh)(H:Heap)(d:Option Deferred)(f:Nat)(vs:List V):Prop :=
 (f<zl8∧∃caps as,d=some ⟨.fn (.func f) caps,as⟩∧zk0 W g H vs (as++caps))∨(f=zl8∧∃D,d=some ⟨.collected D,#[]⟩∧W.heap[D]? = some (.deferred (some []))∧g.base<=D)
theorem yvl{W g H}(hG:Good W g H){b x}(h:W.heap[b]? = some (.deferred x)):¬Own g H b:=λ⟨l,i,o,ho,hb⟩=>by
 have hr:=hG.obj l i o ho
 cases o with
 |cells cs=>obtain⟨c,ty,k,_⟩:=hr;rw[show g.blk l i=b from hb,h]at k;cases k
 |arr ver ty sz xs cp=>obtain⟨c,k,_⟩:=hr;rw[show g.ab l i=b from hb,h]at k;cases k
 |map es=>obtain⟨en,clock,k,_⟩:=hr;rw[show g.blk l i=b from hb,h]at k;cases k
 |siter s pos=>have k:W.heap[g.blk l i]? = _:=hr;rw[show g.blk l i=b from hb,h]at k;cases k
 |mit es vis=>obtain⟨en,clock,mb,k,_⟩:=hr;rw[show g.blk l i=b from hb,h]at k;cases k
structure zzb(W:World)(a:Act)(g:Gh)(σ:St):Prop where
 good:Good W g σ.H
 size:a.tmps.size=σ.t.length
 tmps:∀j v,σ.t[j]? = some v->Rel W g σ.H v (a.tmps.getD j undef)
 dlen:a.defers.length=σ.d.length
 defs:∀(j f:Nat) (vs:List V),σ.d[j]? = some (f,vs)->yjd W g σ.H a.defers[j]? f vs
theorem zk0.mono{W g H vs cs}(h:zk0 W g H vs cs){W' g' H'}(s:Step W g H W' g' H'):zk0 W' g' H' vs cs:=⟨h.1,λj v hj=>(h.2 j v hj).mono s⟩
theorem yjd.mono{W g H}(hG:Good W g H){d f vs}(h:yjd W g H d f vs){W' g' H'}(s:Step W g H W' g' H'):yjd W' g' H' d f vs:=by
 rcases h with ⟨h0,caps,as,h1,h2⟩|⟨h0,D,h1,h2,h3⟩
 exact .inl ⟨h0,caps,as,h1,h2.mono s⟩;exact .inr ⟨h0,D,h1,(s.block D (Qbh.1 h2).1 (yvl hG h2)).trans h2,by rw[s.base];exact h3⟩
theorem yjd.fn{W g H d f vs}(h:yjd W g H d f vs)(hf:f<zl8):∃caps as,d=some ⟨.fn (.func f) caps,as⟩∧zk0 W g H vs (as++caps):=by
 rcases h with ⟨_,h⟩|⟨h0,_⟩
 exact h;omega
theorem zzb.ev{W a g σ}(h:zzb W a g σ)(x):Rel W g σ.H (σ.ev x) (a.eval x):=by
 cases x with
 |tmp t=>
  simp only[St.ev,Act.eval]
  cases ht:σ.t[t]? with
  |none=>rw[List.getD_eq_getElem?_getD,ht];exact .any _
  |some v=>rw[List.getD_eq_getElem?_getD,ht];exact h.tmps t v ht
 |const v=>exact zor v
 |global k=>exact z066 h.good.zns k
 |func f=>exact .fn f [] [] #[] #[] rfl rfl (by simp) (by simp)
theorem zzb.next{W a g σ}(h:zzb W a g σ){W' g' H'}(s:Step W g σ.H W' g' H')(hG:Good W' g' H'){v c}(hr:Rel W' g' H' v c)(dst:Option Nat) :
  zzb W' (a.put dst c) g' ({σ with H:=H'}.put dst v):=by
 have hH:({σ with H:=H'}.put dst v).H=H':=by cases dst <;> rfl
 have hd:({σ with H:=H'}.put dst v).d=σ.d:=by cases dst <;> rfl
 have had:(a.put dst c).defers=a.defers:=by cases dst <;> rfl
 refine⟨by rw[hH];exact hG,?_,?_,by rw[had,hd];exact h.dlen,λj f vs hj =>?_⟩
 cases dst with
 |none=>exact h.size
 |some d=>simpa[Act.put,St.put]using h.size
 intro j u hj;rw[hH]
 cases dst with
 |none=>exact(h.tmps j u hj).mono s
 |some d=>
  simp[St.put]at hj;rw[Qbd]at hj;simp[Act.put,Array.getElem?_setIfInBounds];split at hj;rename_i hdj;subst hdj;split at hj;rename_i hlt;cases hj;rw[Qbq rfl,Qbq (by rw[h.size];exact hlt)];exact hr;cases hj;rename_i hdj;rw[Qbr hdj,<-Qae];exact(h.tmps j u hj).mono s
 rw[hd]at hj;rw[had,hH];exact(h.defs j f vs hj).mono h.good s
def y0g(P:Program)(f:Nat)(args:List V)(H:Heap)(r:V)(H':Heap):Prop :=
 ∀(W) (g) (cargs),Good W g H->zk0 W g H args cargs ->
  ((callFunc f cargs).run P W = .ok (.enter f cargs) W∧Calls P f cargs W (λe W'=>∃c g',e = .returned c∧Step W g H W' g' H'∧Good W' g' H'∧Rel W' g' H' r c)) ∨
  ∃c W' g',(callFunc f cargs).run P W = .ok (.value c) W'∧Step W g H W' g' H'∧Good W' g' H'∧Rel W' g' H' r c
structure Claim where
 f:Nat
 args:List V
 H:Heap
 r:V
 H':Heap
def Claim.ok(P:Program)(c:Claim):Prop:=y0g P c.f c.args c.H c.r c.H'
def yzu(ops:Array Oper)(σ:St)(o:Oper):Option Bool :=
 match o.guard with
 |none=>some true
 |some (j,want)=>match (ops[j]?).bind (·.dst)with
  |some d=>match σ.t.getD d .any with
   |.bool b=>some (b==want)
   |.tup _=>some false
   |_=>none
  |none=>none
theorem z0c{W a g σ}(h:zzb W a g σ){ops o b}(hw:yzu ops σ o=some b):Region.wanted o (yielded ops a.tmps)=b:=by
 unfold yzu at hw;unfold Region.wanted;split at hw
 grind
 split at hw;rename_i d hd;split at hw;rename_i b' hb;cases hw
 have hlt:d<σ.t.length:=by
  grind
 have hr:=h.tmps d _ (Qab hlt);have hb':σ.t[d] = .bool b':=by grind
 rw[hb']at hr;have hsz:d<a.tmps.size:=by rw[h.size];exact hlt
 rw[Qae,Qas hsz]at hr;simp[Option.getD_some]at hr;generalize hc:a.tmps[d]=c at hr;cases hr
 grind[yielded]
 rename_i vs hb;cases hw
 have hlt:d<σ.t.length:=by
  grind
 have hr:=h.tmps d _ (Qab hlt);have hb':σ.t[d] = .tup vs:=by grind
 rw[hb']at hr;have hsz:d<a.tmps.size:=by rw[h.size];exact hlt
 rw[Qae,Qas hsz]at hr;simp[Option.getD_some]at hr;generalize hc:a.tmps[d]=c at hr;cases hr
 grind[yielded]
 cases hw;cases hw
def target(ρ:Operand->V)(c:Call):Option (Nat×List V) :=
 match c.callee with
 |.value f=>match ρ f with
  |.fn f first caps=>some (f,first++c.args.toList.map ρ++caps)
  |_=>none
 |_=>none
def y1v(P:Program)(ops:Array Oper):List Oper->List (V×Option Heap)->St->Option (St×List (V×Option Heap)×List Claim)
 |[],ans,σ=>some (σ,ans,[])
 |o::rest,ans,σ=>
  match yzu ops σ o with
  |none=>none
  |some b=>if b then
    (match ox P σ.H σ.ev o.op with
    |some (v,H')=>y1v P ops rest ans ({σ with H:=H'}.put o.dst v)
    |none=>match o.op with
     |.call c=>match target σ.ev c,ans with
      |some (f,args),(r,H')::ans'=>match y1v P ops rest ans' ({σ with H:=H'.getD σ.H}.put o.dst r)with
       |some (σ',l,cl)=>some (σ',l,⟨f,args,σ.H,r,H'.getD σ.H⟩::cl)
       |none=>none
      |_,_=>none
     |_=>none)
   else y1v P ops rest ans (σ.put o.dst (.tup []))
end
def ymo(o:Oper):Bool:=match o.op with
 |.defer _=>false
 |_=>true
def calm:Code->Bool
 |.region _ ops _=>ops.toList.all ymo
 |.seq a b=>calm a&&calm b
 |.cond _ a b=>calm a&&calm b
 |.block _ a=>calm a
 |.loop a=>calm a
 |.skip=>true
 |.exit _=>true
 |.ret=>true
 |_=>false
abbrev rF(r:Option Nat):Fence:={Fence.wide with round:=r}
def wpR(P:Program)(c:Code)(Q:Exit->Act->World->Prop)(a:Act)(w:World):Prop :=
 ∀r:Option Nat,(r=none∨calm c=true)->∀n,c.wpIn (rF r) n P Q a w
section
variable {P : Program} {Q Q' : Exit → Act → World → Prop} {a : Act} {w : World} {x y c : Code}
theorem wpR.wp(h:wpR P c Q a w):c.wp P Q a w:=(wpIn_wide (n:=0)).1 (h none (.inl rfl) 0)
theorem zws(h:wpR P c Q a w)(hq:∀e a w,Q e a w->Q' e a w):wpR P c Q' a w:=λr hr n=>wpIn_mono (h r hr n) hq
theorem z00i(h:Q .normal a w):wpR P .skip Q a w:=λr _ n=>wpIn_skip h
theorem yyo{id}(h:Q (.exit id) a w):wpR P (.exit id) Q a w:=λr _ n=>wpIn_exit h
theorem z03v(h:Q .ret a w):wpR P .ret Q a w:=λr _ n=>wpIn_ret h
theorem z04p(h:wpR P x (Exit.then (wpR P y Q) Q) a w):wpR P (.seq x y) Q a w:=λr hr n=>by
 have hx:r=none∨calm x=true:=hr.imp_right λh=>by simp_all[calm]
 have hy:r=none∨calm y=true:=hr.imp_right λh=>by simp_all[calm]
 refine wpIn_seq (wpIn_mono (h r hx n) λe a w he =>?_)
 cases e with
 |normal=>exact he r hy n
 |_=>exact he
theorem ye6{o t}(hc:a.eval o = .bool t)(ht:t=true->wpR P x Q a w)(hf:t=false->wpR P y Q a w):wpR P (.cond o x y) Q a w:=λr hr n=>by
 have hx:r=none∨calm x=true:=hr.imp_right λh=>by simp_all[calm]
 have hy:r=none∨calm y=true:=hr.imp_right λh=>by simp_all[calm]
 exact wpIn_cond_split hc (λe=>ht e r hx n) λe=>hf e r hy n
theorem yy3{id}(h:wpR P c (Exit.inBlock id Q) a w):wpR P (.block id c) Q a w:=λr hr n=>wpIn_block (h r (hr.imp_right λh=>h) n)
theorem z04e{o:Oper}{r n next next'}(hn:∀a w,next a w->next' a w)(hq:∀a w,¬Q .outgrown a w){res}(h:o.upon P a next Q res):o.uponIn (rF r) n P a next' Q res:=by
 cases res with
 |ok x w'=>
  cases x <;> simp[Oper.upon,Oper.uponIn]at h ⊢
  case enter f args=>
   refine⟨λh=>(by cases h),?_⟩
   have h2:=CallsIn.mono ((callsIn_wide (n:=n-1)).2 h) (R':=λe w''=>match e,w'' with
    |.returned v,w''=>next' (a.put o.dst v) w''
    |.panicked chain,w''=>Q (.panic chain) a w''
    |.outgrown,_=>LetsOut Q) λe w'' he=>by grind
   cases r with
   |none=>exact h2
   |some l=>exact CallsIn.inRound l h2
  case row row args=>
   exact⟨λh=>(by cases h),λc cs _=>let ⟨v,w',r,s⟩:=h c cs;⟨v,w',hn _ _ r,stepsIn_wide.2 s⟩⟩
  all_goals grind
 |halt x w'=>
  cases x <;> simp[Oper.uponIn]at h ⊢ <;> exact h
theorem yys{o ρ r}(h:r=none∨ymo o=true):o.semAt r ρ=execOp ρ o:=by
 rcases h with rfl|h
 simp[Oper.semAt];exact Oper.semAt_plain (rF r) ρ o λc e=>by rw[ymo,e]at h;cases h
theorem zv8{ops r n}(hr:r=none∨ops.toList.all ymo=true)(hq:∀a w,¬Q .outgrown a w):∀(l) (a) (w),wpOps P ops Q l a w->wpOpsIn (rF r) n P ops Q l a w
 |[],a,w,h=>h
 |i::rest,a,w,h=>by
  have hlo:¬LetsOut Q:=λ⟨a,w,h⟩=>hq a w h
  simp[wpOps,wpOpsIn]at h ⊢;split at h;rename_i ho;rw[ho];exact zv8 hr hq rest a w h;rename_i o ho;rw[ho];simp
  have hc:=hr.imp_right λh=>Qat.1 h o (by
   grind)
  split at h;rename_i hw;rw[Qbq hw]
  rcases h with h|⟨_,h⟩
  refine⟨λf _=>trivial,?_⟩;rw[show(rF r).round=r from rfl,yys hc];exact z04e (λa w=>zv8 hr hq rest a w) hq h;exact(hlo h).elim;rename_i hw;rw[Qbr hw];exact⟨λf _=>trivial,zv8 hr hq rest _ w h⟩
theorem ysb{id ops}(hq:∀a w,¬Q .outgrown a w)(h:wpOps P ops Q (List.range ops.size) a w):wpR P (.region id ops false) Q a w:=λr hr n=>
 wpIn_region (zv8 (hr.imp_right λh=>h) hq _ _ _ h)
theorem zi7{id ops}(hq:∀a w,¬Q .outgrown a w)(hm:P.follows .mixedOrders=true)(h:wpAny P .any ops Q ops.size (Array.replicate ops.size false) a {w with drawn:=w.drawn+1}) :
  wpR P (.region id ops true) Q a w:=λr hr n=>
 wpIn_region_draw λt=>by
  simp[hm,if_true];exact zv8 (hr.imp_right λh=>h) hq _ _ _ (wpAny_sound ops.size t _ a _ h)
def y2m(P:Program)(c:Code)(Q:Exit->Act->World->Prop)(a:Act)(w:World):Prop :=
 ∀r:Option Nat,(r=none∨calm c=true)->∀n,∀(b) (k) (cs),b.roundOf=r->(rF r).room (cs.length+1+n) ->
  ∃e a' w',Q e a' w'∧ArrivesIn (Machine.fenced P (rF r)) P (lone (b.atR a (.code c :: .inLoop c::k)) cs w) b k cs e a' w'
theorem y2m.wp(h:y2m P c Q a w):wpR P (.loop c) Q a w:=λr hr n b k cs hro hb hroom=>by
 obtain⟨e,a',w',hq,harr⟩:=h r (hr.imp_right λh=>h) n b k cs hro hroom;exact⟨e,a',w',hq,.of_steps (.one (fenced_calm (n:=n) trivial hroom rfl) stepR_loop) harr⟩
theorem y2m.round(h:wpR P c (Exit.then (y2m P c Q) Q) a w):y2m P c Q a w:=λr hr n b k cs hro hroom=>by
 obtain⟨e,a₁,w₁,hq,harr⟩:=h r hr n b (.inLoop c::k) cs hro trivial hroom
 cases e with
 |normal=>
  obtain⟨e₂,a₂,w₂,hq₂,harr₂⟩:=hq r hr n b k cs hro hroom
  exact⟨e₂,a₂,w₂,hq₂,.of_steps (StepsIn.trans harr (.one (fenced_calm (n:=n) trivial hroom rfl) stepR_inLoop)) harr₂⟩
 |exit id=>exact⟨_,a₁,w₁,hq,.pass (x:=.inLoop c) rfl (λ_ _=>.inl (by simp)) harr⟩
 |goto l=>exact⟨_,a₁,w₁,hq,.pass (x:=.inLoop c) rfl (λ_ _=>.inl (by simp)) harr⟩
 |ret=>exact⟨_,a₁,w₁,hq,.pass (x:=.inLoop c) rfl (λ_ _=>.inl (by simp)) harr⟩
 |panic ch=>exact⟨_,a₁,w₁,hq,.pass (x:=.inLoop c) rfl (λ_ _=>.inl (by simp)) harr⟩
 |outgrown=>exact⟨_,a₁,w₁,hq,.pass (x:=.inLoop c) rfl (λ_ _=>.inl (by simp)) harr⟩
end
section
variable {P : Program}
theorem zof{W g H xs ys a b}(h:zk0 W g H xs a)(k:zk0 W g H ys b):zk0 W g H (xs++ys) (a++b):=by
 refine⟨by simp[h.1,k.1],λj v hj =>?_⟩;rw[Qba]at hj;split at hj;rename_i hlt;rw[z1n (by rw[h.1];exact hlt)];exact h.2 j v hj;have:j=a.size+(j-xs.length):=by rw[h.1];omega
 rw[this,zik];exact k.2 _ v hj
theorem zfk{W g H ρ r}(hρ:∀x,Rel W g H (ρ x) (r x)){c ty f args}(h:target ρ c=some (f,args)) :
  ∃cargs,zk0 W g H args cargs∧∀w:World,(do let d <-resolve r c ty;invoke d.target d.args:Sem Next).run P w=(callFunc f cargs).run P w:=by
 unfold target at h;split at h;rename_i fo hc;split at h;rename_i f' first caps hf;injection h with h;cases h;have hr:=hρ fo;rw[hf]at hr;generalize hrc:r fo=rc at hr
 cases hr with
 |fn _ _ _ fs cs n1 n2 r1 r2=>
  refine⟨fs++c.args.map r++cs,zof (zof ⟨n1,r1⟩ (zx0 hρ c.args)) ⟨n2,r2⟩,λw =>?_⟩
  grind[resolve,Deferred.ofValue,invoke]
 cases h;cases h
inductive z0j where
 |normal
 |exit (id:Nat)
 |ret
 |panic (v:V)
inductive ywk (W:World) (g:Gh) (H:Heap):Exit->z0j->Prop where
 |normal:ywk W g H .normal .normal
 |exit (id:Nat):ywk W g H (.exit id) (.exit id)
 |ret:ywk W g H .ret .ret
 |panic (v:V) (c:Value) (h:Rel W g H v c):ywk W g H (.panic [{v:=c,recovered:=false}]) (.panic v)
def yil(W0:World)(g0:Gh)(H0:Heap)(Q:z0j->St->Prop)(e:Exit)(a:Act)(W:World):Prop :=
 ∃g σ e',ywk W g σ.H e e'∧(σ.e0=H0.E∧Step W0 g0 H0 W g σ.H)∧zzb W a g σ∧Q e' σ
structure Base(W0:World)(g0:Gh)(H0:Heap):Prop where
 good:Good W0 g0 H0
theorem ztl{ops:Array Oper}{Q:Exit->Act->World->Prop}{W0:World}{g0:Gh}{H0:Heap}:∀(l:List Oper) (k:Nat) (ans rest:List (V×Option Heap)) (σ σ':St) (cl:List Claim) (W:World) (a:Act) (g:Gh),
  (∀j,l[j]? = ops[k+j]?)->y1v P ops l ans σ=some (σ',rest,cl)->(∀c∈cl,c.ok P)->zzb W a g σ->(σ.e0=H0.E∧Step W0 g0 H0 W g σ.H) ->
  (∀W' a' g',(σ'.e0=H0.E∧Step W0 g0 H0 W' g' σ'.H)->zzb W' a' g' σ'->Q .normal a' W')->wpOps P ops Q (List.range' k l.length) a W
 |[],k,ans,rest,σ,σ',cl,W,a,g,hl,h,hc,hG,hS,hQ=>by
  simp only[y1v,Qbn,Qbs]at h;obtain⟨rfl,_,_⟩:=h
  exact hQ W a g hS hG
 |o::l,k,ans,rest,σ,σ',cl,W,a,g,hl,h,hc,hG,hS,hQ=>by
  have ho:ops[k]? = some o:=by simpa using(hl 0).symm
  have hl':∀j,l[j]? = ops[k+1+j]? := λj=>by have:=hl (j+1);simpa[Nat.add_assoc,Nat.add_comm 1 j]using this
  simp only[List.length_cons,List.range'_succ,wpOps,ho];simp only[y1v]at h;split at h;cases h
  ·rename_i b hw;rw[z0c hG hw];split at h
   ·rename_i hb;subst hb;rw[Qbq rfl];left;unfold Oper.wp;split at h
    ·rename_i v H' hox;obtain⟨c,W',g',h1,h2,h3,h4⟩:=yei (P:=P) (r:=a.eval) hG.good hG.ev hox
     have hnext:=ztl l (k+1) ans rest _ σ' cl W' (a.put o.dst c) g' hl' h hc (hG.next h2 h3 h4 o.dst) (by
      have:({σ with H:=H'}.put o.dst v).H=H':=by cases o.dst <;> rfl
      have he:({σ with H:=H'}.put o.dst v).e0=σ.e0:=by cases o.dst <;> rfl
      rw[this,he];exact⟨hS.1,hS.2.trans h2⟩) hQ
     rcases h1 with h1|⟨h1,rfl⟩
     rw[h1];exact hnext;rw[h1];exact hnext
    ·rename_i hox;split at h
     ·rename_i call hop;split at h
      ·rename_i f args r H' ans' ht;split at h
       ·rename_i σ1 l1 cl1 hrun;simp only[Qbn,Qbs]at h;obtain⟨rfl,rfl,rfl⟩:=h;obtain⟨cargs,k1,k2⟩:=zfk (P:=P) (ty:=o.type) hG.ev ht;have hcl:=hc _ (.head _)
        have hex:(execOp a.eval o).run P W=(callFunc f cargs).run P W:=by
         rw[<-k2 W];unfold execOp;rw[hop]
        have hcont:∀c W' g',Step W g σ.H W' g' (H'.getD σ.H)->Good W' g' (H'.getD σ.H)->Rel W' g' (H'.getD σ.H) r c->wpOps P ops Q (List.range' (k+1) l.length) (a.put o.dst c) W':=λc W' g' s1 s2 s3=>
         ztl l (k+1) ans' _ _ _ _ W' (a.put o.dst c) g' hl' hrun (λc hc'=>hc c (.tail _ hc')) (hG.next s1 s2 s3 o.dst) (by
          have:({σ with H:=H'.getD σ.H}.put o.dst r).H=H'.getD σ.H:=by cases o.dst <;> rfl
          have he:({σ with H:=H'.getD σ.H}.put o.dst r).e0=σ.e0:=by cases o.dst <;> rfl
          rw[this,he];exact⟨hS.1,hS.2.trans s1⟩) hQ
        rcases hcl W g cargs hG.good k1 with ⟨e1,e2⟩|⟨c,W',g',e1,e2,e3,e4⟩
        rw[hex,e1];refine e2.mono λe W' ⟨c,g',he,s1,s2,s3⟩ =>?_
        subst he;exact hcont c W' g' s1 s2 s3;rw[hex,e1];exact hcont c W' g' e2 e3 e4
       cases h
      cases h
     cases h
   ·rename_i hb;have hbf:b=false:=by simpa using hb
    subst hbf;rw[Qbr (by simp)];have hnx:=hG.next (.refl W g σ.H) hG.good (v:=.tup []) (c:=undef) (.tup [] #[] rfl (by simp)) o.dst
    exact ztl l (k+1) ans rest _ σ' cl W (a.put o.dst undef) g hl' h hc hnx (by
     have:(σ.put o.dst (.tup [])).H=σ.H:=by cases o.dst <;> rfl
     have he:(σ.put o.dst (.tup [])).e0=σ.e0:=by cases o.dst <;> rfl
     rw[this,he];exact hS) hQ
theorem zy1{ops:Array Oper}{Q:Exit->Act->World->Prop}(more:List Nat){W0:World}{g0:Gh}{H0:Heap}:∀(l:List Oper) (k:Nat) (ans rest:List (V×Option Heap)) (σ σ':St) (cl:List Claim) (W:World) (a:Act) (g:Gh),
  (∀j,j<l.length->l[j]? = ops[k+j]?)->y1v P ops l ans σ=some (σ',rest,cl)->(∀c∈cl,c.ok P)->zzb W a g σ->(σ.e0=H0.E∧Step W0 g0 H0 W g σ.H) ->
  (∀W' a' g',(σ'.e0=H0.E∧Step W0 g0 H0 W' g' σ'.H)->zzb W' a' g' σ'->wpOps P ops Q more a' W')->wpOps P ops Q (List.range' k l.length++more) a W
 |[],k,ans,rest,σ,σ',cl,W,a,g,hl,h,hc,hG,hS,hQ=>by
  simp only[y1v,Qbn,Qbs]at h;obtain⟨rfl,_,_⟩:=h
  simpa using hQ W a g hS hG
 |o::l,k,ans,rest,σ,σ',cl,W,a,g,hl,h,hc,hG,hS,hQ=>by
  have ho:ops[k]? = some o:=by simpa using(hl 0 (by simp)).symm
  have hl':∀j,j<l.length->l[j]? = ops[k+1+j]? := λj hj=>by have:=hl (j+1) (by simp;omega);simpa[Nat.add_assoc,Nat.add_comm 1 j]using this
  simp only[List.length_cons,List.range'_succ,List.cons_append,wpOps,ho];simp only[y1v]at h;split at h;cases h
  ·rename_i b hw;rw[z0c hG hw];split at h
   ·rename_i hb;subst hb;rw[Qbq rfl];left;unfold Oper.wp;split at h
    ·rename_i v H' hox;obtain⟨c,W',g',h1,h2,h3,h4⟩:=yei (P:=P) (r:=a.eval) hG.good hG.ev hox
     have hnext:=zy1 more l (k+1) ans rest _ σ' cl W' (a.put o.dst c) g' hl' h hc (hG.next h2 h3 h4 o.dst) (by
      have:({σ with H:=H'}.put o.dst v).H=H':=by cases o.dst <;> rfl
      have he:({σ with H:=H'}.put o.dst v).e0=σ.e0:=by cases o.dst <;> rfl
      rw[this,he];exact⟨hS.1,hS.2.trans h2⟩) hQ
     rcases h1 with h1|⟨h1,rfl⟩
     rw[h1];exact hnext;rw[h1];exact hnext
    ·rename_i hox;split at h
     ·rename_i call hop;split at h
      ·rename_i f args r H' ans' ht;split at h
       ·rename_i σ1 l1 cl1 hrun;simp only[Qbn,Qbs]at h;obtain⟨rfl,rfl,rfl⟩:=h;obtain⟨cargs,k1,k2⟩:=zfk (P:=P) (ty:=o.type) hG.ev ht;have hcl:=hc _ (.head _)
        have hex:(execOp a.eval o).run P W=(callFunc f cargs).run P W:=by
         rw[<-k2 W];unfold execOp;rw[hop]
        have hcont:∀c W' g',Step W g σ.H W' g' (H'.getD σ.H)->Good W' g' (H'.getD σ.H)->Rel W' g' (H'.getD σ.H) r c->wpOps P ops Q (List.range' (k+1) l.length++more) (a.put o.dst c) W':=λc W' g' s1 s2 s3=>
         zy1 more l (k+1) ans' _ _ _ _ W' (a.put o.dst c) g' hl' hrun (λc hc'=>hc c (.tail _ hc')) (hG.next s1 s2 s3 o.dst) (by
          have:({σ with H:=H'.getD σ.H}.put o.dst r).H=H'.getD σ.H:=by cases o.dst <;> rfl
          have he:({σ with H:=H'.getD σ.H}.put o.dst r).e0=σ.e0:=by cases o.dst <;> rfl
          rw[this,he];exact⟨hS.1,hS.2.trans s1⟩) hQ
        rcases hcl W g cargs hG.good k1 with ⟨e1,e2⟩|⟨c,W',g',e1,e2,e3,e4⟩
        rw[hex,e1];refine e2.mono λe W' ⟨c,g',he,s1,s2,s3⟩ =>?_
        subst he;exact hcont c W' g' s1 s2 s3;rw[hex,e1];exact hcont c W' g' e2 e3 e4
       cases h
      cases h
     cases h
   ·rename_i hb;have hbf:b=false:=by simpa using hb
    subst hbf;rw[Qbr (by simp)];have hnx:=hG.next (.refl W g σ.H) hG.good (v:=.tup []) (c:=undef) (.tup [] #[] rfl (by simp)) o.dst
    exact zy1 more l (k+1) ans rest _ σ' cl W (a.put o.dst undef) g hl' h hc hnx (by
     have:(σ.put o.dst (.tup [])).H=σ.H:=by cases o.dst <;> rfl
     have he:(σ.put o.dst (.tup [])).e0=σ.e0:=by cases o.dst <;> rfl
     rw[this,he];exact hS) hQ
theorem zts:∀c∈([]:List Claim),c.ok P:=by simp
theorem zp8{c}{l:List Claim}(h:y0g P c.f c.args c.H c.r c.H')(r:∀c∈l,c.ok P):∀d∈c::l,d.ok P:=λd hd=>by
 cases hd with
 |head=>exact h
 |tail _ hd=>exact r d hd
theorem zxo{W0 g0 H0 Q}(a)(w):¬yil W0 g0 H0 Q .outgrown a w:=λ⟨_,_,_,h,_⟩=>by cases h
def Sat(P:Program)(c:Code)(σ:St)(Q:z0j->St->Prop):Prop :=
 ∀W0 g0 H0 W a g,Base W0 g0 H0->(σ.e0=H0.E∧Step W0 g0 H0 W g σ.H)->zzb W a g σ->wpR P c (yil W0 g0 H0 Q) a W
theorem Sat.mono{c σ Q Q'}(h:Sat P c σ Q)(hq:∀e σ,Q e σ->Q' e σ):Sat P c σ Q' :=
 λW0 g0 H0 W a g hB hS hG=>zws (h W0 g0 H0 W a g hB hS hG) λe a w ⟨g,σ,e',h1,h2,h3,h4⟩=>⟨g,σ,e',h1,h2,h3,hq _ _ h4⟩
theorem z01e{σ Q}(h:Q .normal σ):Sat P .skip σ Q:=λ_ _ _ _ _ g _ hS hG=>z00i ⟨g,σ,.normal,.normal,hS,hG,h⟩
theorem z01m{id σ Q}(h:Q (.exit id) σ):Sat P (.exit id) σ Q:=λ_ _ _ _ _ g _ hS hG=>yyo ⟨g,σ,.exit id,.exit id,hS,hG,h⟩
theorem z03t{σ Q}(h:Q .ret σ):Sat P .ret σ Q:=λ_ _ _ _ _ g _ hS hG=>z03v ⟨g,σ,.ret,.ret,hS,hG,h⟩
def z0j.then(next:St->Prop)(Q:z0j->St->Prop):z0j->St->Prop
 |.normal,σ=>next σ
 |e,σ=>Q e σ
theorem z04l{x y σ Q}(h:Sat P x σ (z0j.then (λσ'=>Sat P y σ' Q) Q)):Sat P (.seq x y) σ Q:=λW0 g0 H0 W a g hB hS hG=>by
 refine z04p (zws (h W0 g0 H0 W a g hB hS hG) λe a w ⟨g,σ,e',h1,h2,h3,h4⟩ =>?_)
 cases h1 with
 |normal=>exact h4 W0 g0 H0 w a g hB h2 h3
 |exit id=>exact⟨g,σ,_,.exit id,h2,h3,h4⟩
 |ret=>exact⟨g,σ,_,.ret,h2,h3,h4⟩
 |panic v c hr=>exact⟨g,σ,_,.panic v c hr,h2,h3,h4⟩
theorem yqe{c x y σ Q b}(hc:σ.ev c = .bool b)(h1:b=true->Sat P x σ Q)(h2:b=false->Sat P y σ Q):Sat P (.cond c x y) σ Q:=λW0 g0 H0 W a g hB hS hG=>by
 have hr:=hG.ev c;rw[hc]at hr;generalize hcc:a.eval c=cc at hr;cases hr;exact ye6 hcc (λh=>h1 h W0 g0 H0 W a g hB hS hG) (λh=>h2 h W0 g0 H0 W a g hB hS hG)
def z031(b:Bool)(x y:Prop):Prop:=match b with
 |true=>x
 |false=>y
def z0j.inBlock(id:Nat)(Q:z0j->St->Prop):z0j->St->Prop
 |.exit id',σ=>z031 (Nat.beq id' id) (Q .normal σ) (Q (.exit id') σ)
 |e,σ=>Q e σ
theorem yxg{id c σ Q}(h:Sat P c σ (z0j.inBlock id Q)):Sat P (.block id c) σ Q:=λW0 g0 H0 W a g hB hS hG=>by
 refine yy3 (zws (h W0 g0 H0 W a g hB hS hG) λe a w ⟨g,σ,e',h1,h2,h3,h4⟩ =>?_)
 cases h1 with
 |normal=>exact⟨g,σ,_,.normal,h2,h3,h4⟩
 |exit id'=>
  simp[z0j.inBlock]at h4;simp[Exit.inBlock];split;rename_i he;rw[show Nat.beq id' id=true from by simp_all]at h4;exact⟨g,σ,_,.normal,h2,h3,h4⟩
  rw[show Nat.beq id' id=false from by
   grind[Qaj]]at h4
  exact⟨g,σ,_,.exit id',h2,h3,h4⟩
 |ret=>exact⟨g,σ,_,.ret,h2,h3,h4⟩
 |panic v c hr=>exact⟨g,σ,_,.panic v c hr,h2,h3,h4⟩
end
inductive VLe:V->V->Prop where
 |refl (v:V):VLe v v
 |any (v:V):VLe v .any
 |nil (sz:Nat) (b:Bool):VLe .nils (.sl sz [] b)
 |full (sz:Nat) (xs:List V):VLe (.sl sz xs true) (.sl sz xs false)
 |agg (vs us:List V) (hn:vs.length=us.length) (h:∀(j:Nat) (v u:V),vs[j]? = some v->us[j]? = some u->VLe v u):VLe (.agg vs) (.agg us)
 |tup (vs us:List V) (hn:vs.length=us.length) (h:∀(j:Nat) (v u:V),vs[j]? = some v->us[j]? = some u->VLe v u):VLe (.tup vs) (.tup us)
inductive y69:List V->List V->Prop where
 |nil:y69 [] []
 |cons {v u:V} {vs us:List V}(h:VLe v u) (r:y69 vs us):y69 (v::vs) (u::us)
theorem y69.length{vs us}(h:y69 vs us):vs.length=us.length:=by induction h <;> simp_all
theorem y69.get{vs us}(h:y69 vs us):∀(j:Nat) (v u),vs[j]? = some v->us[j]? = some u->VLe v u:=by
 induction h with
 |nil=>grind
 |cons h r ih=>
  grind
theorem y69.refl:∀vs:List V,y69 vs vs
 |[]=>.nil
 |v::vs=>.cons (.refl v) (y69.refl vs)
theorem VLe.agg'{vs us}(h:y69 vs us):VLe (.agg vs) (.agg us):=.agg _ _ h.length h.get
theorem VLe.tup'{vs us}(h:y69 vs us):VLe (.tup vs) (.tup us):=.tup _ _ h.length h.get
theorem VLe.rel{v u}(h:VLe v u){W g H}:∀{c},Rel W g H v c->Rel W g H u c:=by
 induction h with
 |refl v=>exact λh=>h
 |any v=>exact λ_=>.any _
 |nil sz b=>intro c h;cases h;exact .slnil _ _
 |full sz xs=>
  intro c h
  cases h with
  |slnil=>exact .slnil _ _
  |sle _ _ a cap hf=>exact .sle _ _ a cap (by simp)
  |sl _ _ _ b o cap c hb hz hcap hf hs hc h1 hr=>exact .sl _ _ _ b o cap c hb hz hcap (by simp) hs hc h1 hr
 |agg vs us hn h ih=>
  intro c hc
  cases hc with
  |agg _ cs hs h1 hr=>
   refine .agg _ cs (by omega) (λj u hj =>?_) (λj u hj =>?_)
   grind
   grind
 |tup vs us hn h ih=>
  intro c hc
  cases hc with
  |tup _ cs hs hr=>
   refine .tup _ cs (by omega) (λj u hj =>?_);have hlt:=(Qaa.1 hj).1;have hv:vs[j]? = some (vs[j]'(by omega)):=Qab _
   grind
mutual
def V.kin(D:Nat->Nat->Prop):V->Prop
 |.ptr l i _=>D l i
 |.ref cs _=>V.zcd D cs
 |.ap l i _ _ _=>D l i
 |.sl _ xs _=>V.zcd D xs
 |.hs l i _ _ _ _=>D l i
 |.map l i=>D l i
 |.fn _ a b=>V.zcd D a∧V.zcd D b
 |.iface _ v=>V.kin D v
 |.agg cs=>V.zcd D cs
 |.tup vs=>V.zcd D vs
 |_=>True
def V.zcd(D:Nat->Nat->Prop):List V->Prop
 |[]=>True
 |v::vs=>V.kin D v∧V.zcd D vs
end
theorem zb7{D}:∀{vs},V.zcd D vs->∀(j:Nat) (v),vs[j]? = some v->V.kin D v
 |[],_,j,v,hj=>by simp at hj
 |u::us,h,0,v,hj=>by grind[V.zcd]
 |u::us,h,j+1,v,hj=>by exact zb7 h.2 j v (by simpa using hj)
theorem zff{D}:∀{vs},(∀v∈vs,V.kin D v)->V.zcd D vs
 |[],_=>by simp[V.zcd]
 |u::us,h=>by exact⟨h u (.head _),zff λv hv=>h v (.tail _ hv)⟩
theorem zsx{D x}(h:V.kin D x):V.zcd D x.cells:=by
 cases x <;> simp_all[V.kin,V.cells,V.zcd]
theorem Rel.restrict{W g g' H H' D}(hdom:∀l i,D l i->g.dom l i->g'.dom l i)(hblk:∀l i,D l i->g'.blk l i=g.blk l i)(hab:∀l i,D l i->g'.ab l i=g.ab l i)(hcap:∀l i,D l i->g'.cap l i=g.cap l i)
  (hget:∀l i,D l i->H'.get l i=H.get l i) (hown:∀b,Own g' H' b->Own g H b) {v c} (h:Rel W g H v c):V.kin D v->Rel W g' H' v c:=by
 induction h with
 |any c=>exact λ_=>.any c
 |bool b=>exact λ_=>.bool b
 |int k n=>exact λ_=>.int k n
 |str s=>exact λ_=>.str s
 |nilp=>exact λ_=>.nilp
 |ptr l i off hd=>intro k;rw[<-hblk l i k];exact .ptr l i off (hdom l i k hd)
 |ref cs off b o c hb hc h1 hr ih=>intro k;exact .ref cs off b o c (λhne hn=>hb hne (hown b hn)) hc h1 (λj v hj=>ih j v hj (zb7 k j v hj))
 |ap l i ver idx off a hd hv ha=>
  intro k;simp[V.kin]at k;refine .ap l i ver idx off a (hdom l i k hd) (λv ty sz xs cp hg =>?_) λty sz xs cp hg =>?_
  grind
  grind
 |nils=>exact λ_=>.nils
 |slnil sz full=>exact λ_=>.slnil sz full
 |sle sz full a cap hf=>exact λ_=>.sle sz full a cap hf
 |sl sz xs full b o cap c hb hz hcap hf hs hc h1 hr ih=>
  intro k;exact .sl sz xs full b o cap c (λhn=>hb (hown b hn)) hz hcap hf hs hc h1 (λj x t v hj ht=>ih j x t v hj ht (zb7 (zsx (zb7 k j x hj)) t v ht))
 |hs l i ver off n full a m cap hd hv ha=>
  intro k;simp[V.kin]at k;refine .hs l i ver off n full a m cap (hdom l i k hd) (λv ty sz xs cp hg =>?_) λty sz xs cp hg =>?_
  grind
  grind
 |mapn=>exact λ_=>.mapn
 |mapc es b en clock hb hw he=>exact λ_=>.mapc es b en clock (λhn=>hb (hown b hn)) hw he
 |map l i hd=>intro k;rw[<-hblk l i k];exact .map l i (hdom l i k hd)
 |fn f fs cs fs' cs' h1 h2 r1 r2 i1 i2=>intro k;exact .fn f fs cs fs' cs' h1 h2 (λj v hj=>i1 j v hj (zb7 k.1 j v hj)) (λj v hj=>i2 j v hj (zb7 k.2 j v hj))
 |nilf=>exact λ_=>.nilf
 |iface t v c h ih=>intro k;exact .iface t v c (ih k)
 |nili=>exact λ_=>.nili
 |agg vs cs hn h1 hr ih=>intro k;exact .agg vs cs hn h1 (λj v hj=>ih j v hj (zb7 k j v hj))
 |tup vs cs hn hr ih=>intro k;exact .tup vs cs hn (λj v hj=>ih j v hj (zb7 k j v hj))
theorem Rel.kin{W g H v c}(h:Rel W g H v c):V.kin g.dom v:=by
 induction h with
 |ptr l i off hd=>simpa[V.kin]using hd
 |ap l i ver idx off a hd hv ha=>simpa[V.kin]using hd
 |hs l i ver off n full a m cap hd hv ha=>simpa[V.kin]using hd
 |map l i hd=>simpa[V.kin]using hd
 |ref cs off b o c hb hc h1 hr ih=>grind[V.kin,zff,Qbj]
 |fn f fs cs fs' cs' h1 h2 r1 r2 i1 i2=>
  grind[V.kin,zff,Qbj]
 |iface t v c h ih=>simpa[V.kin]using ih
 |agg vs cs hn h1 hr ih=>grind[V.kin,zff,Qbj]
 |tup vs cs hn hr ih=>grind[V.kin,zff,Qbj]
 |sl sz xs full b o cap c hb hz hcap hf hs hc h1 hr ih=>
  refine zff λx hx =>?_
  obtain⟨j,hj⟩:=Qbj hx;cases x
  case agg cs=>
   simp[V.kin];exact zff λv hv=>by obtain⟨t,ht⟩:=Qbj hv;exact ih j _ t v hj ht
  all_goals exact ih j _ 0 _ hj rfl
 |_=>simp[V.kin,V.zcd]
mutual
theorem V.zs9{D D':Nat->Nat->Prop}(h:∀l i,D l i->D' l i):∀v:V,V.kin D v->V.kin D' v
 |.ptr l i _,k=>by simp only[V.kin]at *;exact h l i k
 |.ref cs _,k=>by simp only[V.kin]at *;exact V.zfe h cs k
 |.ap l i _ _ _,k=>by simp only[V.kin]at *;exact h l i k
 |.sl _ xs _,k=>by simp only[V.kin]at *;exact V.zfe h xs k
 |.hs l i _ _ _ _,k=>by simp only[V.kin]at *;exact h l i k
 |.map l i,k=>by simp only[V.kin]at *;exact h l i k
 |.fn _ a b,k=>by simp only[V.kin]at *;exact⟨V.zfe h a k.1,V.zfe h b k.2⟩
 |.iface _ v,k=>by simp only[V.kin]at *;exact V.zs9 h v k
 |.agg cs,k=>by simp only[V.kin]at *;exact V.zfe h cs k
 |.tup vs,k=>by simp only[V.kin]at *;exact V.zfe h vs k
 |.any,_| .bool _,_| .int _ _,_| .str _,_| .nilp,_| .nils,_| .mapn,_| .mapc _,_| .nilf,_| .nili,_=>by simp[V.kin]
theorem V.zfe{D D':Nat->Nat->Prop}(h:∀l i,D l i->D' l i):∀vs:List V,V.zcd D vs->V.zcd D' vs
 |[],_=>by simp[V.zcd]
 |v::vs,k=>by simp only[V.zcd]at *;exact⟨V.zs9 h v k.1,V.zfe h vs k.2⟩
end
section
variable {P : Program}
def zlf(σ τ:St):Prop :=
 ∀W0 g0 H0 W a g,Base W0 g0 H0->(σ.e0=H0.E∧Step W0 g0 H0 W g σ.H)->zzb W a g σ->∃g',(τ.e0=H0.E∧Step W0 g0 H0 W g' τ.H)∧zzb W a g' τ
theorem zlf.refl(σ):zlf σ σ:=λ_ _ _ _ _ g _ hS hG=>⟨g,hS,hG⟩
theorem zlf.trans{σ τ υ}(h:zlf σ τ)(k:zlf τ υ):zlf σ υ:=λW0 g0 H0 W a g hB hS hG=>
 let ⟨g1,h1,h2⟩:=h W0 g0 H0 W a g hB hS hG
 k W0 g0 H0 W a g1 hB h1 h2
def kzg.kin(D:Nat->Nat->Prop):kzg->Prop
 |.cells cs=>V.zcd D cs
 |.arr _ _ _ xs _=>V.zcd D xs
 |.map es=>∀p∈es,V.kin D p.1∧V.kin D p.2
 |.siter _ _=>True
 |.mit _ _=>True
theorem kzg.zs9{D D'}(h:∀l i,D l i->D' l i){o:kzg}(k:o.kin D):o.kin D':=by
 cases o with
 |cells cs=>exact V.zfe h _ k
 |arr=>exact V.zfe h _ k
 |map es=>exact λp hp=>⟨V.zs9 h _ (k p hp).1,V.zs9 h _ (k p hp).2⟩
 |siter=>trivial
 |mit=>trivial
theorem zev.kin{W g H l i o}(h:zev W g H l i o):o.kin g.dom:=by
 cases o with
 |cells cs=>
  obtain⟨c,ty,_,_,_,h4⟩:=h
  exact zff λv hv=>by obtain⟨j,hj⟩:=Qbj hv;exact(h4 j v hj).kin
 |arr ver ty sz xs cp=>
  obtain⟨c,_,h2,_,_,_,_,h7,_,h9⟩:=h;refine zff λx hx =>?_
  obtain⟨j,hj⟩:=Qbj hx;cases x
  case agg cs=>
   simp[V.kin];exact zff λv hv=>by obtain⟨t,ht⟩:=Qbj hv;exact(h9 j _ t v hj ht).kin
  all_goals exact(h9 j _ 0 _ hj rfl).kin
 |map es=>
  obtain⟨en,clock,_,_,_,_,h5⟩:=h;intro p hp;obtain⟨j,hj⟩:=Qbj hp;obtain⟨e,_,k1,k2⟩:=h5 j p hj
  exact⟨k1.kin,k2.kin⟩
 |siter=>trivial
 |mit=>trivial
theorem zev.restrict{W g g' H H' D}(hdom:∀l i,D l i->g.dom l i->g'.dom l i)(hblk:∀l i,g'.blk l i=g.blk l i)(hab:∀l i,g'.ab l i=g.ab l i)(hcap:∀l i,g'.cap l i=g.cap l i)
  (hget:∀l i,D l i->H'.get l i=H.get l i) (hown:∀b,Own g' H' b->Own g H b) {l i o} (h:zev W g H l i o) (k:o.kin D):zev W g' H' l i o:=by
 have r:∀{v:V}{c:Value},Rel W g H v c->V.kin D v->Rel W g' H' v c:=λh k=>h.restrict hdom (λl i _=>hblk l i) (λl i _=>hab l i) (λl i _=>hcap l i) hget hown k
 cases o with
 |cells cs=>
  obtain⟨c,ty,h1,h2,h3,h4⟩:=h
  exact⟨c,ty,by rw[hblk];exact h1,h2,h3,λj v hj=>r (h4 j v hj) (zb7 k j v hj)⟩
 |arr ver ty sz xs cp=>
  obtain⟨c,h1,h3,h4,h4',h5,h6,h7,h8,h9⟩:=h
  exact⟨c,by rw[hab];exact h1,h3,by rw[hcap];exact h4,by rw[hcap];exact h4',by rw[hcap];exact h5,by rw[hcap];exact h6,h7,h8,λj x t v hj ht=>r (h9 j x t v hj ht) (zb7 (zsx (zb7 k j x hj)) t v ht)⟩
 |map es=>
  obtain⟨en,clock,h1,h2,h3,h4,h5⟩:=h;refine⟨en,clock,by rw[hblk];exact h1,h2,h3,h4,λj p hj =>?_⟩;have kp:=k p (Qax hj)
  grind
 |siter s pos=>exact(show W.heap[g'.blk l i]? = _ by rw[hblk];exact h)
 |mit es vis=>
  obtain⟨en,clock,mb,h1,h2,h3,h4⟩:=h;exact⟨en,clock,mb,by rw[hblk];exact h1,λhn=>h2 (hown _ hn),h3,h4⟩
end
section
variable {P : Program}
theorem yqg{c σ τ Q}(hw:zlf σ τ)(h:Sat P c τ Q):Sat P c σ Q:=λW0 g0 H0 W a g hB hS hG=>by
 obtain⟨g',h1,h2⟩:=hw W0 g0 H0 W a g hB hS hG;exact h W0 g0 H0 W a g' hB h1 h2
def resV(P:Program)(σ:St):ResultVar->Option V
 |.tmp t=>some (σ.t.getD t .any)
 |.cell a t=>zco P σ.H t (σ.t.getD a .any)
def y3h(P:Program)(σ:St):List ResultVar->Option (List V)
 |[]=>some []
 |r::rs=>match resV P σ r,y3h P σ rs with
  |some v,some vs=>some (v::vs)
  |_,_=>none
def z9y:List V->V
 |[v]=>v
 |vs=>.tup vs
def z0w(P:Program)(fn:Func)(σ:St):Option V:=(y3h P σ fn.results.toList).map z9y
theorem yvh{W a g σ}(h:zzb W a g σ)(t):Rel W g σ.H (σ.t.getD t .any) (a.tmps.getD t undef):=h.ev (.tmp t)
def resC(a:Act):ResultVar->Sem Value
 |.tmp t=>pure (a.tmps.getD t undef)
 |.cell x t=>do loadVar t (<-asAddr (a.tmps.getD x undef))
theorem yd6{W a g σ}(h:zzb W a g σ):∀(rs) (vs),y3h P σ rs=some vs ->
  ∃cs:List Value,(rs.mapM (resC a):Sem (List Value)).run P W = .ok cs W∧cs.length=vs.length∧∀(j:Nat) (v),vs[j]? = some v->∃c,cs[j]? = some c∧Rel W g σ.H v c
 |[],vs,hr=>by simp[y3h,Qbn]at hr;simp_all
 |r::rs,vs,hr=>by
  simp[y3h]at hr;split at hr;rename_i v vs' h1 h2;cases hr;obtain⟨cs,k1,k2,k3⟩:=yd6 h rs vs' h2
  have hone:∃c,(resC a r).run P W = .ok c W∧Rel W g σ.H v c:=by
   cases r with
   |tmp t=>
    simp[resV,Qbn]at h1;subst h1
    exact⟨_,rfl,yvh h t⟩
   |cell x t=>
    simp[resV]at h1;obtain⟨ad,u,e1,e2,e3⟩:=y7q (P:=P) h.good h1 (yvh h x)
    grind[resC,asAddr]
  obtain⟨c,q1,q2⟩:=hone;refine⟨c::cs,?_,by simp[k2],λj u hj =>?_⟩
  simp_all
  cases j with
  |zero=>grind
  |succ j=>grind
  cases hr
theorem zds{W a g σ fn v}(h:zzb W a g σ)(hr:z0w P fn σ=some v):∃c,(results fn a.tmps).run P W = .ok c W∧Rel W g σ.H v c:=by
 simp[z0w,Qaf]at hr;obtain⟨vs,h1,rfl⟩:=hr;obtain⟨cs,k1,k2,k3⟩:=yd6 h _ _ h1
 have hres:results fn a.tmps=(fn.results.mapM (resC a) >>= λvs=>pure (if h:vs.size=1 then vs[0]else .tuple vs)):=by
  unfold results
  congr 2
 have hrun:(fn.results.mapM (resC a):Sem (Array Value)).run P W = .ok cs.toArray W:=by
  grind[Array.mapM_eq_mapM_toList,Sem.run_map,Qbu]
 match vs,k2,k3 with
 |[v],k2,k3=>
  obtain⟨c,hc,hrel⟩:=k3 0 v rfl
  obtain⟨c',rfl⟩:∃c',cs=[c']:=by match cs,k2 with|[c'],_=>exact⟨c',rfl⟩
  simp[Qbn]at hc;subst hc
  exact⟨c',by simp_all,hrel⟩
 |[],k2,k3=>
  have:=Qao k2;subst this
  exact⟨.tuple #[],by rw[hres,Qbt,hrun];rfl,.tup [] _ rfl (by simp)⟩
 |v::w::vs,k2,k3=>
  refine⟨.tuple cs.toArray,?_,.tup _ _ (by simpa using k2) λj u hj =>?_⟩;rw[hres,Qbt,hrun,Qbu];have:¬cs.toArray.size=1:=by simp at k2 ⊢;omega
  simp_all
  obtain⟨c,hc,hrel⟩:=k3 j u hj
  simp_all
inductive VS (H:Heap) (D:Nat->Nat->Prop):V->V->Prop where
 |keep (v:V) (h:V.kin D v):VS H D v v
 |any (v:V):VS H D v .any
 |nil (sz:Nat) (b:Bool):VS H D .nils (.sl sz [] b)
 |hs (l i ver ty sz off n:Nat) (full:Bool) (xs ys:List V) (cp:Option Nat) (hl:l=H.lv) (hg:H.get l i=some (.arr ver ty sz xs cp)) (hn:ys.length=n)
  (h1:∀(j:Nat) (x y:V),xs[off+j]? = some x->ys[j]? = some y->x.cells.length=y.cells.length) (h2:∀(j:Nat) (x y:V) (t:Nat) (v u:V),xs[off+j]? = some x->ys[j]? = some y->x.cells[t]? = some v->y.cells[t]? = some u->VS H D v u) :
  VS H D (.hs l i ver off n full) (.sl sz ys false)
 |sl (sz:Nat) (xs ys:List V) (b:Bool) (hn:xs.length=ys.length) (h1:∀(j:Nat) (x y:V),xs[j]? = some x->ys[j]? = some y->x.cells.length=y.cells.length)
  (h2:∀(j:Nat) (x y:V) (t:Nat) (v u:V),xs[j]? = some x->ys[j]? = some y->x.cells[t]? = some v->y.cells[t]? = some u->VS H D v u):VS H D (.sl sz xs b) (.sl sz ys false)
 |agg (vs us:List V) (hn:vs.length=us.length) (h:∀(j:Nat) (v u:V),vs[j]? = some v->us[j]? = some u->VS H D v u):VS H D (.agg vs) (.agg us)
 |tup (vs us:List V) (hn:vs.length=us.length) (h:∀(j:Nat) (v u:V),vs[j]? = some v->us[j]? = some u->VS H D v u):VS H D (.tup vs) (.tup us)
theorem VS.rel{W g g' H H' D}(hGood:Good W g H)(hdom:∀l i,D l i->g.dom l i->g'.dom l i)(hblk:∀l i,D l i->g'.blk l i=g.blk l i)(hab:∀l i,D l i->g'.ab l i=g.ab l i)(hcap:∀l i,D l i->g'.cap l i=g.cap l i)
  (hget:∀l i,D l i->H'.get l i=H.get l i) (hown:∀b,Own g' H' b->Own g H b) (hloc:∀i o,H.get H.lv i=some o->¬Own g' H' (o.blk g H.lv i)) {v u} (h:VS H D v u):∀{c},Rel W g H v c->Rel W g' H' u c:=by
 induction h with
 |keep v hk=>intro c hc;exact hc.restrict hdom hblk hab hcap hget hown hk
 |any v=>exact λ_=>.any _
 |nil sz b=>intro c hc;cases hc;exact .slnil _ _
 |hs l i ver ty sz off n full xs ys cp hl hg hn h1 h2 ih=>
  intro c hc;subst hl
  cases hc with
  |hs _ _ _ _ _ _ a m cap hd hv ha=>
   obtain⟨rfl,rfl,⟨hcap',hcap2,hff⟩,hle⟩:=ha _ _ _ _ hg;obtain⟨cur,k1,k2,k3,k3',k4,k5,k6⟩:=y59 hGood hg
   have get:∀j y,ys[j]? = some y->∃x,xs[off+j]? = some x∧j<m:=λj y hj=>by
    grind
   have cells:∀(j:Nat) (y:V) (t:Nat) (u:V),ys[j]? = some y->y.cells[t]? = some u->∃x v,xs[off+j]? = some x∧x.cells[t]? = some v∧VS H D v u∧Rel W g' H' u (cur.getD ((off+j) * sz+t) undef)∧(cur.getD ((off+j) * sz+t) undef).oneCell'=true∧(off+j) * sz+t<cur.size:=λj y t u hj ht=>by
    obtain⟨x,hx,hjm⟩:=get j y hj;have hl:=h1 j x y hx hj;have hxl:=k6.1 _ _ hx;have htl:=(Qaa.1 ht).1;have hv':x.cells[t]? = some (x.cells[t]'(by omega)):=Qab _;refine⟨x,_,hx,hv',h2 j x y t _ u hx hj hv' ht,ih j x y t _ u hx hj hv' ht (k6.2.2 _ _ _ _ hx hv'),k6.2.1 _ _ _ _ hx hv',?_⟩;rw[k3];exact y78 (by omega) (by omega)
   rw[<-hn];refine .sl sz ys false (g.ab H.lv i) (off * sz) cap (λj t=>cur.getD ((off+j) * sz+t) undef) (λho=>hloc i _ hg ho) k2 (by omega) (by simp) (λj y hj =>?_) (λj y t u hj ht =>?_) (λj y t u hj ht =>?_) (λj y t u hj ht =>?_);obtain⟨x,hx,_⟩:=get j y hj;rw[<-h1 j x y hx hj];exact k6.1 _ _ hx;obtain⟨x,v,_,_,_,_,_,e⟩:=cells j y t u hj ht;have:=cell_of k1 e
   grind
   obtain⟨x,v,_,_,_,_,e,_⟩:=cells j y t u hj ht;exact e
   obtain⟨x,v,_,_,_,e,_,_⟩:=cells j y t u hj ht;exact e
 |sl sz xs ys b hn h1 h2 ih=>
  intro c hc
  have get:∀j y,ys[j]? = some y->∃x,xs[j]? = some x:=λj y hj=>by
   have:=(Qaa.1 hj).1;exact⟨_,Qab (by omega)⟩
  cases hc with
  |slnil=>have:=Qao (by simpa using hn.symm);subst this;exact .slnil _ _
  |sle _ _ a cap hf=>have:=Qao (by simpa using hn.symm);subst this;exact .sle _ _ a cap (by simp)
  |sl _ _ _ bl o cap c hb hz hcp hf hs hc ho1 hr=>
   have cells:∀(j:Nat) (y:V) (t:Nat) (u:V),ys[j]? = some y->y.cells[t]? = some u->∃x v,xs[j]? = some x∧x.cells[t]? = some v:=λj y t u hj ht=>by
    obtain⟨x,hx⟩:=get j y hj;have hl:=h1 j x y hx hj;have htl:=(Qaa.1 ht).1
    simp_all
   rw[hn]at hcp ⊢;refine .sl sz ys false bl o cap c (λh=>hb (hown bl h)) hz hcp (by simp) (λj y hj =>?_) (λj y t u hj ht =>?_) (λj y t u hj ht =>?_) (λj y t u hj ht =>?_)
   grind
   obtain⟨x,v,e1,e2⟩:=cells j y t u hj ht;grind;obtain⟨x,v,e1,e2⟩:=cells j y t u hj ht;exact ho1 _ _ _ _ e1 e2
   obtain⟨x,v,e1,e2⟩:=cells j y t u hj ht;exact ih j x y t v u e1 hj e2 ht (hr _ _ _ _ e1 e2)
 |agg vs us hn h ih=>
  intro c hc
  cases hc with
  |agg _ cs hs h1 hr=>
   have get:∀j u,us[j]? = some u->∃v,vs[j]? = some v:=λj u hj=>by
    have:=(Qaa.1 hj).1;exact⟨_,Qab (by omega)⟩
   refine .agg _ cs (by omega) (λj u hj =>?_) (λj u hj =>?_)
   grind
   grind
 |tup vs us hn h ih=>
  intro c hc
  cases hc with
  |tup _ cs hs hr=>
   refine .tup _ cs (by omega) (λj u hj =>?_);have hlt:=(Qaa.1 hj).1;have hv:vs[j]? = some (vs[j]'(by omega)):=Qab _
   grind
def outer(lv:Nat)(l _i:Nat):Prop:=l<=lv
structure Back(H H':Heap)(σ:St)(v r:V):Prop where
 res:VS σ.H (outer H.lv) v r
 get:∀l i,l<=H.lv->H'.get l i=σ.H.E l i
 lv:H'.lv=H.lv
 len:H'.L.length=H.L.length
 same:∀l i o,l<=H.lv->σ.H.E l i=some o->H.get l i=some o∨o.kin (outer H.lv)
 high:∀l i,H.lv<l->H'.E l i=H.E l i
def Fin(P:Program)(fn:Func)(H H':Heap)(r:V)(e:z0j)(σ:St):Prop :=
 match e with
 |.normal| .ret=>∃v,z0w P fn σ=some v∧σ.d=[]∧Back H H' σ v r
 |_=>False
theorem y1o{W g H}(h:Good W g H):Good W g ⟨H.lv+1,[],H.get⟩∧(∀l i,Heap.get ⟨H.lv+1,[],H.get⟩ l i=H.get l i)∧∀{v c},Rel W g H v c->Rel W g ⟨H.lv+1,[],H.get⟩ v c:=by
 have hget:∀l i,Heap.get ⟨H.lv+1,[],H.get⟩ l i=H.get l i:=λl i=>by
  show(if l=H.lv+1 then _ else _)=_;split;rename_i hl;subst hl
  cases hq:H.get (H.lv+1) i with
  |none=>simp
  |some o=>rcases h.fresh _ _ (h.dom _ _ _ hq)with q|⟨q,_⟩ <;> omega
  rfl
 have hown:∀b,Own g ⟨H.lv+1,[],H.get⟩ b->Own g H b:=λb ⟨l,i,o,ho,hb⟩=>⟨l,i,o,by grind,hb⟩
 have hrel:∀{v:V}{c:Value},Rel W g H v c->Rel W g ⟨H.lv+1,[],H.get⟩ v c:=λhr=>
  Rel.restrict (D:=g.dom) (g':=g) (λ_ _ _ h=>h) (λ_ _ _=>rfl) (λ_ _ _=>rfl) (λ_ _ _=>rfl) (λl i _=>hget l i) hown hr hr.kin
 refine⟨⟨λl i o ho=>h.dom l i o (by grind),λl i o ho=>h.lt l i o (by grind),λl i o l' i' o' h1 h2 hb=>h.inj l i o l' i' o' (by grind) (by grind) hb,λl i hd =>?_,λl i o ho =>?_,h.zns.y86 hown,h.base⟩,hget,hrel⟩;left;show l<H.lv+1
 rcases h.fresh l i hd with q|⟨q,_⟩ <;> omega
 rw[hget]at ho;exact zev.restrict (D:=g.dom) (g':=g) (λ_ _ _ h=>h) (λ_ _=>rfl) (λ_ _=>rfl) (λ_ _=>rfl) (λl i _=>hget l i) hown (h.obj l i o ho) (h.obj l i o ho).kin
theorem yc1{W W' g g1 H H' σ v r c}(hG:Good W g H)(hlv:σ.H.lv=H.lv+1)(hst:Step W g ⟨H.lv+1,[],H.get⟩ W' g1 σ.H)(hG1:Good W' g1 σ.H)(hb:Back H H' σ v r)(hr:Rel W' g1 σ.H v c) :
  ∃g2,Step W g H W' g2 H'∧Good W' g2 H'∧Rel W' g2 H' r c:=by
 obtain⟨hGe,hge,hre⟩:=y1o hG
 let g2:={g1 with dom:=g.dom}
 have hbl:∀l i (o:kzg),o.blk g2 l i=o.blk g1 l i:=λl i o=>by cases o <;> rfl
 have hgd:∀l i,g.dom l i->l<=H.lv:=λl i h=>by rcases hG.fresh l i h with q|⟨q,_⟩ <;> omega
 have hget:∀l i,l<=H.lv->H'.get l i=σ.H.get l i:=λl i hl=>by
  rw[hb.get l i hl];unfold Heap.get
  grind
 have hge2:∀l i o,H'.get l i=some o->l<=H.lv:=λl i o ho=>by
  rcases Nat.lt_or_ge H.lv l with q|q
  unfold Heap.get at ho;rw[Qbr (by rw[hb.lv];omega),hb.high l i q]at ho;have:H.get l i=some o:=by unfold Heap.get;grind
  exact hgd l i (hG.dom l i o this);exact q
 have hdom:∀l i,l<=H.lv->g1.dom l i->g.dom l i:=λl i hl hd=>by
  rcases hst.new l i hd with q|q
  exact q
  grind
 have hown:∀b,Own g2 H' b->Own g1 σ.H b:=λb ⟨l,i,o,ho,hob⟩=>⟨l,i,o,by grind,by grind⟩
 have hloc:∀i o,σ.H.get σ.H.lv i=some o->¬Own g2 H' (o.blk g1 σ.H.lv i):=λi o ho ⟨l,i',o',ho',hob⟩=>by
  have hl:=hge2 l i' o' ho';rw[hget l i' hl]at ho';rw[hbl]at hob;have:=(hG1.inj _ _ _ _ _ _ ho' ho hob).1;omega
 have hkin:∀l i o,H'.get l i=some o->o.kin (outer H.lv):=λl i o ho=>by
  have hl:=hge2 l i o ho;have hE:σ.H.E l i=some o:=by rw[<-hb.get l i hl];exact ho
  rcases hb.same l i o hl hE with q|q
  exact kzg.zs9 (λl i h=>hgd l i h) (hG.obj l i o q).kin;exact q
 have hObj:=λl i o ho=>by
  have hl:=hge2 l i o ho;have:=hG1.obj l i o (by grind);exact zev.restrict (D:=outer H.lv) (g':=g2) (λl i hk hd=>hdom l i hk hd) (λ_ _=>rfl) (λ_ _=>rfl) (λ_ _=>rfl) (λl i hk=>hget l i hk) hown this (hkin l i o ho)
 refine⟨g2,⟨hst.os,hst.tape,hst.output,hst.size,λb hb' hn=>hst.block b hb' (λ⟨l,i,o,ho,hob⟩=>hn ⟨l,i,o,by grind,hob⟩),λb hb' =>?_,λ_ _ h=>h,λ_ _ h=>.inl h,λl i hd=>hst.blk l i hd,λl i ver ty sz xs cp hd hg =>?_,hb.lv,hst.base⟩,⟨λl i o ho =>?_,λl i o ho =>?_,λl i o l' i' o' h1 h2 h3 =>?_,λl i hd =>?_,hObj,hG1.zns.y86 hown,hG1.base⟩,?_⟩
 rcases hst.own b (hown b hb')with ⟨l,i,o,ho,hob⟩|q
 exact .inl ⟨l,i,o,by grind,hob⟩;exact .inr q;have hl:=hgd l i hd;obtain⟨v',ys,cp',h1,h2,h3⟩:=hst.arr l i ver ty sz xs cp hd (by grind)
 grind
 have hl:=hge2 l i o ho;exact hdom l i hl (hG1.dom l i o (by grind));have hl:=hge2 l i o ho;rw[hbl];exact hG1.lt l i o (by grind);rw[hbl,hbl]at h3;exact hG1.inj l i o l' i' o' (by grind) (by grind) h3;rw[hb.lv,hb.len];exact hG.fresh l i hd;exact VS.rel (g':=g2) hG1 (λl i hk hd=>hdom l i hk hd) (λ_ _ _=>rfl) (λ_ _ _=>rfl) (λ_ _ _=>rfl) (λl i hk=>hget l i hk) hown hloc hb.res hr
theorem ygt{f:Nat}{fn c n}(hf:P.funcs[f]? = some fn)(hb:fn.body=some c)(hnt:fn.ntmps=n)(hent:∀args w,(callFunc f args).run P w = .ok (.enter f args) w){args H H' r}
  (h:Sat P c ⟨args++List.replicate (n-args.length) .any,⟨H.lv+1,[],H.get⟩,[],H.get⟩ (Fin P fn H H' r)):y0g P f args H r H':=by
 intro W g cargs hG hA;subst hnt;refine .inl ⟨hent cargs W,calls_of_wp hf hb ?_⟩;obtain⟨hGe,hge,hre⟩:=y1o hG;have hst0:Step W g ⟨H.lv+1,[],H.get⟩ W g ⟨H.lv+1,[],H.get⟩:=.refl _ _ _
 have hgs:zzb W {tmps:=cargs++Array.replicate (fn.ntmps-cargs.size) undef,defers:=[]} g ⟨args++List.replicate (fn.ntmps-args.length) .any,⟨H.lv+1,[],H.get⟩,[],H.get⟩:=by
  refine⟨hGe,by simp[hA.1],λj v hj =>?_,rfl,by simp⟩;rw[Qba]at hj;split at hj;rename_i hlt;rw[z1n (by rw[hA.1];exact hlt)];exact hre (hA.2 j v hj);rw[Qbi]at hj;split at hj;cases hj;exact .any _;cases hj
 refine wp_mono (h W g ⟨H.lv+1,[],H.get⟩ W _ g ⟨hGe⟩ ⟨rfl,hst0⟩ hgs).wp λe a W' ⟨g1,σ,e',q1,q2,q3,q4⟩ =>?_
 have key:∀v,z0w P fn σ=some v->σ.d=[]->Back H H' σ v r->a.defers=[]∧∃c,(results fn a.tmps).run P W' = .ok c W'∧∃c' g',Ending.returned c = .returned c'∧Step W g H W' g' H'∧Good W' g' H'∧Rel W' g' H' r c':=λv h1 h2 h3=>by
  obtain⟨c,k1,k2⟩:=zds q3 h1;obtain⟨g2,z1,z2,z3⟩:=yc1 hG q2.2.lv q2.2 q3.good h3 k2;refine⟨Qao (by rw[q3.dlen,h2];rfl),c,k1,c,g2,rfl,z1,z2,z3⟩
 cases q1 with
 |normal=>obtain⟨v,h1,h2,h3⟩:=q4;exact key v h1 h2 h3
 |ret=>obtain⟨v,h1,h2,h3⟩:=q4;exact key v h1 h2 h3
 |exit id=>exact q4.elim
 |panic v c hr=>exact q4.elim
theorem wrI{x}(h1 : -9223372036854775808<=x)(h2:x<=9223372036854775807):IntKind.i64.wrap x=x:=by
 exact IntWalk.i64_in _ (by omega)
theorem wr1{k:Nat}(h:k<=4611686018427387904):IntKind.i64.wrap ((k:Int)+1)=(k:Int)+1:=wrI (by omega) (by omega)
def zpq(P:Program)(f:Nat)(args:List V)(r:V):Prop:=∀H,y0g P f args H r H
theorem y71{H σ v r}(hE:σ.H.E=H.get)(h:VS σ.H (outer H.lv) v r):Back H H σ v r :=
 ⟨h,λl i _=>by rw[hE],rfl,rfl,λl i o _ ho=>.inl (by simp_all),λ_ _ _=>rfl⟩
def Ends(P:Program)(fn:Func)(lv:Nat)(E:Nat->Nat->Option kzg)(r:V)(e:z0j)(σ:St):Prop :=
 match e with
 |.normal| .ret=>∃v,z0w P fn σ=some v∧σ.d=[]∧σ.H.E=E∧VS σ.H (outer lv) v r
 |_=>False
theorem z008{f:Nat}{fn c n}(hf:P.funcs[f]? = some fn)(hb:fn.body=some c)(hnt:fn.ntmps=n)(hent:∀args w,(callFunc f args).run P w = .ok (.enter f args) w){args r}
  (h:∀lv E,Sat P c ⟨args++List.replicate (n-args.length) .any,⟨lv+1,[],E⟩,[],E⟩ (Ends P fn lv E r)):zpq P f args r:=λH=>
 ygt hf hb hnt hent ((h H.lv H.get).mono λe σ hq=>by
  cases e with
  |normal=>obtain⟨v,h1,h2,h3,h4⟩:=hq;exact⟨v,h1,h2,y71 h3 h4⟩
  |ret=>obtain⟨v,h1,h2,h3,h4⟩:=hq;exact⟨v,h1,h2,y71 h3 h4⟩
  |exit id=>exact hq
  |panic v=>exact hq)
theorem ends{fn lv E σ v r}(hr:z0w P fn σ=some v)(hd:σ.d=[])(hE:σ.H.E=E)(h:VS σ.H (outer lv) v r):Ends P fn lv E r .ret σ:=⟨v,hr,hd,hE,h⟩
end
section
variable {P : Program} {ops : Array Oper} {md : Region.Mode}
theorem yos{H ρ ρ' o}(h:∀x∈o.operands,ρ x=ρ' x):pv P H ρ o=pv P H ρ' o:=by
 cases o
 case move x=>grind[pv,Op.operands]
 case assign x=>grind[pv,Op.operands]
 case pick c a b=>grind[pv,Op.operands]
 case load t a=>grind[pv,Op.operands]
 case nilCheck x=>grind[pv,Op.operands]
 case binOp op t x y u=>grind[pv,Op.operands]
 case unOp op t x=>grind[pv,Op.operands]
 case convert s d x=>grind[pv,Op.operands]
 case makeInterface t x=>grind[pv,Op.operands]
 case makeFunc fn first caps=>
  cases fn <;> try rfl
  grind[pv,List.map_congr_left,Op.operands]
 case slice t x lo hi mx=>
  simp[pv]
  have h1:lo.map ρ=lo.map ρ':=by
   cases lo with
   |none=>rfl
   |some y=>grind[Op.operands]
  have h2:hi.map ρ=hi.map ρ':=by
   cases hi with
   |none=>rfl
   |some y=>grind[Op.operands]
  have h3:mx.map ρ=mx.map ρ':=by
   cases mx with
   |none=>rfl
   |some y=>grind[Op.operands]
  grind[Op.operands]
 case fieldAddr s x f=>grind[pv,Op.operands]
 case field s x f=>grind[pv,Op.operands]
 case indexAddr t x i=>grind[pv,Op.operands]
 case index t x i=>grind[pv,Op.operands]
 case lookup t x k ok=>grind[pv,Op.operands]
 case typeAssert x t u ok=>grind[pv,Op.operands]
 case extract x i=>grind[pv,Op.operands]
 case build t ps=>
  grind[pv,partsOf,List.map_congr_left,Op.operands]
 case buildSlice t len ps=>
  grind[pv,partsOf,List.map_congr_left,Op.operands]
 case makeSlice t n c=>grind[pv,Op.operands]
 case call c=>
  grind[pv,zda,List.map_congr_left,Op.operands,Call.operands]
 all_goals rfl
theorem zld{ρ ρ' c}(h:∀x∈c.operands,ρ x=ρ' x):target ρ c=target ρ' c:=by
 unfold target
 grind[List.map_congr_left,Call.operands]
theorem z03g{σ:St}{dst:Option Nat}{v x}(h:∀d,dst=some d->x ≠ .tmp d):(σ.put dst v).ev x=σ.ev x:=by
 cases dst with
 |none=>rfl
 |some d=>
  cases x with
  |tmp t=>
   simp[St.put,St.ev];have:d≠t:=λe=>h d rfl (by rw[e])
   simp_all
  |const v=>rfl
  |global g=>rfl
  |func f=>rfl
theorem z01d{σ:St}{dst v}:(σ.put dst v).H=σ.H:=by cases dst <;> rfl
theorem z069{σ:St}{dst v}:(σ.put dst v).e0=σ.e0:=by cases dst <;> rfl
theorem put_comm{σ:St}{x y}(v u)(h:∀d,x=some d->y≠some d):(σ.put x v).put y u=(σ.put y u).put x v:=by
 cases x with
 |none=>cases y <;> rfl
 |some d=>
  cases y with
  |none=>rfl
  |some e=>
   grind[St.put,List.set_comm]
theorem zek{o:Oper}{d:Nat}(h:d∉o.looksAt ops):∀x∈o.op.operands,x ≠ .tmp d:=λx hx e=>h (by
 subst e;unfold Oper.looksAt;simp[List.mem_filterMap]
 exact .inl ⟨.tmp d,by simpa using hx,rfl⟩)
theorem y7i{σ o dst v}(h:∀d,dst=some d->d∉o.looksAt ops):yzu ops (σ.put dst v) o=yzu ops σ o:=by
 unfold yzu;split;rfl;split;rename_i d' hd
 cases dst with
 |none=>rfl
 |some d=>
  have hne:d≠d':=λe=>h d rfl (by
   grind[Oper.looksAt])
  simp_all[St.put]
 rfl
def QV(P:Program)(σ:St)(o:Oper)(v:V):Prop :=
 pv P σ.H σ.ev o.op=some v∨∃c f args,o.op = .call c∧target σ.ev c=some (f,args)∧y0g P f args σ.H v σ.H
def QY(P:Program)(ops:Array Oper)(σ:St)(o:Oper)(v:V):Prop :=
 (yzu ops σ o=some true∧QV P σ o v)∨(yzu ops σ o=some false∧v = .tup [])
theorem z05z{σ o}{dst:Option Nat}{u v}(h:∀d,dst=some d->d∉o.looksAt ops):QY P ops (σ.put dst u) o v↔QY P ops σ o v:=by
 have he:∀x∈o.op.operands,(σ.put dst u).ev x=σ.ev x:=λx hx=>z03g λd hd=>zek (h d hd) x hx
 unfold QY QV;rw[y7i h,yos he,z01d];constructor
 rintro (⟨h1,h2|⟨c,f,args,h2,h3,h4⟩⟩|h1)
 grind
 exact .inl ⟨h1,.inr ⟨c,f,args,h2,by rw[<-zld (ρ:=(σ.put dst u).ev) (λx hx=>he x (by rw[h2];exact hx))];exact h3,h4⟩⟩;exact .inr h1
 rintro (⟨h1,h2|⟨c,f,args,h2,h3,h4⟩⟩|h1)
 grind
 exact .inl ⟨h1,.inr ⟨c,f,args,h2,by rw[zld (ρ':=σ.ev) (λx hx=>he x (by rw[h2];exact hx))];exact h3,h4⟩⟩;exact .inr h1
def qA(P:Program)(ops:Array Oper)(i:Nat)(K:St->Prop)(σ:St):Prop :=
 match ops[i]? with
 |none=>K σ
 |some o=>∃v,QY P ops σ o v∧K (σ.put o.dst v)
theorem yvp{i σ K K'}(h:∀σ,K σ->K' σ)(hh:qA P ops i K σ):qA P ops i K' σ:=by
 grind[qA]
theorem QY.qA{i o v σ}(hi:ops[i]? = some o)(hy:QY P ops σ o v){K}(h:K (σ.put o.dst v)):qA P ops i K σ:=by
 grind[Ab.qA]
theorem z020{j oi oj v}(hj:ops[j]? = some oj)(hap:oi.apart ops oj=true){K σ}(hy:QY P ops σ oi v)(h:qA P ops j K (σ.put oi.dst v)) :
  qA P ops j (λσ'=>QY P ops σ' oi v∧K (σ'.put oi.dst v)) σ:=by
 obtain⟨h1,h2,h3⟩:=Oper.apart_spec hap;unfold qA at *;simp[hj]at *
 grind[z05z,put_comm]
theorem yc5{W0 g0 H0 i σ K K' Q'}
  (hk:∀W a g σ,K σ->(σ.e0=H0.E∧Step W0 g0 H0 W g σ.H)->zzb W a g σ->K' a W) {W a g} (hh:qA P ops i K σ) (hS:σ.e0=H0.E∧Step W0 g0 H0 W g σ.H) (hG:zzb W a g σ):wpOp P ops Q' i K' a W:=by
 unfold qA at hh;unfold wpOp;split
 grind
 ·rename_i o ho;simp[ho]at hh;obtain⟨v,hy,hkk⟩:=hh
  have fin:∀c W' g',Step W g σ.H W' g' σ.H->Good W' g' σ.H->Rel W' g' σ.H v c->K' (a.put o.dst c) W':=λc W' g' s1 s2 s3=>
   hk W' _ g' _ hkk (by rw[z01d,z069];exact⟨hS.1,hS.2.trans s1⟩) (hG.next s1 s2 s3 o.dst)
  rcases hy with ⟨hw,hv⟩|⟨hw,rfl⟩
  rw[z0c hG hw,Qbq rfl];left;unfold Oper.wp
  rcases hv with hv|⟨c,f,args,hop,ht,hcl⟩
  obtain⟨c,W',h1,h2,h3⟩:=y45 (P:=P) hG.good (r:=a.eval) hG.ev hv;rw[h1];exact fin c W' g h2.step (hG.good.grow h2) h3;obtain⟨cargs,k1,k2⟩:=zfk (P:=P) (ty:=o.type) hG.ev ht
  have hex:(execOp a.eval o).run P W=(callFunc f cargs).run P W:=by
   rw[<-k2 W];unfold execOp;rw[hop]
  rcases hcl W g cargs hG.good k1 with ⟨e1,e2⟩|⟨c,W',g',e1,e2,e3,e4⟩
  rw[hex,e1];refine e2.mono λe W' ⟨c,g',he,s1,s2,s3⟩ =>?_
  grind
  rw[hex,e1];exact fin c W' g' e2 e3 e4;rw[z0c hG hw,Qbr (by simp)];have:=fin undef W g (.refl _ _ _) hG.good (.tup [] #[] rfl (by simp));exact this
def AQ(P:Program)(md:Region.Mode)(ops:Array Oper)(R:St->Prop):Nat->Array Bool->St->Prop
 |0,listed,σ=>Region.ready md ops listed=[]∧R σ
 |fuel+1,listed,σ=>(Region.ready md ops listed=[]->R σ)∧∀i∈Region.ready md ops listed,qA P ops i (AQ P md ops R fuel (listed.setIfInBounds i true)) σ
theorem y8g{W0 g0 H0 R Q'}(hR:∀W a g σ,R σ->(σ.e0=H0.E∧Step W0 g0 H0 W g σ.H)->zzb W a g σ->Q' .normal a W) :
  ∀(fuel) (listed) (σ) (W) (a) (g),AQ P md ops R fuel listed σ->(σ.e0=H0.E∧Step W0 g0 H0 W g σ.H)->zzb W a g σ->wpAny P md ops Q' fuel listed a W
 |0,_,σ,W,a,g,h,hS,hG=>⟨h.1,hR W a g σ h.2 hS hG⟩
 |fuel+1,listed,σ,W,a,g,h,hS,hG=>⟨λh0=>hR W a g σ (h.1 h0) hS hG,λi hi=>yc5 (λW a g σ' hk hS hG=>y8g hR fuel _ σ' W a g hk hS hG) (h.2 i hi) hS hG⟩
theorem z029{R i oi v}(hi:ops[i]? = some oi) :
  ∀(fuel) (listed) (σ),
   (∀j oj,ops[j]? = some oj->j≠i->listed.getD j true=false->(∀e∈oj.after,Region.binds md e=true->e.on≠i)->oi.apart ops oj=true) ->
   i∈Region.ready md ops listed->QY P ops σ oi v->AQ P md ops R fuel (listed.setIfInBounds i true) (σ.put oi.dst v)->AQ P md ops R (fuel+1) listed σ:=by
 intro fuel
 induction fuel with
 |zero=>
  intro listed σ _ hr hy H;refine⟨λh=>(by grind),λj hj =>?_⟩;by_cases hji:j=i;subst hji;exact hy.qA hi H;have:=ready_mono hj hji;rw[H.1]at this
  cases this
 |succ fuel ih=>
  intro listed σ hfree hr hy H;refine⟨λh=>(by grind),λj hj =>?_⟩;by_cases hji:j=i;subst hji;exact hy.qA hi H;have h1:=H.2 j (ready_mono hj hji);obtain⟨hjun,oj,hoj,hall⟩:=mem_ready.1 hj;have hun:=(mem_ready.1 hr).1
  have hnot:∀e∈oj.after,Region.binds md e=true->e.on≠i:=λe he hb heq=>by
   grind
  have h2:=z020 hoj (hfree j oj hoj hji hjun hnot) hy h1
  have hfree':∀k ok,ops[k]? = some ok->k≠i->(listed.setIfInBounds j true).getD k true=false ->
    (∀e∈ok.after,Region.binds md e=true->e.on≠i)->oi.apart ops ok=true:=λk ok hk hki hun hno=>by
   refine hfree k ok hk hki ?_ hno;by_cases hjk:j=k;subst hjk;exact hjun;rw[getD_set_ne true hjk]at hun;exact hun
  refine yvp (λσ' h3=>ih (listed.setIfInBounds j true) σ' hfree' (ready_mono hr (Ne.symm hji)) h3.1 ?_) h2
  grind[Array.setIfInBounds_comm]
def znu(P:Program)(ops:Array Oper):List Oper->List V->St->Option (St×List V×List Claim)
 |[],ans,σ=>some (σ,ans,[])
 |o::rest,ans,σ=>
  match yzu ops σ o with
  |none=>none
  |some b=>if b then
    (match pv P σ.H σ.ev o.op with
    |some v=>znu P ops rest ans (σ.put o.dst v)
    |none=>match o.op with
     |.call c=>match target σ.ev c,ans with
      |some (f,args),r::ans'=>match znu P ops rest ans' (σ.put o.dst r)with
       |some (σ',l,cl)=>some (σ',l,⟨f,args,σ.H,r,σ.H⟩::cl)
       |none=>none
      |_,_=>none
     |_=>none)
   else znu P ops rest ans (σ.put o.dst (.tup []))
theorem yjh{o rest ans l σ σ' cl}(h:znu P ops (o::rest) ans σ=some (σ',l,cl))(hc:∀c∈cl,c.ok P) :
  ∃v ans' cl',QY P ops σ o v∧znu P ops rest ans' (σ.put o.dst v)=some (σ',l,cl')∧∀c∈cl',c.ok P:=by
 simp[znu]at h;split at h;cases h;rename_i b hw;split at h;rename_i hb;subst hb;split at h;rename_i v hv;exact⟨v,ans,cl,.inl ⟨hw,.inl hv⟩,h,hc⟩;split at h;rename_i c hop;split at h;rename_i f args r ans' ht;split at h;rename_i σ1 l1 cl1 hrun;simp[Qbs]at h;obtain⟨rfl,rfl,rfl⟩:=h;exact⟨r,ans',cl1,.inl ⟨hw,.inr ⟨c,f,args,hop,ht,hc _ (.head _)⟩⟩,hrun,λc hc'=>hc c (.tail _ hc')⟩;cases h;cases h;cases h
 rename_i hb;have:=by simpa using hb
 subst this;exact⟨(.tup []),ans,cl,.inr ⟨hw,rfl⟩,h,hc⟩
theorem z006{R}:∀(l) (k) (listed) (σ σ') (ans rest) (cl),(∀j,l[j]? = ops[k+j]?) ->
  Region.lexFrom md ops l.length k listed=true->znu P ops l ans σ=some (σ',rest,cl)->(∀c∈cl,c.ok P)->R σ'->AQ P md ops R l.length listed σ
 |[],_,_,σ,σ',ans,rest,cl,_,hB,h,_,hR=>by
  obtain⟨rfl,_,_⟩:=h
  exact⟨by simpa[Region.lexFrom]using hB,hR⟩
 |o::l,k,listed,σ,σ',ans,rest,cl,hl,hB,h,hc,hR=>by
  have h0:=by simpa using(hl 0).symm
  simp[Region.lexFrom,Qag]at hB;obtain⟨⟨hr,hf⟩,hB'⟩:=hB;obtain⟨v,ans',cl',hy,hrun,hc'⟩:=yjh h hc
  exact z029 h0 l.length listed σ (Region.free_spec h0 hf) (by simpa using hr) hy
   (z006 l (k+1) _ _ σ' ans' rest cl' (λj=>by have:=hl (j+1);grind) hB' hrun hc' hR)
theorem zzb.drawn{W a g σ}(h:zzb W a g σ)(n):zzb {W with drawn:=n} a g σ :=
 have s:=(Grow.drawn W n).step (g:=g) (H:=σ.H)
 ⟨h.good.grow (Grow.drawn W n),h.size,λj v hj=>(h.tmps j v hj).mono s,h.dlen,λj f vs hj=>(h.defs j f vs hj).mono h.good s⟩
theorem z00u{id σ σ' Q}(hm:P.follows .mixedOrders=true)(hB:Region.lexB .any ops=true)(ans){rest cl}(h:znu P ops ops.toList ans σ=some (σ',rest,cl))(hc:∀c∈cl,c.ok P)(hQ:Q .normal σ') :
  Sat P (.region id ops true) σ Q:=λW0 g0 H0 W a g _ hS hG=>by
 simp[Region.lexB,Qag]at hB;refine zi7 zxo hm ?_;have hG':=hG.drawn (W.drawn+1);have hS':σ.e0=H0.E∧Step W0 g0 H0 {W with drawn:=W.drawn+1} g σ.H:=⟨hS.1,hS.2.trans (Grow.drawn W _).step⟩;have:=z006 (P:=P) (md:=.any) (R:=λτ=>τ=σ') ops.toList 0 (Array.replicate ops.size false) σ σ' ans rest cl (by simp) (by simpa using hB.2) h hc rfl
 exact y8g (Q':=yil W0 g0 H0 Q) (λW a g τ hτ hS hG=>by subst hτ;exact⟨g,_,.normal,.normal,hS,hG,hQ⟩) _ _ σ _ a g this hS' hG'
def ALt(P:Program)(md:Region.Mode)(ops:Array Oper)(n:Nat)(L:Array Bool->St->Prop):Nat->Array Bool->St->Prop
 |0,listed,σ=>L listed σ
 |f+1,listed,σ=>Region.ready md ops listed≠[]∧∀i∈Region.ready md ops listed,i<n∧qA P ops i (ALt P md ops n L f (listed.setIfInBounds i true)) σ
theorem zu4{W0 g0 H0 n k L Q'}
  (hL:∀listed W a g σ,L listed σ->(σ.e0=H0.E∧Step W0 g0 H0 W g σ.H)->zzb W a g σ->wpAny P md ops Q' k listed a W) :
  ∀(f) (listed) (σ) (W) (a) (g),ALt P md ops n L f listed σ->(σ.e0=H0.E∧Step W0 g0 H0 W g σ.H)->zzb W a g σ->wpAny P md ops Q' (f+k) listed a W
 |0,listed,σ,W,a,g,h,hS,hG=>by rw[Nat.zero_add];exact hL _ _ _ g σ h hS hG
 |f+1,listed,σ,W,a,g,h,hS,hG=>by
  rw[show f+1+k=(f+k)+1 by omega];exact⟨λh0=>absurd h0 h.1,λi hi=>yc5 (λW a g σ' hk hS hG=>zu4 hL f _ σ' W a g hk hS hG) (h.2 i hi).2 hS hG⟩
theorem yx0{n i oi v L}(hi:ops[i]? = some oi)
  (hs:Region.sinkB md ops n=true) (hc:Region.chainB md ops n=true) (hn:n<ops.size) (hin:i<n)
  (hdone:∀listed σ,L listed σ->∀j∈Region.ready md ops listed,n<=j) :
  ∀(f) (listed) (σ),HeadInv md ops n listed ->
   (∀j oj,ops[j]? = some oj->j≠i->listed.getD j true=false->(∀e∈oj.after,Region.binds md e=true->e.on≠i)->oi.apart ops oj=true) ->
   i∈Region.ready md ops listed->QY P ops σ oi v->ALt P md ops n L f (listed.setIfInBounds i true) (σ.put oi.dst v)->ALt P md ops n L (f+1) listed σ:=by
 intro f
 induction f with
 |zero=>
  intro listed σ inv _ hr hy H;have hun:=(mem_ready.1 hr).1;refine⟨λh=>(by grind),λj hj =>?_⟩
  have hjn:j<n:=by
   rcases Nat.lt_or_ge j n with h|h
   exact h;exact absurd hj (tail_waits hs hc hn inv _ i rfl hin hun j h)
  refine⟨hjn,?_⟩;by_cases hji:j=i;subst hji;exact hy.qA hi H;have:=hdone _ _ H j (ready_mono hj hji)
  omega
 |succ f ih=>
  intro listed σ inv hfree hr hy H;have hun:=(mem_ready.1 hr).1;refine⟨λh=>(by grind),λj hj =>?_⟩
  have hjn:j<n:=by
   rcases Nat.lt_or_ge j n with h|h
   exact h;exact absurd hj (tail_waits hs hc hn inv _ i rfl hin hun j h)
  refine⟨hjn,?_⟩;by_cases hji:j=i;subst hji;exact hy.qA hi H;have h1:=(H.2 j (ready_mono hj hji)).2;obtain⟨hjun,oj,hoj,hall⟩:=mem_ready.1 hj
  have hnot:∀e∈oj.after,Region.binds md e=true->e.on≠i:=λe he hb heq=>by
   grind
  have h2:=z020 hoj (hfree j oj hoj hji hjun hnot) hy h1
  have hfree':∀k ok,ops[k]? = some ok->k≠i->(listed.setIfInBounds j true).getD k true=false ->
    (∀e∈ok.after,Region.binds md e=true->e.on≠i)->oi.apart ops ok=true:=λk ok hk hki hun hno=>by
   refine hfree k ok hk hki ?_ hno;by_cases hjk:j=k;subst hjk;exact hjun;rw[getD_set_ne true hjk]at hun;exact hun
  refine yvp (λσ' h3=>ih (listed.setIfInBounds j true) σ' (inv.set hj hjn) hfree' (ready_mono hr (Ne.symm hji)) h3.1 ?_) h2
  grind[Array.setIfInBounds_comm]
theorem yn6{n k0}{R:St->Prop}(hs:Region.sinkB md ops n=true)(hc:Region.chainB md ops n=true)(hn:n<ops.size) :
  ∀(l) (k) (listed) (σ σ') (ans rest) (cl),(∀j,j<l.length->l[j]? = ops[k+j]?)->k+l.length=n->HeadInv md ops n listed ->
  Region.lexHead md ops k0 l.length k listed=true->znu P ops l ans σ=some (σ',rest,cl)->(∀c∈cl,c.ok P)->R σ' ->
  ALt P md ops n (λlisted' τ=>Region.seqB md ops k0 n listed'=true∧R τ) l.length listed σ
 |[],k,listed,σ,σ',ans,rest,cl,_,hk,_,hB,h,_,hR=>by
  have:=by simpa using hk
  subst this;obtain⟨rfl,_,_⟩:=h
  exact⟨by simpa[Region.lexHead]using hB,hR⟩
 |o::l,k,listed,σ,σ',ans,rest,cl,hl,hk,inv,hB,h,hcl,hR=>by
  have h0:=by simpa using(hl 0 (by simp)).symm
  simp[Region.lexHead,Qag]at hB;obtain⟨⟨hr,hf⟩,hB'⟩:=hB;have hkn:k<n:=by grind
  have hr':=by simpa using hr
  obtain⟨v,ans',cl',hy,hrun,hc'⟩:=yjh h hcl
  exact yx0 h0 hs hc hn hkn (λlisted' τ hL=>seqB_ready hL.1) l.length listed σ inv (Region.free_spec h0 hf) hr' hy
   (yn6 hs hc hn l (k+1) _ _ σ' ans' rest cl' (λj hj=>by have:=hl (j+1) (by simp;omega);grind) (by grind) (inv.set hr' hkn) hB' hrun hc' hR)
theorem zq9{Q'}:∀(m k) (listed) (a) (w),k+m=ops.size ->
  Region.seqB md ops m k listed=true->wpOps P ops Q' (List.range' k m) a w->wpAny P md ops Q' m listed a w
 |0,_,_,_,_,_,hB,h=>⟨by simpa[Region.seqB]using hB,h⟩
 |m+1,k,listed,a,w,hk,hB,h=>by
  simp[Region.seqB,Qar]at hB;refine⟨λh1=>(by grind),λi hi =>?_⟩;rw[hB.1]at hi;have hik:=by simpa using hi
  subst hik;simp[List.range'_succ]at h
  have hw:wpOp P ops Q' i (wpOps P ops Q' (List.range' (i+1) m)) a w:=by
   grind[wpOp,wpOps]
  exact wpOp_mono (λa' w' h'=>zq9 m (i+1) _ a' w' (by omega) hB.2 h') hw
theorem z03j{id σ τ σ' Q}(n)(hm:P.follows .mixedOrders=true)(hB:Region.lexTailB .any ops n=true)
  (ans) {rest cl} (h:znu P ops (ops.toList.take n) ans σ=some (τ,rest,cl)) (hc:∀c∈cl,c.ok P)
  (ans2) {rest2 cl2} (h2:y1v P ops (ops.toList.drop n) ans2 τ=some (σ',rest2,cl2)) (hc2:∀c∈cl2,c.ok P) (hQ:Q .normal σ') :
  Sat P (.region id ops true) σ Q:=λW0 g0 H0 W a g _ hS hG=>by
 simp[Region.lexTailB,Qar]at hB;obtain⟨⟨⟨⟨hsel,hn⟩,hs⟩,hch⟩,hlex⟩:=hB;have hG':=hG.drawn (W.drawn+1);have hS':σ.e0=H0.E∧Step W0 g0 H0 {W with drawn:=W.drawn+1} g σ.H:=⟨hS.1,hS.2.trans (Grow.drawn W _).step⟩;have htl:(ops.toList.take n).length=n:=by simp;omega
 have inv0:HeadInv .any ops n (Array.replicate ops.size false) :=
  ⟨by simp,λj oj _ hl=>(by grind[getD_replicate_false]),λt _ ht=>getD_in (by simpa using ht) (getD_replicate_false _ _)⟩
 have H:=yn6 (P:=P) (md:=.any) (k0:=ops.size-n) (R:=λυ=>υ=τ) hs hch hn (ops.toList.take n) 0 _ σ τ ans rest cl (λj hj=>by
  grind) (by simpa using htl) inv0 (by rw[htl];exact hlex) h hc rfl
 refine zi7 zxo hm ?_
 have:=zu4 (P:=P) (Q':=yil W0 g0 H0 Q) (k:=ops.size-n) (λlisted W a g υ hL hS hG=>by
  obtain⟨h1,h3⟩:=hL;subst h3;refine zq9 (ops.size-n) n listed a W (by omega) h1 ?_;have:=ztl (P:=P) (ops:=ops) (Q:=yil W0 g0 H0 Q) (W0:=W0) (g0:=g0) (H0:=H0) (ops.toList.drop n) n ans2 rest2 υ σ' cl2 W a g (λj=>by grind) h2 hc2 hG hS (λW' a' g' s1 s2=>⟨g',σ',.normal,.normal,s1,s2,hQ⟩)
  simpa using this) _ _ σ _ a g H hS' hG'
 grind
theorem yhr{id σ τ Q}(n)(hm:P.follows .mixedOrders=true)(hB:Region.lexTailB .any ops n=true)
  (ans) {rest cl} (h:znu P ops (ops.toList.take n) ans σ=some (τ,rest,cl)) (hc:∀c∈cl,c.ok P)
  (hQ:∀W0 g0 H0 W a g,Base W0 g0 H0->(τ.e0=H0.E∧Step W0 g0 H0 W g τ.H)->zzb W a g τ->wpOps P ops (yil W0 g0 H0 Q) (List.range' n (ops.size-n)) a W) :
  Sat P (.region id ops true) σ Q:=λW0 g0 H0 W a g hBa hS hG=>by
 simp[Region.lexTailB,Qar]at hB;obtain⟨⟨⟨⟨hsel,hn⟩,hs⟩,hch⟩,hlex⟩:=hB;have hG':=hG.drawn (W.drawn+1);have hS':σ.e0=H0.E∧Step W0 g0 H0 {W with drawn:=W.drawn+1} g σ.H:=⟨hS.1,hS.2.trans (Grow.drawn W _).step⟩;have htl:(ops.toList.take n).length=n:=by simp;omega
 have inv0:HeadInv .any ops n (Array.replicate ops.size false) :=
  ⟨by simp,λj oj _ hl=>(by grind[getD_replicate_false]),λt _ ht=>getD_in (by simpa using ht) (getD_replicate_false _ _)⟩
 have H:=yn6 (P:=P) (md:=.any) (k0:=ops.size-n) (R:=λυ=>υ=τ) hs hch hn (ops.toList.take n) 0 _ σ τ ans rest cl (λj hj=>by
  grind) (by simpa using htl) inv0 (by rw[htl];exact hlex) h hc rfl
 refine zi7 zxo hm ?_
 have:=zu4 (P:=P) (Q':=yil W0 g0 H0 Q) (k:=ops.size-n) (λlisted W a g υ hL hS hG=>by
  grind[zq9]) _ _ σ _ a g H hS' hG'
 grind
theorem z04d{id σ Q}(hm:P.follows .mixedOrders=true)(hB:Region.lexB .any ops=true)(ans){r}(h:znu P ops ops.toList ans σ=some r)(hc:∀c∈r.2.2,c.ok P)(hQ:Q .normal r.1) :
 Sat P (.region id ops true) σ Q:=z00u hm hB ans (σ':=r.1) (rest:=r.2.1) (cl:=r.2.2) h hc hQ
end
end Go.Ab
