/-
  slices.Sort OF STRINGS ON A SLICE OF OURS, out of a y3b of the kit's kind.
-/
import Derived.Test.YthphaiccgnkobaaGreatDoorLib8
import Derived.Shelf.Sort.Plain
import Derived.Lib.SlicesCompact
import Derived.Sort.Walk0
import Derived.Laws.AppendOwn
namespace Go.Ab
open Go Go.RowKit Go.Sort Go.Proofs
set_option linter.unusedVariables false
set_option linter.unusedSimpArgs false
def z4c(ss:List B8):List B8:=ss.mergeSort λx y=>decide (x<=y)
theorem zgv(ss):(z4c ss).Perm ss:=List.mergeSort_perm _ _
theorem z036{P:Program}{f ty:Nat}(hent:∀args W,(callFunc f args).run P W = .ok (.enter f args) W)
  (hcon:∀(blk cap:Nat) (ss:List B8) (w:World),Holds encStr w blk 0 ss.toArray->blk<w.heap.size->ss.length<4611686018427387904 ->
   Calls P f #[.slice (some ⟨blk,0,none⟩) ss.length cap] w λe w'=>e = .returned (.tuple #[])∧∃n os,w'=grow (putRow encStr (Sort.ahead w n) blk 0 (ss.mergeSort λx y=>decide (x<=y)).toArray) os)
  {lv k ver n:Nat} {L:List (Option kzg)}{E:Nat->Nat->Option kzg}{xs:List B8}{cp:Option Nat}(hL:L[k]? = some (some (.arr ver ty 1 (xs.map V.str) cp))) (hlen:xs.length<4611686018427387904) (hn:n=xs.length) :
  znq P f [.hs lv k ver 0 n false] ⟨lv,L,E⟩ λo H'=>o = .ret (.tup [])∧H'=⟨lv,L.set k (some (.arr ver ty 1 ((z4c xs).map V.str) cp)),E⟩:=by
 intro W g cargs hG hR;have hg:(⟨lv,L,E⟩:Heap).get lv k=some (.arr ver ty 1 (xs.map V.str) cp):=by simp[Heap.get,hL]
 obtain⟨x,rfl,h0⟩:∃x,cargs = #[x]∧Rel W g ⟨lv,L,E⟩ (.hs lv k ver 0 n false) x:=by
  obtain⟨h1,h2⟩:=hR;have hsz:cargs.toList.length=1:=by simpa using h1
  obtain⟨c,hc⟩:=List.length_eq_one_iff.1 hsz;have hc':cargs = #[c]:=by rw[<-Array.toList_inj,hc]
  subst hc';exact⟨c,rfl,by simpa using h2 0 _ rfl⟩
 refine⟨hent _ _,?_⟩
 cases h0 with
 |hs _ _ _ _ _ _ a m cap hd hv ha=>
  obtain⟨rfl,rfl,⟨a1,a2,_⟩,a3⟩:=ha _ _ _ _ hg;obtain⟨cur,k1,k2,k3,k3',k4,k5,k6,k7,k8⟩:=hG.obj _ _ _ hg;rw[List.length_map]at k4
  have hH:Holds encStr W (g.ab lv k) 0 xs.toArray:=λj hj=>by
   have hj':j<xs.length:=by simpa using hj
   have e1:(xs.map V.str)[j]? = some (.str xs[j]):=by rw[Qan,Qab hj'];rfl
   have e2:=k8 j _ 0 (.str xs[j]) e1 rfl;have hlt:j<cur.size:=by rw[k3];omega
   refine⟨?_,by simp[World.frozen?,k1]⟩;rw[getElem!_pos xs.toArray j hj]
   cases e2h:cur.getD (j * 1+0) undef with
   |string s=>
    rw[e2h]at e2;cases e2;rw[Qae]at e2h;rw[show j * 1+0=j by omega,Qas hlt]at e2h;simp only[Option.getD_some]at e2h
    simp[World.cell?,k1,hlt,e2h,encStr]
   |_=>rw[e2h]at e2;cases e2
  have hb:g.ab lv k<W.heap.size:=(Qbh.1 k1).1;have hc:=hcon (g.ab lv k) cap xs W hH hb hlen;have hsp:=zgv xs;have hsl:(z4c xs).length=xs.length:=hsp.length_eq;subst hn;refine hc.mono ?_
  rintro e W' ⟨rfl,nn,os,rfl⟩
  have hheap:(grow (putRow encStr (Sort.ahead W nn) (g.ab lv k) 0 (z4c xs).toArray) os).heap=W.heap.modify (g.ab lv k) (onCells (Go.Sort.putCells encStr 0 (z4c xs).toArray))++os:=rfl
  have hW':(grow (putRow encStr (Sort.ahead W nn) (g.ab lv k) 0 (z4c xs).toArray) os).heap[g.ab lv k]? = some (.cells (Go.Sort.putCells encStr 0 (z4c xs).toArray cur) ty (0,0)):=by
   rw[hheap,Array.getElem?_append_left (by simpa using hb),Qby,Qbq rfl,k1];rfl
  have hcur:∀j (hj:j<(z4c xs).length),(Go.Sort.putCells encStr 0 (z4c xs).toArray cur).getD (j * 1+0) undef = .string ⟨((z4c xs)[j]).toArray⟩:=λj hj=>by
   have hlt2:j * 1+0<cur.size:=by rw[k3];omega
   rw[Qae,Go.Sort.putCells,Array.getElem?_mapIdx,Qas hlt2];simp only[Qbk,Option.getD_some,Nat.sub_zero];rw[Qbq ⟨Qbo _,by simp;omega⟩,getElem!_pos (z4c xs).toArray _ (by simp;omega)];simp[encStr]
  have hys:∀(j:Nat) (x:V),((z4c xs).map V.str)[j]? = some x->∃hj:j<(z4c xs).length,x = .str (z4c xs)[j]:=λj x hj=>by
   rw[Qan,Qaf]at hj;obtain⟨y,hy,rfl⟩:=hj;obtain⟨h1,h2⟩:=Qaa.1 hy;exact⟨h1,by rw[h2]⟩
  obtain⟨q1,q2⟩:=zei (W':=grow (putRow encStr (Sort.ahead W nn) (g.ab lv k) 0 (z4c xs).toArray) os) hG (o':=.arr ver ty 1 ((z4c xs).map V.str) cp) hg rfl rfl rfl rfl (by rw[hheap];simp) (λb hb1 hb2=>by
    rw[hheap,Array.getElem?_append_left (by simpa using hb1),Qby,Qbr (λh=>hb2 h.symm)])
   (λver ty sz zs cp' he=>by injection he with e1 e2 e3 e4 e5;subst e1;subst e2;subst e3;subst e4;exact⟨_,_,_,rfl,Qbp _,λ_=>by simp[hsl]⟩) (λhst=>by
   refine⟨_,hW',by decide,by rw[Go.Sort.putCells,Array.size_mapIdx];exact k3,k3',by rw[List.length_map,hsl];exact k4,k5,λj x hj =>?_,λj x t v hj htv =>?_,λj x t v hj htv =>?_⟩;obtain⟨_,rfl⟩:=hys j x hj;rfl;obtain⟨hj',rfl⟩:=hys j x hj
   have ht:t=0:=by
    cases t with
    |zero=>rfl
    |succ t=>simp[V.cells]at htv
   subst ht;rw[hcur j hj'];rfl;obtain⟨hj',rfl⟩:=hys j x hj
   have ht:t=0:=by
    cases t with
    |zero=>rfl
    |succ t=>simp[V.cells]at htv
   subst ht;simp[V.cells]at htv;subst htv;rw[hcur j hj']
   exact .str _)
  refine⟨.ret (.tup []),_,g,⟨rfl,rfl⟩,?_,?_,_,rfl,.tup [] #[] rfl (by simp)⟩;have:=q1;simp only[Heap.set,Qbq]at this;exact this;have:=q2;simp only[Heap.set,Qbq]at this;exact this
def ytv(D)(f ty:Nat)(go:Nat->List B8->Option (List B8)):FI D :=
 {R:=List B8,ent:=λn=>{f:=f,p:=0,args:=[.own 0],aos:=[.acc ty .str true],outs:=[],ros:=[.acc ty .str true],pan:=.nilp,pos:=[.acc ty .str true],pure:=false,go:=λx k _=>(go n x.1).bind λr=>k (r,()),ren:=[(0,0)]},
   c:=.skip,K:=⟨λ_=>none,[],λ_=>none,λ_ _=>none⟩,p:=0,args:=[],aos:=[],nt:=0,z0s:=λ_=>[],go:=λ_ _=>none}
theorem yv3{D}{xs:List B8}{ws}(hl:ws.length=xs.length)(h:∀(j:Nat) (x:B8) (v:V),xs[j]? = some x->ws[j]? = some v->DR D .str x v):ws=xs.map V.str:=by
 refine List.ext_getElem? λj =>?_
 rw[Qan]
 cases hx:xs[j]? with
 |none=>
  grind
 |some x=>
  have hlt:=(Qaa.1 hx).1;have hw:ws[j]? = some ws[j]:=Qab (by omega);have:=h j x _ hx hw;rw[hw]
  cases hv:ws[j]with
  |str s=>rw[hv]at this;cases this;rfl
  |_=>rw[hv]at this;cases this
theorem ywh{P:Program}{D:Dat}{f ty:Nat}(hent:∀args W,(callFunc f args).run P W = .ok (.enter f args) W)
  (hcon:∀(blk cap:Nat) (ss:List B8) (w:World),Holds encStr w blk 0 ss.toArray->blk<w.heap.size->ss.length<4611686018427387904 ->
   Calls P f #[.slice (some ⟨blk,0,none⟩) ss.length cap] w λe w'=>e = .returned (.tuple #[])∧∃n os,w'=grow (putRow encStr (Sort.ahead w n) blk 0 (ss.mergeSort λx y=>decide (x<=y)).toArray) os)
  (hnone:∀(p:Option Addr) (cap:Nat) (w:World),Calls P f #[.slice p 0 cap] w λe w'=>e = .returned (.tuple #[])∧w'=w)
  (xs:List B8) (hlen:xs.length<4611686018427387904) (go:Nat->List B8->Option (List B8)) (n:Nat):((ytv D f ty go).ent n).Flat P ((xs,()):HL D.T [.sl .str]) (.inl ((z4c xs,()):HL D.T [.sl .str])):=λlv L E ρ0 vargs k1 k2 k3 k4 _=>by
 have k1:ρ0.length=1:=k1;obtain⟨sl,rfl⟩:=List.length_eq_one_iff.1 k1;have k2:VRL D [sl] lv [.own 0] vargs:=k2;simp only[VRL,VR]at k2;obtain⟨v,rr,rfl,⟨sl',e1,e2,e3⟩,rfl⟩:=k2;obtain rfl:sl=sl':=by simpa using e1
 subst e2;obtain⟨sl',e4,e5⟩:=k3 0 (.acc ty .str xs true) (Qak);obtain rfl:sl=sl':=by simpa using e4
 simp only[OR]at e5;obtain⟨o1,o2,o3⟩:=e5;have o1:sl.ws.length=xs.length:=o1;have o2:∀(j:Nat) (x:B8) (v:V),xs[j]? = some x->sl.ws[j]? = some v->DR D .str x v:=o2;have hws:=yv3 o1 o2;have hsl:(z4c xs).length=xs.length:=(zgv xs).length_eq
 have left:∀(L':List (Option kzg)) (sl':Slot),sl'.v=sl.v->sl'.k=sl.k->sl'.fp=[]->sl'.ws=(z4c xs).map V.str->(∀i,(∀j,sl.k=some j->j≠i)->L'[i]? = L[i]?)->L'.length=L.length ->
   (match sl'.k with
   |none=>(sl'.v = .nils∧sl'.ws=[])∨((sl'.v = .sl (D.len .str) sl'.ws true∧DTy.str ≠ .int .u8)∧(True->sl'.ws=[]))
   |some i=>∃ver cp,sl'.v = .hs lv i ver 0 sl'.ws.length false∧L'[i]? = some (some (.arr ver ty (D.len .str) sl'.ws cp))) ->
   Left D lv L [sl] 0 L' [sl'] [.acc ty .str true] ((z4c xs,()):HL D.T [.sl .str])∧((∀q∈[((0:Nat),(0:Nat))],∀s0,[sl][q.1]? = some s0->∃s1,[sl'][q.2]? = some s1∧s1.v=s0.v)∧y7n L L' [sl] []):=λL' sl' a1 a2 a0 a3 a4 a5 a6=>by
  refine⟨⟨rfl,λj o hm =>?_,λs s' t t' i r1 r2 _ _ =>?_,λs t i r1 c1 =>?_,λi hi hno =>?_,λj t hj=>absurd hj (Nat.not_lt_zero _),λs t i r1 c1 =>?_⟩,λq hq s0 hs0 =>?_,.nil⟩;have hm:(j,o)∈[(0,(TO.acc ty .str (z4c xs) true:TO D.T))]:=hm;simp only[Qaz,Qbs]at hm;obtain⟨rfl,rfl⟩:=hm;refine⟨sl',rfl,?_⟩;simp only[OR];refine⟨by rw[a3];exact List.length_map _,λj y v hy hv =>?_,a6⟩
  have hy:(z4c xs)[j]? = some y:=hy;rw[a3,Qan,hy]at hv;injection hv with hv;subst hv;exact .str _;have l1:=(Qaa.1 r1).1;have l2:=(Qaa.1 r2).1;simp at l1 l2;omega;have l1:=(Qaa.1 r1).1;have:s=0:=by simp at l1;omega
  subst this;obtain rfl:sl'=t:=by simpa using r1
  exact .inr ⟨0,sl,rfl,.inl (by rw[<-a2];exact Slot.y4r a0 c1)⟩;refine⟨by rw[a5];exact hi,a4 i λj hj hji=>hno 0 sl rfl (.inl (by rw[hj,hji]))⟩;have l1:=(Qaa.1 r1).1;have:s=0:=by simp at l1;omega
  subst this;obtain rfl:sl'=t:=by simpa using r1
  rw[a0]at c1;cases c1;simp only[Qaz]at hq;subst hq;obtain rfl:sl=s0:=by simpa using hs0
  exact⟨sl',rfl,a1⟩
 have nothing:xs=[]->(∀W g cargs,zk0 W g ⟨lv,L,E⟩ [sl.v] cargs->∃p cap,cargs = #[.slice p 0 cap])->znq P f [sl.v] ⟨lv,L,E⟩ λout H'=>∃L' ρ',H'=⟨lv,L',E⟩∧(Left D lv L [sl] 0 L' ρ' [.acc ty .str true] ((z4c xs,()):HL D.T [.sl .str])∧((∀q∈[((0:Nat),(0:Nat))],∀s0,[sl][q.1]? = some s0->∃s1,ρ'[q.2]? = some s1∧s1.v=s0.v)∧y7n L L' [sl] [])∧∃vs,out = .ret (z9y vs)∧VRL D ρ' lv [] vs):=λhx hc W g cargs hG hR=>by
  obtain⟨p,cap,rfl⟩:=hc W g cargs hR;refine⟨hent _ _,(hnone p cap W).mono ?_⟩
  rintro e W' ⟨rfl,rfl⟩
  have hs:z4c xs=[]:=Qao (by rw[hsl,hx];rfl);obtain⟨l1,l2⟩:=left L ⟨sl.v,sl.k,sl.ws,[]⟩ rfl rfl rfl (by show sl.ws=_;rw[hs,hws,hx]) (λ_ _=>rfl) rfl o3;exact⟨.ret (.tup []),⟨lv,L,E⟩,g,⟨L,[⟨sl.v,sl.k,sl.ws,[]⟩],rfl,l1,l2,[],rfl,(by simp only[VRL]:VRL D [⟨sl.v,sl.k,sl.ws,[]⟩] lv [] [])⟩,.refl _ _ _,hG,_,rfl,.tup [] #[] rfl (by simp)⟩
 have one:∀{W:World}{g:Gh}{cargs:Array Value},zk0 W g ⟨lv,L,E⟩ [sl.v] cargs->∃c,cargs = #[c]∧Rel W g ⟨lv,L,E⟩ sl.v c:=λ{W g cargs} hR=>by
  obtain⟨h1,h2⟩:=hR;have hsz:cargs.toList.length=1:=by simpa using h1
  obtain⟨c,hc⟩:=List.length_eq_one_iff.1 hsz;have hc':cargs = #[c]:=by rw[<-Array.toList_inj,hc]
  subst hc';exact⟨c,rfl,by simpa using h2 0 _ rfl⟩
 cases hk:sl.k with
 |none=>
  rw[hk]at o3
  rcases o3 with ⟨v1,v2⟩|⟨v1,v2⟩
  refine nothing (by rw[hws]at v2;simpa using v2) λW g cargs hR =>?_
  obtain⟨c,rfl,hc⟩:=one hR;rw[v1]at hc;cases hc;exact⟨_,_,rfl⟩;have v3:=v2 trivial;refine nothing (by rw[hws]at v3;simpa using v3) λW g cargs hR =>?_
  obtain⟨c,rfl,hc⟩:=one hR;rw[v1.1,v3]at hc
  cases hc with
  |slnil=>exact⟨_,_,rfl⟩
  |sle _ _ a cap hf=>exact⟨_,_,rfl⟩
  |sl _ _ _ b o cap c=>exact⟨_,_,rfl⟩
 |some i=>
  rw[hk]at o3;obtain⟨ver,cp,v1,v2⟩:=o3;have hi:=(Qaa.1 v2).1;rw[hws]at v2;have hh:=z036 (P:=P) (f:=f) (ty:=ty) hent hcon (lv:=lv) (E:=E) (n:=sl.ws.length) v2 hlen (by rw[hws];simp);rw[<-v1]at hh;refine hh.mono λo H' ⟨e1,e2⟩ =>?_
  subst e1;subst e2
  obtain⟨l1,l2⟩:=left (L.set i (some (.arr ver ty 1 ((z4c xs).map V.str) cp))) ⟨sl.v,sl.k,(z4c xs).map V.str,[]⟩ rfl rfl rfl rfl (λj hj=>Qam (hj i hk)) (by simp) (by
   simp only[hk]
   exact⟨ver,cp,by rw[v1,hws];simp[hsl],by simp[hi,Dat.len]⟩)
  exact⟨_,[⟨sl.v,sl.k,(z4c xs).map V.str,[]⟩],rfl,l1,l2,[],rfl,(by simp only[VRL]:VRL D [⟨sl.v,sl.k,(z4c xs).map V.str,[]⟩] lv [] [])⟩
theorem z03q{P D}{f ty:Nat}(hent:∀args W,(callFunc f args).run P W = .ok (.enter f args) W)
  (hcon:∀(blk cap:Nat) (ss:List B8) (w:World),Holds encStr w blk 0 ss.toArray->blk<w.heap.size->ss.length<4611686018427387904 ->
   Calls P f #[.slice (some ⟨blk,0,none⟩) ss.length cap] w λe w'=>e = .returned (.tuple #[])∧∃n os,w'=grow (putRow encStr (Sort.ahead w n) blk 0 (ss.mergeSort λx y=>decide (x<=y)).toArray) os)
  (hnone:∀(p:Option Addr) (cap:Nat) (w:World),Calls P f #[.slice p 0 cap] w λe w'=>e = .returned (.tuple #[])∧w'=w) :
  FOk P (ytv D f ty λ_ xs=>if xs.length<4611686018427387904 then some (z4c xs)else none):=λn R x k kp r h=>by
 have h:((if x.1.length<4611686018427387904 then some (z4c x.1)else none).bind λr=>k (r,()))=some r:=h;obtain⟨r0,h1,h2⟩:=zqg h;split at h1;rename_i hlen;cases h1;exact .inl ⟨(z4c x.1,()),h2,ywh hent hcon hnone x.1 hlen _ n⟩;cases h1
end Go.Ab
namespace Go.Ab
open Go
def ytq(x:B8):List B8->List B8
 |[]=>[x]
 |y::l=>if decide (x<=y)=true then x::y::l else y::ytq x l
def yp3:List B8->List B8
 |[]=>[]
 |x::l=>ytq x (yp3 l)
theorem y6m(x):∀l,(ytq x l).Perm (x::l)
 |[]=>.refl _
 |y::l=>by
  unfold ytq;split;exact .refl _
  ·exact((y6m x l).cons y).trans (.swap x y l)
theorem ybr:∀l,(yp3 l).Perm l
 |[]=>.refl _
 |x::l=>(y6m x _).trans ((ybr l).cons x)
theorem z02e(x y:B8):(decide (x<=y)||decide (y<=x))=true:=by
 grind
theorem yq3(x):∀l,l.Pairwise (λx y=>decide (x<=y)=true)->(ytq x l).Pairwise λx y=>decide (x<=y)=true
 |[],_=>by simp[ytq]
 |y::l,h=>by
  have ih:=yq3 x l (List.pairwise_cons.1 h).2;unfold ytq;split;rename_i hxy;refine List.pairwise_cons.2 ⟨λz hz =>?_,h⟩
  rcases Qbg.1 hz with rfl|hz
  exact hxy;have:=(List.pairwise_cons.1 h).1 z hz;exact Qbm (List.le_trans (Qac hxy) (Qac this));refine List.pairwise_cons.2 ⟨λz hz =>?_,ih⟩
  rcases Qbg.1 ((y6m x l).mem_iff.1 hz)with rfl|hz
  have:=z02e z y;rw[Bool.or_eq_true]at this
  grind
  simp_all
theorem yiu:∀l,(yp3 l).Pairwise λx y=>decide (x<=y)=true
 |[]=>.nil
 |x::l=>yq3 x _ (yiu l)
theorem yco(l):yp3 l=z4c l:=by
 refine List.Perm.eq_of_pairwise (le:=λx y=>decide (x<=y)=true) (λa b _ _ h1 h2=>List.le_antisymm (Qac h1) (Qac h2)) (yiu l) ?_ ((ybr l).trans (zgv l).symm);exact List.pairwise_mergeSort (le:=λx y=>decide (x<=y)) (λa b c h1 h2=>Qbm (List.le_trans (Qac h1) (Qac h2))) z02e l
end Go.Ab
namespace Go.Ab
open Go Go.RowKit Go.Sort Go.Proofs
set_option linter.unusedVariables false
set_option linter.unusedSimpArgs false
theorem y7h(xs:List B8):(Lib.compact xs).length<=xs.length:=by
 grind[Lib.compact,Lib.compactUpTo]
theorem Heap.yqh{lv k}{L:List (Option kzg)}{E o o'}(h:L[k]? = some (some o)):Heap.get ⟨lv,L.set k (some o'),E⟩ lv k=some o':=by
 grind[Heap.get]
theorem yqk{P:Program}{f ty:Nat}(hent:∀args W,(callFunc f args).run P W = .ok (.enter f args) W)
  (hcon:∀(blk cap:Nat) (zs:List B8) (w:World),Holds encStr w blk 0 zs.toArray->zs.length<=9223372036854775807->zs.length<=cap ->
   Calls P f #[.slice (some ⟨blk,0,none⟩) zs.length cap] w λe w'=>e = .returned (.slice (some ⟨blk,0,none⟩) (Lib.compact zs).length cap)∧∃q,w'=putRow encStr (Sort.ahead w q) blk 0 (Lib.compact zs++List.replicate (zs.length-(Lib.compact zs).length) []).toArray)
  {lv k ver n:Nat} {L:List (Option kzg)}{E:Nat->Nat->Option kzg}{xs:List B8}{cp:Option Nat}(hL:L[k]? = some (some (.arr ver ty 1 (xs.map V.str) cp))) (hlen:xs.length<=9223372036854775807) (hn:n=xs.length) :
  znq P f [.hs lv k ver 0 n false] ⟨lv,L,E⟩ λo H'=>o = .ret (.hs lv k (ver+1) 0 (Lib.compact xs).length false)∧H'=⟨lv,L.set k (some (.arr (ver+1) ty 1 ((Lib.compact xs).map V.str) cp)),E⟩:=by
 intro W g cargs hG hR;have hg:(⟨lv,L,E⟩:Heap).get lv k=some (.arr ver ty 1 (xs.map V.str) cp):=by simp[Heap.get,hL]
 obtain⟨x,rfl,h0⟩:∃x,cargs = #[x]∧Rel W g ⟨lv,L,E⟩ (.hs lv k ver 0 n false) x:=by
  obtain⟨h1,h2⟩:=hR;have hsz:cargs.toList.length=1:=by simpa using h1
  obtain⟨c,hc⟩:=List.length_eq_one_iff.1 hsz;have hc':cargs = #[c]:=by rw[<-Array.toList_inj,hc]
  subst hc';exact⟨c,rfl,by simpa using h2 0 _ rfl⟩
 refine⟨hent _ _,?_⟩
 cases h0 with
 |hs _ _ _ _ _ _ a m cap hd hv ha=>
  obtain⟨rfl,rfl,⟨a1,a2,_⟩,a3⟩:=ha _ _ _ _ hg;obtain⟨cur,k1,k2,k3,k3',k4,k5,k6,k7,k8⟩:=hG.obj _ _ _ hg;rw[List.length_map]at k4
  have hH:Holds encStr W (g.ab lv k) 0 xs.toArray:=λj hj=>by
   have hj':j<xs.length:=by simpa using hj
   have e1:(xs.map V.str)[j]? = some (.str xs[j]):=by rw[Qan,Qab hj'];rfl
   have e2:=k8 j _ 0 (.str xs[j]) e1 rfl;have hlt:j<cur.size:=by rw[k3];omega
   refine⟨?_,by simp[World.frozen?,k1]⟩;rw[getElem!_pos xs.toArray j hj]
   cases e2h:cur.getD (j * 1+0) undef with
   |string s=>
    rw[e2h]at e2;cases e2;rw[Qae]at e2h;rw[show j * 1+0=j by omega,Qas hlt]at e2h;simp only[Option.getD_some]at e2h
    simp[World.cell?,k1,hlt,e2h,encStr]
   |_=>rw[e2h]at e2;cases e2
  have hb:g.ab lv k<W.heap.size:=(Qbh.1 k1).1;have hcl:=y7h xs;have hc:=hcon (g.ab lv k) cap xs W hH hlen (by omega);subst hn;refine hc.mono ?_
  rintro e W' ⟨rfl,nn,rfl⟩
  generalize hrow:Lib.compact xs++List.replicate (xs.length-(Lib.compact xs).length) []=row;have hrl:row.length=xs.length:=by rw[<-hrow];simp;omega
  have hheap:(putRow encStr (Sort.ahead W nn) (g.ab lv k) 0 row.toArray).heap=W.heap.modify (g.ab lv k) (onCells (Go.Sort.putCells encStr 0 row.toArray)):=rfl
  have hW':(putRow encStr (Sort.ahead W nn) (g.ab lv k) 0 row.toArray).heap[g.ab lv k]? = some (.cells (Go.Sort.putCells encStr 0 row.toArray cur) ty (0,0)):=by
   rw[hheap,Qby,Qbq rfl,k1];rfl
  have hcur:∀j (hj:j<(Lib.compact xs).length),(Go.Sort.putCells encStr 0 row.toArray cur).getD (j * 1+0) undef = .string ⟨((Lib.compact xs)[j]).toArray⟩:=λj hj=>by
   have hlt2:j * 1+0<cur.size:=by rw[k3];omega
   rw[Qae,Go.Sort.putCells,Array.getElem?_mapIdx,Qas hlt2];simp only[Qbk,Option.getD_some,Nat.sub_zero];rw[Qbq ⟨Qbo _,by simp;omega⟩,getElem!_pos row.toArray _ (by simp;omega)];simp[encStr,<-hrow,List.getElem_append_left hj]
  have hys:∀(j:Nat) (x:V),((Lib.compact xs).map V.str)[j]? = some x->∃hj:j<(Lib.compact xs).length,x = .str (Lib.compact xs)[j]:=λj x hj=>by
   rw[Qan,Qaf]at hj;obtain⟨y,hy,rfl⟩:=hj;obtain⟨h1,h2⟩:=Qaa.1 hy;exact⟨h1,by rw[h2]⟩
  obtain⟨q1,q2⟩:=zei (W':=putRow encStr (Sort.ahead W nn) (g.ab lv k) 0 row.toArray) hG (o':=.arr (ver+1) ty 1 ((Lib.compact xs).map V.str) cp) hg rfl rfl rfl rfl (by rw[hheap];simp) (λb hb1 hb2=>by
    rw[hheap,Qby,Qbr (λh=>hb2 h.symm)])
   (λver' ty' sz' zs cp' he=>by injection he with e1 e2 e3 e4 e5;subst e1;subst e2;subst e3;subst e4;exact⟨_,_,_,rfl,Nat.le_succ _,λh=>by omega⟩) (λhst=>by
   refine⟨_,hW',by decide,by rw[Go.Sort.putCells,Array.size_mapIdx];exact k3,k3',by rw[List.length_map];omega,k5,λj x hj =>?_,λj x t v hj htv =>?_,λj x t v hj htv =>?_⟩;obtain⟨_,rfl⟩:=hys j x hj;rfl;obtain⟨hj',rfl⟩:=hys j x hj
   have ht:t=0:=by
    cases t with
    |zero=>rfl
    |succ t=>simp[V.cells]at htv
   subst ht;rw[hcur j hj'];rfl;obtain⟨hj',rfl⟩:=hys j x hj
   have ht:t=0:=by
    cases t with
    |zero=>rfl
    |succ t=>simp[V.cells]at htv
   subst ht;simp[V.cells]at htv;subst htv;rw[hcur j hj']
   exact .str _)
  simp only[Heap.set,Qbq]at q1 q2;refine⟨.ret (.hs lv k (ver+1) 0 (Lib.compact xs).length false),_,g,⟨rfl,rfl⟩,q1,q2,_,rfl,.hs _ _ _ _ _ _ _ _ _ hd (λv ty sz ys cp' hg' =>?_) λty sz ys cp' hg' =>?_⟩;rw[Heap.yqh hL]at hg';injection hg' with hg';injection hg' with e1;omega;rw[Heap.yqh hL]at hg';injection hg' with hg';injection hg' with e1 e2 e3 e4 e5;subst e3;subst e4
  exact⟨rfl,rfl,⟨by omega,a2,λh=>by cases h⟩,by simp⟩
abbrev zwe(xs:List B8):List B8:=Lib.compact xs
def y72(D)(f ty:Nat)(go:Nat->List B8->Option (List B8)):FI D :=
 {R:=List B8,ent:=λn=>{f:=f,p:=0,args:=[.own 0],aos:=[.acc ty .str true],outs:=[.own 0],ros:=[.acc ty .str true],pan:=.nilp,pos:=[.acc ty .str true],pure:=false,go:=λx k _=>(go n x.1).bind λr=>k (r,())},
   c:=.skip,K:=⟨λ_=>none,[],λ_=>none,λ_ _=>none⟩,p:=0,args:=[],aos:=[],nt:=0,z0s:=λ_=>[],go:=λ_ _=>none}
theorem yku{P:Program}{D:Dat}{f ty:Nat}(hent:∀args W,(callFunc f args).run P W = .ok (.enter f args) W)
  (hcon:∀(blk cap:Nat) (zs:List B8) (w:World),Holds encStr w blk 0 zs.toArray->zs.length<=9223372036854775807->zs.length<=cap ->
   Calls P f #[.slice (some ⟨blk,0,none⟩) zs.length cap] w λe w'=>e = .returned (.slice (some ⟨blk,0,none⟩) (Lib.compact zs).length cap)∧∃q,w'=putRow encStr (Sort.ahead w q) blk 0 (Lib.compact zs++List.replicate (zs.length-(Lib.compact zs).length) []).toArray)
  (hnone:∀(p:Option Addr) (cap:Nat) (w:World),Calls P f #[.slice p 0 cap] w λe w'=>e = .returned (.slice p 0 cap)∧w'=w)
  (xs:List B8) (hlen:xs.length<=9223372036854775807) (go:Nat->List B8->Option (List B8)) (n:Nat):((y72 D f ty go).ent n).Flat P ((xs,()):HL D.T [.sl .str]) (.inl ((zwe xs,()):HL D.T [.sl .str])):=λlv L E ρ0 vargs k1 k2 k3 k4 _=>by
 have k1:ρ0.length=1:=k1;obtain⟨sl,rfl⟩:=List.length_eq_one_iff.1 k1;have k2:VRL D [sl] lv [.own 0] vargs:=k2;simp only[VRL,VR]at k2;obtain⟨v,rr,rfl,⟨sl',e1,e2,e3⟩,rfl⟩:=k2;obtain rfl:sl=sl':=by simpa using e1
 subst e2;obtain⟨sl',e4,e5⟩:=k3 0 (.acc ty .str xs true) (Qak);obtain rfl:sl=sl':=by simpa using e4
 simp only[OR]at e5;obtain⟨o1,o2,o3⟩:=e5;have o1:sl.ws.length=xs.length:=o1;have o2:∀(j:Nat) (x:B8) (v:V),xs[j]? = some x->sl.ws[j]? = some v->DR D .str x v:=o2;have hws:=yv3 o1 o2;have hsl:=y7h xs
 have left:∀(L':List (Option kzg)) (sl':Slot),sl'.k=sl.k->sl'.fp=[]->sl'.ws=(zwe xs).map V.str->(∀i,(∀j,sl.k=some j->j≠i)->L'[i]? = L[i]?)->L'.length=L.length ->
   (match sl'.k with
   |none=>(sl'.v = .nils∧sl'.ws=[])∨((sl'.v = .sl (D.len .str) sl'.ws true∧DTy.str ≠ .int .u8)∧(True->sl'.ws=[]))
   |some i=>∃ver cp,sl'.v = .hs lv i ver 0 sl'.ws.length false∧L'[i]? = some (some (.arr ver ty (D.len .str) sl'.ws cp))) ->
   Left D lv L [sl] 0 L' [sl'] [.acc ty .str true] ((zwe xs,()):HL D.T [.sl .str]):=λL' sl' a2 a0 a3 a4 a5 a6=>by
  refine⟨rfl,λj o hm =>?_,λs s' t t' i r1 r2 _ _ =>?_,λs t i r1 c1 =>?_,λi hi hno =>?_,λj t hj=>absurd hj (Nat.not_lt_zero _),λs t i r1 c1 =>?_⟩;have hm:(j,o)∈[(0,(TO.acc ty .str (zwe xs) true:TO D.T))]:=hm;simp only[Qaz,Qbs]at hm;obtain⟨rfl,rfl⟩:=hm;refine⟨sl',rfl,?_⟩;simp only[OR];refine⟨by rw[a3];exact List.length_map _,λj y v hy hv =>?_,a6⟩;have hy:(zwe xs)[j]? = some y:=hy
  rw[a3,Qan,hy]at hv;injection hv with hv;subst hv;exact .str _;have l1:=(Qaa.1 r1).1;have l2:=(Qaa.1 r2).1;simp at l1 l2;omega;have l1:=(Qaa.1 r1).1;have:s=0:=by simp at l1;omega
  subst this;obtain rfl:sl'=t:=by simpa using r1
  exact .inr ⟨0,sl,rfl,.inl (by rw[<-a2];exact Slot.y4r a0 c1)⟩;refine⟨by rw[a5];exact hi,a4 i λj hj hji=>hno 0 sl rfl (.inl (by rw[hj,hji]))⟩;have l1:=(Qaa.1 r1).1;have:s=0:=by simp at l1;omega
  subst this;obtain rfl:sl'=t:=by simpa using r1
  rw[a0]at c1;cases c1
 have one:∀{W:World}{g:Gh}{cargs:Array Value},zk0 W g ⟨lv,L,E⟩ [sl.v] cargs->∃c,cargs = #[c]∧Rel W g ⟨lv,L,E⟩ sl.v c:=λ{W g cargs} hR=>by
  obtain⟨h1,h2⟩:=hR;have hsz:cargs.toList.length=1:=by simpa using h1
  obtain⟨c,hc⟩:=List.length_eq_one_iff.1 hsz;have hc':cargs = #[c]:=by rw[<-Array.toList_inj,hc]
  subst hc';exact⟨c,rfl,by simpa using h2 0 _ rfl⟩
 have nothing:xs=[]->(∀W g cargs,zk0 W g ⟨lv,L,E⟩ [sl.v] cargs->∃p cap,cargs = #[.slice p 0 cap])->znq P f [sl.v] ⟨lv,L,E⟩ λout H'=>∃L' ρ',H'=⟨lv,L',E⟩∧(Left D lv L [sl] 0 L' ρ' [.acc ty .str true] ((zwe xs,()):HL D.T [.sl .str])∧((∀q∈([]:List (Nat×Nat)),∀s0,[sl][q.1]? = some s0->∃s1,ρ'[q.2]? = some s1∧s1.v=s0.v)∧y7n L L' [sl] [])∧∃vs,out = .ret (z9y vs)∧VRL D ρ' lv [.own 0] vs):=λhx hc W g cargs hG hR=>by
  obtain⟨p,cap,rfl⟩:=hc W g cargs hR;obtain⟨c,hc1,hc2⟩:=one hR;refine⟨hent _ _,(hnone p cap W).mono ?_⟩
  rintro e W' ⟨rfl,rfl⟩
  have hs:zwe xs=[]:=Qao (by rw[hx]at hsl ⊢;simpa using hsl);have l1:=left L ⟨sl.v,sl.k,sl.ws,[]⟩ rfl rfl (by show sl.ws=_;rw[hs,hws,hx]) (λ_ _=>rfl) rfl o3;refine⟨.ret sl.v,⟨lv,L,E⟩,g,⟨L,[⟨sl.v,sl.k,sl.ws,[]⟩],rfl,l1,⟨(λq hq=>by cases hq),.nil⟩,[sl.v],rfl,?_⟩,.refl _ _ _,hG,_,rfl,?_⟩;simp only[VRL,VR];exact⟨sl.v,[],rfl,⟨_,rfl,rfl,e3⟩,rfl⟩
  have:(#[Value.slice p 0 cap]:Array Value) = #[c]:=hc1;rw[show Value.slice p 0 cap=c by simpa using this];exact hc2
 cases hk:sl.k with
 |none=>
  rw[hk]at o3
  rcases o3 with ⟨v1,v2⟩|⟨v1,v2⟩
  refine nothing (by rw[hws]at v2;simpa using v2) λW g cargs hR =>?_
  obtain⟨c,rfl,hc⟩:=one hR;rw[v1]at hc;cases hc;exact⟨_,_,rfl⟩;have v3:=v2 trivial;refine nothing (by rw[hws]at v3;simpa using v3) λW g cargs hR =>?_
  obtain⟨c,rfl,hc⟩:=one hR;rw[v1.1,v3]at hc
  cases hc with
  |slnil=>exact⟨_,_,rfl⟩
  |sle _ _ a cap hf=>exact⟨_,_,rfl⟩
  |sl _ _ _ b o cap c=>exact⟨_,_,rfl⟩
 |some i=>
  rw[hk]at o3;obtain⟨ver,cp,v1,v2⟩:=o3;have hi:=(Qaa.1 v2).1;rw[hws]at v2;have hh:=yqk (P:=P) (f:=f) (ty:=ty) hent hcon (lv:=lv) (E:=E) (n:=sl.ws.length) v2 hlen (by rw[hws];simp);rw[<-v1]at hh;refine hh.mono λo H' ⟨e1,e2⟩ =>?_
  subst e1;subst e2;have l1:=left (L.set i (some (.arr (ver+1) ty 1 ((zwe xs).map V.str) cp))) ⟨.hs lv i (ver+1) 0 (zwe xs).length false,some i,(zwe xs).map V.str,[]⟩ hk.symm rfl rfl (λj hj=>Qam (hj i hk)) (by simp) ⟨ver+1,cp,by simp,by simp[hi,Dat.len]⟩
  refine⟨_,[⟨.hs lv i (ver+1) 0 (zwe xs).length false,some i,(zwe xs).map V.str,[]⟩],rfl,l1,⟨(λq hq=>by cases hq),.nil⟩,[.hs lv i (ver+1) 0 (zwe xs).length false],rfl,?_⟩;show VRL D _ lv [.own 0] _;simp only[VRL,VR];exact⟨_,[],rfl,⟨_,rfl,rfl,rfl⟩,rfl⟩
theorem yum{P D}{f ty:Nat}(hent:∀args W,(callFunc f args).run P W = .ok (.enter f args) W)
  (hcon:∀(blk cap:Nat) (zs:List B8) (w:World),Holds encStr w blk 0 zs.toArray->zs.length<=9223372036854775807->zs.length<=cap ->
   Calls P f #[.slice (some ⟨blk,0,none⟩) zs.length cap] w λe w'=>e = .returned (.slice (some ⟨blk,0,none⟩) (Lib.compact zs).length cap)∧∃q,w'=putRow encStr (Sort.ahead w q) blk 0 (Lib.compact zs++List.replicate (zs.length-(Lib.compact zs).length) []).toArray)
  (hnone:∀(p:Option Addr) (cap:Nat) (w:World),Calls P f #[.slice p 0 cap] w λe w'=>e = .returned (.slice p 0 cap)∧w'=w) :
  FOk P (y72 D f ty λ_ xs=>if xs.length<=9223372036854775807 then some (zwe xs)else none):=λn R x k kp r h=>by
 have h:((if x.1.length<=9223372036854775807 then some (zwe x.1)else none).bind λr=>k (r,()))=some r:=h;obtain⟨r0,h1,h2⟩:=zqg h;split at h1;rename_i hlen;cases h1;exact .inl ⟨(zwe x.1,()),h2,yku hent hcon hnone x.1 hlen _ n⟩;cases h1
end Go.Ab
namespace Go.Ab
open Go
set_option linter.unusedVariables false
set_option linter.unusedSimpArgs false
theorem zrw:∀a:B8,Op.bytesLess a a=false
 |[]=>rfl
 |x::a=>by simp[Op.bytesLess,zrw a]
theorem yef:∀{a b c},Op.bytesLess a b=true->Op.bytesLess b c=true->Op.bytesLess a c=true
 |_,[],_,h,_=>by simp[Op.bytesLess]at h
 |_,_::_,[],_,h=>by simp[Op.bytesLess]at h
 |[],_::_,_::_,_,_=>by simp[Op.bytesLess]
 |x::a,y::b,z::c,h1,h2=>by
  simp[Op.bytesLess,beq_iff_eq]at h1 h2 ⊢
  rcases h1 with h1|⟨rfl,h1⟩
  rcases h2 with h2|⟨rfl,h2⟩
  grind
  exact .inl h1
  rcases h2 with h2|⟨rfl,h2⟩
  exact .inl h2;exact .inr ⟨rfl,yef h1 h2⟩
theorem yb6:∀{a b},Op.bytesLess a b=false->Op.bytesLess b a=false->a=b
 |[],[],_,_=>rfl
 |[],_::_,h,_=>by simp[Op.bytesLess]at h
 |_::_,[],_,h=>by simp[Op.bytesLess]at h
 |x::a,y::b,h1,h2=>by
  simp[Op.bytesLess,beq_eq_false_iff_ne]at h1 h2;have hxy:x=y:=UInt8.toNat_inj.1 (by grind);subst hxy;have e1:Op.bytesLess a b=false:=by grind
  have e2:Op.bytesLess b a=false:=by grind
  rw[yb6 e1 e2]
theorem z02y{a b}(h:Op.bytesLess a b=true):Op.bytesLess b a=false:=by
 grind[yef,zrw]
theorem le_bl(x y):decide (x<=y) = !Op.bytesLess y x:=by
 grind[Go.Proofs.bytesLess_eq]
def zi1(l:List B8):Prop:=l.Pairwise λx y=>Op.bytesLess x y=true
theorem zqa:∀{l m},zi1 l->zi1 m->(∀x,x∈l↔x∈m)->l=m
 |[],[],_,_,_=>rfl
 |[],y::m,_,_,h=>by grind[Qak]
 |x::l,[],_,_,h=>by grind[Qak]
 |x::l,y::m,h1,h2,h=>by
  have a1:=List.pairwise_cons.1 h1;have a2:=List.pairwise_cons.1 h2
  have hxy:x=y:=by
   grind[Qak,z02y]
  subst hxy;refine congrArg (x :: ·) (zqa a1.2 a2.2 λz=>⟨λhz =>?_,λhz =>?_⟩)
  grind[zrw]
  grind[zrw]
theorem zth{l}(h:l.Nodup):zi1 (z4c l):=by
 grind[z4c,List.pairwise_mergeSort,le_bl,zgv,zi1,List.Pairwise.imp₂,yb6]
def ins:List B8->B8->List B8
 |[],s=>[s]
 |x::l,s=>if Op.bytesLess x s then x::ins l s else if x=s then x::l else s::x::l
theorem yan(s):∀(l) (z),z∈ins l s↔z∈l∨z=s
 |[],z=>by simp[ins]
 |x::l,z=>by
  rw[ins];split;rw[Qbg,Qbg,yan s l z,or_assoc];split;rename_i h;subst h;constructor;exact .inl
  rintro (h|rfl)
  exact h
  grind
  grind
theorem y2i{s}:∀{l},zi1 l->zi1 (ins l s)
 |[],_=>by simp[ins,zi1]
 |x::l,h=>by
  have a:=List.pairwise_cons.1 h;rw[ins];split;rename_i hx;refine List.pairwise_cons.2 ⟨λz hz =>?_,y2i a.2⟩
  rcases(yan s l z).1 hz with hz|rfl
  exact a.1 z hz;exact hx;split;exact h
  have hs:Op.bytesLess s x=true:=by
   grind[yb6]
  refine List.pairwise_cons.2 ⟨λz hz =>?_,h⟩
  rcases Qbg.1 hz with rfl|hz
  exact hs;exact yef hs (a.1 z hz)
theorem y33(s):∀l:List B8,(ins l s).length<=l.length+1
 |[]=>by simp[ins]
 |x::l=>by
  have:=y33 s l
  grind[ins]
theorem yyv(s):∀l:List B8,ins l s=if (l.dropWhile (λx=>Op.bytesLess x s)).head?=some s then l else l.takeWhile (λx=>Op.bytesLess x s)++s::l.dropWhile (λx=>Op.bytesLess x s)
 |[]=>by simp[ins]
 |x::l=>by
  rw[ins];cases h:Op.bytesLess x s
  grind[List.dropWhile_cons_of_neg,List.takeWhile_cons_of_neg]
  rw[List.dropWhile_cons_of_pos (by simp[h]),List.takeWhile_cons_of_pos (by simp[h]),Qbq rfl,yyv s l];split <;> rfl
end Go.Ab
namespace Go.Ab
open Go Go.RowKit
set_option linter.unusedVariables false
set_option linter.unusedSimpArgs false
end Go.Ab
