/-
  slices.Sort OF STRINGS ON A SLICE OF OURS, out of a contract of the kit's kind.
-/
import Derived.Test.YthphaiccgnkobaaGreatDoorLib9
import Derived.Shelf.Sort.Plain
import Derived.Lib.SlicesCompact
import Derived.Laws.AppendOwn
import Derived.Test.YthphaiccgnkobaaGreatDoorLib2
import Derived.Test.YthphaiccgnkobaaGreatDoorLib4
import Derived.Test.YthphaiccgnkobaaGreatDoorLib1
import Derived.Lib.Bytealg
import Derived.Laws.RangeAny
import Derived.Sort.Walk0
namespace Go.Ab
open Go Go.RowKit Go.Sort Go.Proofs
set_option linter.unusedVariables false
set_option linter.unusedSimpArgs false
def z1b(ss:List B8):List B8:=ss.mergeSort λx y=>decide (x<=y)
theorem zh7(ss:List B8):(z1b ss).Perm ss:=List.mergeSort_perm _ _
theorem ya8{P:Program}{f ty:Nat}(hent:∀args W,(callFunc f args).run P W = .ok (.enter f args) W)
  (hcon:∀(blk cap:Nat) (ss:List B8) (w:World),Holds encStr w blk 0 ss.toArray->blk<w.heap.size->ss.length<4611686018427387904 ->
   Calls P f #[.slice (some ⟨blk,0,none⟩) ss.length cap] w λe w'=>e = .returned (.tuple #[])∧∃n os,w'=grow (putRow encStr (Sort.ahead w n) blk 0 (ss.mergeSort λx y=>decide (x<=y)).toArray) os)
  {lv k ver n:Nat} {L:List (Option zz2)}{E:Nat->Nat->Option zz2}{xs:List B8}{cp:Option Nat}(hL:L[k]? = some (some (.arr ver ty 1 (xs.map V.str) cp))) (hlen:xs.length<4611686018427387904) (hn:n=xs.length) :
  zhy P f [.hs lv k ver 0 n false] ⟨lv,L,E⟩ λo H'=>o = .ret (.tup [])∧H'=⟨lv,L.set k (some (.arr ver ty 1 ((z1b xs).map V.str) cp)),E⟩:=by
 intro W g cargs hG hR;have hg:(⟨lv,L,E⟩:Heap).get lv k=some (.arr ver ty 1 (xs.map V.str) cp):=by simp[Heap.get,hL]
 obtain⟨x,rfl,h0⟩:∃x,cargs = #[x]∧Rel W g ⟨lv,L,E⟩ (.hs lv k ver 0 n false) x:=by
  obtain⟨h1,h2⟩:=hR;have hsz:cargs.toList.length=1:=by simpa using h1
  obtain⟨c,hc⟩:=List.length_eq_one_iff.1 hsz;have hc':cargs = #[c]:=by rw[<-Array.toList_inj,hc]
  subst hc';exact⟨c,rfl,by simpa using h2 0 _ rfl⟩
 refine⟨hent _ _,?_⟩
 cases h0 with
 |hs _ _ _ _ _ _ a m cap hd hv ha=>
  obtain⟨rfl,rfl,⟨a1,a2,_⟩,a3⟩:=ha _ _ _ _ hg;obtain⟨cur,k1,k2,k3,k3',k4,k5,k6,k7,k8⟩:=hG.obj _ _ _ hg;rw[Qaz]at k4
  have hH:Holds encStr W (g.ab lv k) 0 xs.toArray:=λj hj=>by
   have hj':j<xs.length:=by simpa using hj
   have e1:(xs.map V.str)[j]? = some (.str xs[j]):=by rw[Qal,Qab hj'];rfl
   have e2:=k8 j _ 0 (.str xs[j]) e1 rfl;have hlt:j<cur.size:=by rw[k3];omega
   refine⟨?_,by simp[World.frozen?,k1]⟩;rw[getElem!_pos xs.toArray j hj]
   cases e2h:cur.getD (j * 1+0) undef with
   |string s=>
    rw[e2h]at e2;cases e2;rw[Qad]at e2h;rw[show j * 1+0=j by omega,Qaq hlt]at e2h;simp only[Option.getD_some]at e2h
    simp[World.cell?,k1,hlt,e2h,encStr]
   |_=>rw[e2h]at e2;cases e2
  have hb:g.ab lv k<W.heap.size:=(Qbi.1 k1).1;have hc:=hcon (g.ab lv k) cap xs W hH hb hlen;have hsp:=zh7 xs;have hsl:(z1b xs).length=xs.length:=hsp.length_eq;subst hn;refine hc.mono ?_
  rintro e W' ⟨rfl,nn,os,rfl⟩
  have hheap:(grow (putRow encStr (Sort.ahead W nn) (g.ab lv k) 0 (z1b xs).toArray) os).heap=W.heap.modify (g.ab lv k) (onCells (Go.Sort.putCells encStr 0 (z1b xs).toArray))++os:=rfl
  have hW':(grow (putRow encStr (Sort.ahead W nn) (g.ab lv k) 0 (z1b xs).toArray) os).heap[g.ab lv k]? = some (.cells (Go.Sort.putCells encStr 0 (z1b xs).toArray cur) ty (0,0)):=by
   rw[hheap,Array.getElem?_append_left (by simpa using hb),Qby,Qbq rfl,k1];rfl
  have hcur:∀j (hj:j<(z1b xs).length),(Go.Sort.putCells encStr 0 (z1b xs).toArray cur).getD (j * 1+0) undef = .string ⟨((z1b xs)[j]).toArray⟩:=λj hj=>by
   have hlt2:j * 1+0<cur.size:=by rw[k3];omega
   rw[Qad,Go.Sort.putCells,Array.getElem?_mapIdx,Qaq hlt2];simp only[Qbm,Option.getD_some,Nat.sub_zero];rw[Qbq ⟨Qbo _,by simp;omega⟩,getElem!_pos (z1b xs).toArray _ (by simp;omega)];simp[encStr]
  have hys:∀(j:Nat) (x:V),((z1b xs).map V.str)[j]? = some x->∃hj:j<(z1b xs).length,x = .str (z1b xs)[j]:=λj x hj=>by
   rw[Qal,Qae]at hj;obtain⟨y,hy,rfl⟩:=hj;obtain⟨h1,h2⟩:=Qaa.1 hy;exact⟨h1,by rw[h2]⟩
  obtain⟨q1,q2⟩:=z7d (W':=grow (putRow encStr (Sort.ahead W nn) (g.ab lv k) 0 (z1b xs).toArray) os) hG (o':=.arr ver ty 1 ((z1b xs).map V.str) cp) hg rfl rfl rfl rfl (by rw[hheap];simp) (λb hb1 hb2=>by
    rw[hheap,Array.getElem?_append_left (by simpa using hb1),Qby,Qbr (λh=>hb2 h.symm)])
   (λver ty sz zs cp' he=>by injection he with e1 e2 e3 e4 e5;subst e1;subst e2;subst e3;subst e4;exact⟨_,_,_,rfl,Qbp _,λ_=>by simp[hsl]⟩) (λhst=>by
   refine⟨_,hW',by decide,by rw[Go.Sort.putCells,Array.size_mapIdx];exact k3,k3',by rw[Qaz,hsl];exact k4,k5,λj x hj =>?_,λj x t v hj htv =>?_,λj x t v hj htv =>?_⟩
   ·obtain⟨_,rfl⟩:=hys j x hj;rfl
   ·obtain⟨hj',rfl⟩:=hys j x hj
    have ht:t=0:=by
     cases t with
     |zero=>rfl
     |succ t=>simp[V.cells]at htv
    subst ht;rw[hcur j hj'];rfl
   ·obtain⟨hj',rfl⟩:=hys j x hj
    have ht:t=0:=by
     cases t with
     |zero=>rfl
     |succ t=>simp[V.cells]at htv
    subst ht;simp[V.cells]at htv;subst htv;rw[hcur j hj']
    exact .str _)
  refine⟨.ret (.tup []),_,g,⟨rfl,rfl⟩,?_,?_,_,rfl,.tup [] #[] rfl (by simp)⟩
  ·have:=q1;simp only[Heap.set,Qbq]at this;exact this
  ·have:=q2;simp only[Heap.set,Qbq]at this;exact this
def y2s(D:Dat)(f ty:Nat)(go:Nat->List B8->Option (List B8)):FI D :=
 {R:=List B8,ent:=λn=>{f:=f,p:=0,args:=[.own 0],aos:=[.acc ty .str true],outs:=[],ros:=[.acc ty .str true],pan:=.nilp,pos:=[.acc ty .str true],pure:=false,go:=λx k _=>(go n x.1).bind λr=>k (r,()),ren:=[(0,0)]},
   c:=.skip,K:=⟨λ_=>none,[],λ_=>none,λ_ _=>none⟩,p:=0,args:=[],aos:=[],nt:=0,kzm:=λ_=>[],go:=λ_ _=>none}
theorem y4x{D:Dat}{xs:List B8}{ws:List V}(hl:ws.length=xs.length)(h:∀(j:Nat) (x:B8) (v:V),xs[j]? = some x->ws[j]? = some v->DR D .str x v):ws=xs.map V.str:=by
 refine List.ext_getElem? λj =>?_
 rw[Qal]
 cases hx:xs[j]? with
 |none=>
  rw[List.getElem?_eq_none_iff]at hx;simp only[Option.map_none]
  rw[List.getElem?_eq_none_iff];omega
 |some x=>
  have hlt:=(Qaa.1 hx).1;have hw:ws[j]? = some ws[j]:=Qab (by omega);have:=h j x _ hx hw;rw[hw]
  cases hv:ws[j]with
  |str s=>rw[hv]at this;cases this;rfl
  |_=>rw[hv]at this;cases this
theorem y6h{P:Program}{D:Dat}{f ty:Nat}(hent:∀args W,(callFunc f args).run P W = .ok (.enter f args) W)
  (hcon:∀(blk cap:Nat) (ss:List B8) (w:World),Holds encStr w blk 0 ss.toArray->blk<w.heap.size->ss.length<4611686018427387904 ->
   Calls P f #[.slice (some ⟨blk,0,none⟩) ss.length cap] w λe w'=>e = .returned (.tuple #[])∧∃n os,w'=grow (putRow encStr (Sort.ahead w n) blk 0 (ss.mergeSort λx y=>decide (x<=y)).toArray) os)
  (hnone:∀(p:Option Addr) (cap:Nat) (w:World),Calls P f #[.slice p 0 cap] w λe w'=>e = .returned (.tuple #[])∧w'=w)
  (xs:List B8) (hlen:xs.length<4611686018427387904) (go:Nat->List B8->Option (List B8)) (n:Nat):((y2s D f ty go).ent n).Flat P ((xs,()):HL D.T [.sl .str]) (.inl ((z1b xs,()):HL D.T [.sl .str])):=λlv L E ρ0 vargs k1 k2 k3 k4 _=>by
 have k1:ρ0.length=1:=k1;obtain⟨sl,rfl⟩:=List.length_eq_one_iff.1 k1;have k2:VRL D [sl] lv [.own 0] vargs:=k2;simp only[VRL,VR]at k2;obtain⟨v,rr,rfl,⟨sl',e1,e2,e3⟩,rfl⟩:=k2;obtain rfl:sl=sl':=by simpa using e1
 subst e2;obtain⟨sl',e4,e5⟩:=k3 0 (.acc ty .str xs true) (Qai);obtain rfl:sl=sl':=by simpa using e4
 simp only[OR]at e5;obtain⟨o1,o2,o3⟩:=e5;have o1:sl.ws.length=xs.length:=o1;have o2:∀(j:Nat) (x:B8) (v:V),xs[j]? = some x->sl.ws[j]? = some v->DR D .str x v:=o2;have hws:=y4x o1 o2;have hsl:(z1b xs).length=xs.length:=(zh7 xs).length_eq
 have left:∀(L':List (Option zz2)) (sl':Slot),sl'.v=sl.v->sl'.k=sl.k->sl'.fp=[]->sl'.ws=(z1b xs).map V.str->(∀i,(∀j,sl.k=some j->j≠i)->L'[i]? = L[i]?)->L'.length=L.length ->
   (match sl'.k with
   |none=>(sl'.v = .nils∧sl'.ws=[])∨((sl'.v = .sl (D.len .str) sl'.ws true∧DTy.str ≠ .int .u8)∧(True->sl'.ws=[]))
   |some i=>∃ver cp,sl'.v = .hs lv i ver 0 sl'.ws.length false∧L'[i]? = some (some (.arr ver ty (D.len .str) sl'.ws cp))) ->
   Left D lv L [sl] 0 L' [sl'] [.acc ty .str true] ((z1b xs,()):HL D.T [.sl .str])∧((∀q∈[((0:Nat),(0:Nat))],∀s0,[sl][q.1]? = some s0->∃s1,[sl'][q.2]? = some s1∧s1.v=s0.v)∧znx L L' [sl] []):=λL' sl' a1 a2 a0 a3 a4 a5 a6=>by
  refine⟨⟨rfl,λj o hm =>?_,λs s' t t' i r1 r2 _ _ =>?_,λs t i r1 c1 =>?_,λi hi hno =>?_,λj t hj=>absurd hj (Nat.not_lt_zero _),λs t i r1 c1 =>?_⟩,λq hq s0 hs0 =>?_,.nil⟩
  ·have hm:(j,o)∈[(0,(TO.acc ty .str (z1b xs) true:TO D.T))]:=hm;simp only[List.mem_singleton,Qbs]at hm;obtain⟨rfl,rfl⟩:=hm;refine⟨sl',rfl,?_⟩;simp only[OR];refine⟨by rw[a3];exact Qaz _,λj y v hy hv =>?_,a6⟩;have hy:(z1b xs)[j]? = some y:=hy;rw[a3,Qal,hy]at hv;injection hv with hv;subst hv;exact .str _
  ·have l1:=(Qaa.1 r1).1;have l2:=(Qaa.1 r2).1;simp at l1 l2;omega
  ·have l1:=(Qaa.1 r1).1;have:s=0:=by simp at l1;omega
   subst this;obtain rfl:sl'=t:=by simpa using r1
   exact .inr ⟨0,sl,rfl,.inl (by rw[<-a2];exact Slot.znm a0 c1)⟩
  ·refine⟨by rw[a5];exact hi,a4 i λj hj hji=>hno 0 sl rfl (.inl (by rw[hj,hji]))⟩
  ·have l1:=(Qaa.1 r1).1;have:s=0:=by simp at l1;omega
   subst this;obtain rfl:sl'=t:=by simpa using r1
   rw[a0]at c1;cases c1
  ·simp only[List.mem_singleton]at hq;subst hq;obtain rfl:sl=s0:=by simpa using hs0
   exact⟨sl',rfl,a1⟩
 have nothing:xs=[]->(∀W g cargs,zd5 W g ⟨lv,L,E⟩ [sl.v] cargs->∃p cap,cargs = #[.slice p 0 cap])->zhy P f [sl.v] ⟨lv,L,E⟩ λout H'=>∃L' ρ',H'=⟨lv,L',E⟩∧(Left D lv L [sl] 0 L' ρ' [.acc ty .str true] ((z1b xs,()):HL D.T [.sl .str])∧((∀q∈[((0:Nat),(0:Nat))],∀s0,[sl][q.1]? = some s0->∃s1,ρ'[q.2]? = some s1∧s1.v=s0.v)∧znx L L' [sl] [])∧∃vs,out = .ret (z2y vs)∧VRL D ρ' lv [] vs):=λhx hc W g cargs hG hR=>by
  obtain⟨p,cap,rfl⟩:=hc W g cargs hR;refine⟨hent _ _,(hnone p cap W).mono ?_⟩
  rintro e W' ⟨rfl,rfl⟩
  have hs:z1b xs=[]:=Qam (by rw[hsl,hx];rfl);obtain⟨l1,l2⟩:=left L ⟨sl.v,sl.k,sl.ws,[]⟩ rfl rfl rfl (by show sl.ws=_;rw[hs,hws,hx]) (λ_ _=>rfl) rfl o3;exact⟨.ret (.tup []),⟨lv,L,E⟩,g,⟨L,[⟨sl.v,sl.k,sl.ws,[]⟩],rfl,l1,l2,[],rfl,(by simp only[VRL]:VRL D [⟨sl.v,sl.k,sl.ws,[]⟩] lv [] [])⟩,.refl _ _ _,hG,_,rfl,.tup [] #[] rfl (by simp)⟩
 have one:∀{W:World}{g:Gh}{cargs:Array Value},zd5 W g ⟨lv,L,E⟩ [sl.v] cargs->∃c,cargs = #[c]∧Rel W g ⟨lv,L,E⟩ sl.v c:=λ{W g cargs} hR=>by
  obtain⟨h1,h2⟩:=hR;have hsz:cargs.toList.length=1:=by simpa using h1
  obtain⟨c,hc⟩:=List.length_eq_one_iff.1 hsz;have hc':cargs = #[c]:=by rw[<-Array.toList_inj,hc]
  subst hc';exact⟨c,rfl,by simpa using h2 0 _ rfl⟩
 cases hk:sl.k with
 |none=>
  rw[hk]at o3
  rcases o3 with ⟨v1,v2⟩|⟨v1,v2⟩
  ·refine nothing (by rw[hws]at v2;simpa using v2) λW g cargs hR =>?_
   obtain⟨c,rfl,hc⟩:=one hR;rw[v1]at hc;cases hc;exact⟨_,_,rfl⟩
  ·have v3:=v2 trivial;refine nothing (by rw[hws]at v3;simpa using v3) λW g cargs hR =>?_
   obtain⟨c,rfl,hc⟩:=one hR;rw[v1.1,v3]at hc
   cases hc with
   |slnil=>exact⟨_,_,rfl⟩
   |sle _ _ a cap hf=>exact⟨_,_,rfl⟩
   |sl _ _ _ b o cap c=>exact⟨_,_,rfl⟩
 |some i=>
  rw[hk]at o3;obtain⟨ver,cp,v1,v2⟩:=o3;have hi:=(Qaa.1 v2).1;rw[hws]at v2;have hh:=ya8 (P:=P) (f:=f) (ty:=ty) hent hcon (lv:=lv) (E:=E) (n:=sl.ws.length) v2 hlen (by rw[hws];simp);rw[<-v1]at hh;refine hh.mono λo H' ⟨e1,e2⟩ =>?_
  subst e1;subst e2
  obtain⟨l1,l2⟩:=left (L.set i (some (.arr ver ty 1 ((z1b xs).map V.str) cp))) ⟨sl.v,sl.k,(z1b xs).map V.str,[]⟩ rfl rfl rfl rfl (λj hj=>Qak (hj i hk)) (by simp) (by
   simp only[hk]
   exact⟨ver,cp,by rw[v1,hws];simp[hsl],by simp[hi,Dat.len]⟩)
  exact⟨_,[⟨sl.v,sl.k,(z1b xs).map V.str,[]⟩],rfl,l1,l2,[],rfl,(by simp only[VRL]:VRL D [⟨sl.v,sl.k,(z1b xs).map V.str,[]⟩] lv [] [])⟩
theorem ybj{P:Program}{D:Dat}{f ty:Nat}(hent:∀args W,(callFunc f args).run P W = .ok (.enter f args) W)
  (hcon:∀(blk cap:Nat) (ss:List B8) (w:World),Holds encStr w blk 0 ss.toArray->blk<w.heap.size->ss.length<4611686018427387904 ->
   Calls P f #[.slice (some ⟨blk,0,none⟩) ss.length cap] w λe w'=>e = .returned (.tuple #[])∧∃n os,w'=grow (putRow encStr (Sort.ahead w n) blk 0 (ss.mergeSort λx y=>decide (x<=y)).toArray) os)
  (hnone:∀(p:Option Addr) (cap:Nat) (w:World),Calls P f #[.slice p 0 cap] w λe w'=>e = .returned (.tuple #[])∧w'=w) :
  FOk P (y2s D f ty λ_ xs=>if xs.length<4611686018427387904 then some (z1b xs)else none):=λn R x k kp r h=>by
 have h:((if x.1.length<4611686018427387904 then some (z1b x.1)else none).bind λr=>k (r,()))=some r:=h;obtain⟨r0,h1,h2⟩:=zfp h;split at h1
 ·rename_i hlen;injection h1 with h1;subst h1;exact .inl ⟨(z1b x.1,()),h2,y6h hent hcon hnone x.1 hlen _ n⟩
 ·cases h1
end Go.Ab
namespace Go.Ab
open Go
def y3b(x:B8):List B8->List B8
 |[]=>[x]
 |y::l=>if decide (x<=y)=true then x::y::l else y::y3b x l
def y1g:List B8->List B8
 |[]=>[]
 |x::l=>y3b x (y1g l)
theorem zow(x:B8):∀l,(y3b x l).Perm (x::l)
 |[]=>.refl _
 |y::l=>by
  unfold y3b;split
  ·exact .refl _
  ·exact((zow x l).cons y).trans (.swap x y l)
theorem zse:∀l,(y1g l).Perm l
 |[]=>.refl _
 |x::l=>(zow x _).trans ((zse l).cons x)
theorem y8e(x y:B8):(decide (x<=y)||decide (y<=x))=true:=by
 rcases List.le_total x y with h|h <;> simp[h]
theorem y0b(x:B8):∀l,l.Pairwise (λx y=>decide (x<=y)=true)->(y3b x l).Pairwise λx y=>decide (x<=y)=true
 |[],_=>by simp[y3b]
 |y::l,h=>by
  have ih:=y0b x l (List.pairwise_cons.1 h).2;unfold y3b;split
  ·rename_i hxy;refine List.pairwise_cons.2 ⟨λz hz =>?_,h⟩
   rcases Qbg.1 hz with rfl|hz
   ·exact hxy
   ·have:=(List.pairwise_cons.1 h).1 z hz;exact decide_eq_true (List.le_trans (Qac hxy) (Qac this))
  ·rename_i hxy;refine List.pairwise_cons.2 ⟨λz hz =>?_,ih⟩
   rcases Qbg.1 ((zow x l).mem_iff.1 hz)with rfl|hz
   ·have:=y8e z y;rw[Bool.or_eq_true]at this;exact this.resolve_left hxy
   ·exact(List.pairwise_cons.1 h).1 z hz
theorem zvs:∀l,(y1g l).Pairwise λx y=>decide (x<=y)=true
 |[]=>.nil
 |x::l=>y0b x _ (zvs l)
theorem y9c(l:List B8):y1g l=z1b l:=by
 refine List.Perm.eq_of_pairwise (le:=λx y=>decide (x<=y)=true) (λa b _ _ h1 h2=>List.le_antisymm (Qac h1) (Qac h2)) (zvs l) ?_ ((zse l).trans (zh7 l).symm);exact List.pairwise_mergeSort (le:=λx y=>decide (x<=y)) (λa b c h1 h2=>decide_eq_true (List.le_trans (Qac h1) (Qac h2))) y8e l
end Go.Ab
namespace Go.Ab
open Go Go.RowKit Go.Sort Go.Proofs
set_option linter.unusedVariables false
set_option linter.unusedSimpArgs false
theorem zpq(xs:List B8):(Lib.compact xs).length<=xs.length:=by
 unfold Lib.compact Lib.compactUpTo;rw[Qaz];exact Qbf (List.length_filter_le _ _) (by simp)
theorem Heap.y07{lv k:Nat}{L:List (Option zz2)}{E:Nat->Nat->Option zz2}{o o':zz2}(h:L[k]? = some (some o)):Heap.get ⟨lv,L.set k (some o'),E⟩ lv k=some o':=by
 have:=(Qaa.1 h).1;simp[Heap.get,this]
theorem y1l{P:Program}{f ty:Nat}(hent:∀args W,(callFunc f args).run P W = .ok (.enter f args) W)
  (hcon:∀(blk cap:Nat) (zs:List B8) (w:World),Holds encStr w blk 0 zs.toArray->zs.length<=9223372036854775807->zs.length<=cap ->
   Calls P f #[.slice (some ⟨blk,0,none⟩) zs.length cap] w λe w'=>e = .returned (.slice (some ⟨blk,0,none⟩) (Lib.compact zs).length cap)∧∃q,w'=putRow encStr (Sort.ahead w q) blk 0 (Lib.compact zs++List.replicate (zs.length-(Lib.compact zs).length) []).toArray)
  {lv k ver n:Nat} {L:List (Option zz2)}{E:Nat->Nat->Option zz2}{xs:List B8}{cp:Option Nat}(hL:L[k]? = some (some (.arr ver ty 1 (xs.map V.str) cp))) (hlen:xs.length<=9223372036854775807) (hn:n=xs.length) :
  zhy P f [.hs lv k ver 0 n false] ⟨lv,L,E⟩ λo H'=>o = .ret (.hs lv k (ver+1) 0 (Lib.compact xs).length false)∧H'=⟨lv,L.set k (some (.arr (ver+1) ty 1 ((Lib.compact xs).map V.str) cp)),E⟩:=by
 intro W g cargs hG hR;have hg:(⟨lv,L,E⟩:Heap).get lv k=some (.arr ver ty 1 (xs.map V.str) cp):=by simp[Heap.get,hL]
 obtain⟨x,rfl,h0⟩:∃x,cargs = #[x]∧Rel W g ⟨lv,L,E⟩ (.hs lv k ver 0 n false) x:=by
  obtain⟨h1,h2⟩:=hR;have hsz:cargs.toList.length=1:=by simpa using h1
  obtain⟨c,hc⟩:=List.length_eq_one_iff.1 hsz;have hc':cargs = #[c]:=by rw[<-Array.toList_inj,hc]
  subst hc';exact⟨c,rfl,by simpa using h2 0 _ rfl⟩
 refine⟨hent _ _,?_⟩
 cases h0 with
 |hs _ _ _ _ _ _ a m cap hd hv ha=>
  obtain⟨rfl,rfl,⟨a1,a2,_⟩,a3⟩:=ha _ _ _ _ hg;obtain⟨cur,k1,k2,k3,k3',k4,k5,k6,k7,k8⟩:=hG.obj _ _ _ hg;rw[Qaz]at k4
  have hH:Holds encStr W (g.ab lv k) 0 xs.toArray:=λj hj=>by
   have hj':j<xs.length:=by simpa using hj
   have e1:(xs.map V.str)[j]? = some (.str xs[j]):=by rw[Qal,Qab hj'];rfl
   have e2:=k8 j _ 0 (.str xs[j]) e1 rfl;have hlt:j<cur.size:=by rw[k3];omega
   refine⟨?_,by simp[World.frozen?,k1]⟩;rw[getElem!_pos xs.toArray j hj]
   cases e2h:cur.getD (j * 1+0) undef with
   |string s=>
    rw[e2h]at e2;cases e2;rw[Qad]at e2h;rw[show j * 1+0=j by omega,Qaq hlt]at e2h;simp only[Option.getD_some]at e2h
    simp[World.cell?,k1,hlt,e2h,encStr]
   |_=>rw[e2h]at e2;cases e2
  have hb:g.ab lv k<W.heap.size:=(Qbi.1 k1).1;have hcl:=zpq xs;have hc:=hcon (g.ab lv k) cap xs W hH hlen (by omega);subst hn;refine hc.mono ?_
  rintro e W' ⟨rfl,nn,rfl⟩
  generalize hrow:Lib.compact xs++List.replicate (xs.length-(Lib.compact xs).length) []=row;have hrl:row.length=xs.length:=by rw[<-hrow];simp;omega
  have hheap:(putRow encStr (Sort.ahead W nn) (g.ab lv k) 0 row.toArray).heap=W.heap.modify (g.ab lv k) (onCells (Go.Sort.putCells encStr 0 row.toArray)):=rfl
  have hW':(putRow encStr (Sort.ahead W nn) (g.ab lv k) 0 row.toArray).heap[g.ab lv k]? = some (.cells (Go.Sort.putCells encStr 0 row.toArray cur) ty (0,0)):=by
   rw[hheap,Qby,Qbq rfl,k1];rfl
  have hcur:∀j (hj:j<(Lib.compact xs).length),(Go.Sort.putCells encStr 0 row.toArray cur).getD (j * 1+0) undef = .string ⟨((Lib.compact xs)[j]).toArray⟩:=λj hj=>by
   have hlt2:j * 1+0<cur.size:=by rw[k3];omega
   rw[Qad,Go.Sort.putCells,Array.getElem?_mapIdx,Qaq hlt2];simp only[Qbm,Option.getD_some,Nat.sub_zero];rw[Qbq ⟨Qbo _,by simp;omega⟩,getElem!_pos row.toArray _ (by simp;omega)];simp[encStr,<-hrow,List.getElem_append_left hj]
  have hys:∀(j:Nat) (x:V),((Lib.compact xs).map V.str)[j]? = some x->∃hj:j<(Lib.compact xs).length,x = .str (Lib.compact xs)[j]:=λj x hj=>by
   rw[Qal,Qae]at hj;obtain⟨y,hy,rfl⟩:=hj;obtain⟨h1,h2⟩:=Qaa.1 hy;exact⟨h1,by rw[h2]⟩
  obtain⟨q1,q2⟩:=z7d (W':=putRow encStr (Sort.ahead W nn) (g.ab lv k) 0 row.toArray) hG (o':=.arr (ver+1) ty 1 ((Lib.compact xs).map V.str) cp) hg rfl rfl rfl rfl (by rw[hheap];simp) (λb hb1 hb2=>by
    rw[hheap,Qby,Qbr (λh=>hb2 h.symm)])
   (λver' ty' sz' zs cp' he=>by injection he with e1 e2 e3 e4 e5;subst e1;subst e2;subst e3;subst e4;exact⟨_,_,_,rfl,Nat.le_succ _,λh=>by omega⟩) (λhst=>by
   refine⟨_,hW',by decide,by rw[Go.Sort.putCells,Array.size_mapIdx];exact k3,k3',by rw[Qaz];omega,k5,λj x hj =>?_,λj x t v hj htv =>?_,λj x t v hj htv =>?_⟩
   ·obtain⟨_,rfl⟩:=hys j x hj;rfl
   ·obtain⟨hj',rfl⟩:=hys j x hj
    have ht:t=0:=by
     cases t with
     |zero=>rfl
     |succ t=>simp[V.cells]at htv
    subst ht;rw[hcur j hj'];rfl
   ·obtain⟨hj',rfl⟩:=hys j x hj
    have ht:t=0:=by
     cases t with
     |zero=>rfl
     |succ t=>simp[V.cells]at htv
    subst ht;simp[V.cells]at htv;subst htv;rw[hcur j hj']
    exact .str _)
  simp only[Heap.set,Qbq]at q1 q2;refine⟨.ret (.hs lv k (ver+1) 0 (Lib.compact xs).length false),_,g,⟨rfl,rfl⟩,q1,q2,_,rfl,.hs _ _ _ _ _ _ _ _ _ hd (λv ty sz ys cp' hg' =>?_) λty sz ys cp' hg' =>?_⟩
  ·rw[Heap.y07 hL]at hg';injection hg' with hg';injection hg' with e1;omega
  ·rw[Heap.y07 hL]at hg';injection hg' with hg';injection hg' with e1 e2 e3 e4 e5;subst e3;subst e4;exact⟨rfl,rfl,⟨by omega,a2,λh=>by cases h⟩,by simp⟩
abbrev zic(xs:List B8):List B8:=Lib.compact xs
def zpc(D:Dat)(f ty:Nat)(go:Nat->List B8->Option (List B8)):FI D :=
 {R:=List B8,ent:=λn=>{f:=f,p:=0,args:=[.own 0],aos:=[.acc ty .str true],outs:=[.own 0],ros:=[.acc ty .str true],pan:=.nilp,pos:=[.acc ty .str true],pure:=false,go:=λx k _=>(go n x.1).bind λr=>k (r,())},
   c:=.skip,K:=⟨λ_=>none,[],λ_=>none,λ_ _=>none⟩,p:=0,args:=[],aos:=[],nt:=0,kzm:=λ_=>[],go:=λ_ _=>none}
theorem zwf{P:Program}{D:Dat}{f ty:Nat}(hent:∀args W,(callFunc f args).run P W = .ok (.enter f args) W)
  (hcon:∀(blk cap:Nat) (zs:List B8) (w:World),Holds encStr w blk 0 zs.toArray->zs.length<=9223372036854775807->zs.length<=cap ->
   Calls P f #[.slice (some ⟨blk,0,none⟩) zs.length cap] w λe w'=>e = .returned (.slice (some ⟨blk,0,none⟩) (Lib.compact zs).length cap)∧∃q,w'=putRow encStr (Sort.ahead w q) blk 0 (Lib.compact zs++List.replicate (zs.length-(Lib.compact zs).length) []).toArray)
  (hnone:∀(p:Option Addr) (cap:Nat) (w:World),Calls P f #[.slice p 0 cap] w λe w'=>e = .returned (.slice p 0 cap)∧w'=w)
  (xs:List B8) (hlen:xs.length<=9223372036854775807) (go:Nat->List B8->Option (List B8)) (n:Nat):((zpc D f ty go).ent n).Flat P ((xs,()):HL D.T [.sl .str]) (.inl ((zic xs,()):HL D.T [.sl .str])):=λlv L E ρ0 vargs k1 k2 k3 k4 _=>by
 have k1:ρ0.length=1:=k1;obtain⟨sl,rfl⟩:=List.length_eq_one_iff.1 k1;have k2:VRL D [sl] lv [.own 0] vargs:=k2;simp only[VRL,VR]at k2;obtain⟨v,rr,rfl,⟨sl',e1,e2,e3⟩,rfl⟩:=k2;obtain rfl:sl=sl':=by simpa using e1
 subst e2;obtain⟨sl',e4,e5⟩:=k3 0 (.acc ty .str xs true) (Qai);obtain rfl:sl=sl':=by simpa using e4
 simp only[OR]at e5;obtain⟨o1,o2,o3⟩:=e5;have o1:sl.ws.length=xs.length:=o1;have o2:∀(j:Nat) (x:B8) (v:V),xs[j]? = some x->sl.ws[j]? = some v->DR D .str x v:=o2;have hws:=y4x o1 o2;have hsl:=zpq xs
 have left:∀(L':List (Option zz2)) (sl':Slot),sl'.k=sl.k->sl'.fp=[]->sl'.ws=(zic xs).map V.str->(∀i,(∀j,sl.k=some j->j≠i)->L'[i]? = L[i]?)->L'.length=L.length ->
   (match sl'.k with
   |none=>(sl'.v = .nils∧sl'.ws=[])∨((sl'.v = .sl (D.len .str) sl'.ws true∧DTy.str ≠ .int .u8)∧(True->sl'.ws=[]))
   |some i=>∃ver cp,sl'.v = .hs lv i ver 0 sl'.ws.length false∧L'[i]? = some (some (.arr ver ty (D.len .str) sl'.ws cp))) ->
   Left D lv L [sl] 0 L' [sl'] [.acc ty .str true] ((zic xs,()):HL D.T [.sl .str]):=λL' sl' a2 a0 a3 a4 a5 a6=>by
  refine⟨rfl,λj o hm =>?_,λs s' t t' i r1 r2 _ _ =>?_,λs t i r1 c1 =>?_,λi hi hno =>?_,λj t hj=>absurd hj (Nat.not_lt_zero _),λs t i r1 c1 =>?_⟩
  ·have hm:(j,o)∈[(0,(TO.acc ty .str (zic xs) true:TO D.T))]:=hm;simp only[List.mem_singleton,Qbs]at hm;obtain⟨rfl,rfl⟩:=hm;refine⟨sl',rfl,?_⟩;simp only[OR];refine⟨by rw[a3];exact Qaz _,λj y v hy hv =>?_,a6⟩;have hy:(zic xs)[j]? = some y:=hy;rw[a3,Qal,hy]at hv;injection hv with hv;subst hv;exact .str _
  ·have l1:=(Qaa.1 r1).1;have l2:=(Qaa.1 r2).1;simp at l1 l2;omega
  ·have l1:=(Qaa.1 r1).1;have:s=0:=by simp at l1;omega
   subst this;obtain rfl:sl'=t:=by simpa using r1
   exact .inr ⟨0,sl,rfl,.inl (by rw[<-a2];exact Slot.znm a0 c1)⟩
  ·refine⟨by rw[a5];exact hi,a4 i λj hj hji=>hno 0 sl rfl (.inl (by rw[hj,hji]))⟩
  ·have l1:=(Qaa.1 r1).1;have:s=0:=by simp at l1;omega
   subst this;obtain rfl:sl'=t:=by simpa using r1
   rw[a0]at c1;cases c1
 have one:∀{W:World}{g:Gh}{cargs:Array Value},zd5 W g ⟨lv,L,E⟩ [sl.v] cargs->∃c,cargs = #[c]∧Rel W g ⟨lv,L,E⟩ sl.v c:=λ{W g cargs} hR=>by
  obtain⟨h1,h2⟩:=hR;have hsz:cargs.toList.length=1:=by simpa using h1
  obtain⟨c,hc⟩:=List.length_eq_one_iff.1 hsz;have hc':cargs = #[c]:=by rw[<-Array.toList_inj,hc]
  subst hc';exact⟨c,rfl,by simpa using h2 0 _ rfl⟩
 have nothing:xs=[]->(∀W g cargs,zd5 W g ⟨lv,L,E⟩ [sl.v] cargs->∃p cap,cargs = #[.slice p 0 cap])->zhy P f [sl.v] ⟨lv,L,E⟩ λout H'=>∃L' ρ',H'=⟨lv,L',E⟩∧(Left D lv L [sl] 0 L' ρ' [.acc ty .str true] ((zic xs,()):HL D.T [.sl .str])∧((∀q∈([]:List (Nat×Nat)),∀s0,[sl][q.1]? = some s0->∃s1,ρ'[q.2]? = some s1∧s1.v=s0.v)∧znx L L' [sl] [])∧∃vs,out = .ret (z2y vs)∧VRL D ρ' lv [.own 0] vs):=λhx hc W g cargs hG hR=>by
  obtain⟨p,cap,rfl⟩:=hc W g cargs hR;obtain⟨c,hc1,hc2⟩:=one hR;refine⟨hent _ _,(hnone p cap W).mono ?_⟩
  rintro e W' ⟨rfl,rfl⟩
  have hs:zic xs=[]:=Qam (by rw[hx]at hsl ⊢;simpa using hsl);have l1:=left L ⟨sl.v,sl.k,sl.ws,[]⟩ rfl rfl (by show sl.ws=_;rw[hs,hws,hx]) (λ_ _=>rfl) rfl o3;refine⟨.ret sl.v,⟨lv,L,E⟩,g,⟨L,[⟨sl.v,sl.k,sl.ws,[]⟩],rfl,l1,⟨(λq hq=>by cases hq),.nil⟩,[sl.v],rfl,?_⟩,.refl _ _ _,hG,_,rfl,?_⟩
  ·simp only[VRL,VR];exact⟨sl.v,[],rfl,⟨_,rfl,rfl,e3⟩,rfl⟩
  ·have:(#[Value.slice p 0 cap]:Array Value) = #[c]:=hc1;rw[show Value.slice p 0 cap=c by simpa using this];exact hc2
 cases hk:sl.k with
 |none=>
  rw[hk]at o3
  rcases o3 with ⟨v1,v2⟩|⟨v1,v2⟩
  ·refine nothing (by rw[hws]at v2;simpa using v2) λW g cargs hR =>?_
   obtain⟨c,rfl,hc⟩:=one hR;rw[v1]at hc;cases hc;exact⟨_,_,rfl⟩
  ·have v3:=v2 trivial;refine nothing (by rw[hws]at v3;simpa using v3) λW g cargs hR =>?_
   obtain⟨c,rfl,hc⟩:=one hR;rw[v1.1,v3]at hc
   cases hc with
   |slnil=>exact⟨_,_,rfl⟩
   |sle _ _ a cap hf=>exact⟨_,_,rfl⟩
   |sl _ _ _ b o cap c=>exact⟨_,_,rfl⟩
 |some i=>
  rw[hk]at o3;obtain⟨ver,cp,v1,v2⟩:=o3;have hi:=(Qaa.1 v2).1;rw[hws]at v2;have hh:=y1l (P:=P) (f:=f) (ty:=ty) hent hcon (lv:=lv) (E:=E) (n:=sl.ws.length) v2 hlen (by rw[hws];simp);rw[<-v1]at hh;refine hh.mono λo H' ⟨e1,e2⟩ =>?_
  subst e1;subst e2;have l1:=left (L.set i (some (.arr (ver+1) ty 1 ((zic xs).map V.str) cp))) ⟨.hs lv i (ver+1) 0 (zic xs).length false,some i,(zic xs).map V.str,[]⟩ hk.symm rfl rfl (λj hj=>Qak (hj i hk)) (by simp) ⟨ver+1,cp,by simp,by simp[hi,Dat.len]⟩
  refine⟨_,[⟨.hs lv i (ver+1) 0 (zic xs).length false,some i,(zic xs).map V.str,[]⟩],rfl,l1,⟨(λq hq=>by cases hq),.nil⟩,[.hs lv i (ver+1) 0 (zic xs).length false],rfl,?_⟩;show VRL D _ lv [.own 0] _;simp only[VRL,VR];exact⟨_,[],rfl,⟨_,rfl,rfl,rfl⟩,rfl⟩
theorem y4a{P:Program}{D:Dat}{f ty:Nat}(hent:∀args W,(callFunc f args).run P W = .ok (.enter f args) W)
  (hcon:∀(blk cap:Nat) (zs:List B8) (w:World),Holds encStr w blk 0 zs.toArray->zs.length<=9223372036854775807->zs.length<=cap ->
   Calls P f #[.slice (some ⟨blk,0,none⟩) zs.length cap] w λe w'=>e = .returned (.slice (some ⟨blk,0,none⟩) (Lib.compact zs).length cap)∧∃q,w'=putRow encStr (Sort.ahead w q) blk 0 (Lib.compact zs++List.replicate (zs.length-(Lib.compact zs).length) []).toArray)
  (hnone:∀(p:Option Addr) (cap:Nat) (w:World),Calls P f #[.slice p 0 cap] w λe w'=>e = .returned (.slice p 0 cap)∧w'=w) :
  FOk P (zpc D f ty λ_ xs=>if xs.length<=9223372036854775807 then some (zic xs)else none):=λn R x k kp r h=>by
 have h:((if x.1.length<=9223372036854775807 then some (zic x.1)else none).bind λr=>k (r,()))=some r:=h;obtain⟨r0,h1,h2⟩:=zfp h;split at h1
 ·rename_i hlen;injection h1 with h1;subst h1;exact .inl ⟨(zic x.1,()),h2,zwf hent hcon hnone x.1 hlen _ n⟩
 ·cases h1
end Go.Ab
namespace Go.Ab
open Go Go.RowKit
set_option linter.unusedVariables false
set_option linter.unusedSimpArgs false
end Go.Ab
namespace Go.Ab
open Go
set_option linter.unusedVariables false
theorem wrk{k:Nat}(h:k<=4611686018427387904):IntKind.i64.wrap ((k:Int)+1)=((k+1:Nat):Int):=by rw[wr1 h];rfl
noncomputable def eqB{α:Type}(a b:α):Bool:=@decide (a=b) (Classical.propDecidable _)
theorem y80{α:Type}{a b:α}:eqB a b=true↔a=b:=@decide_eq_true_iff _ (Classical.propDecidable _)
theorem zkf{α:Type}{a b:α}:eqB a b=false↔a≠b:=@decide_eq_false_iff_not _ (Classical.propDecidable _)
@[simp] theorem zy1 {α:Type} (a:α):eqB a a=true:=y80.2 rfl
theorem down{len:Nat}{Q:Nat->Prop}(h0:Q len)(hs:∀k,k<len->Q (k+1)->Q k):∀k,k<=len->Q k:=by
 intro k hk;obtain⟨m,rfl⟩:∃m,k=len-m:=⟨len-k,by omega⟩
 induction m with
 |zero=>exact h0
 |succ m ih=>
  by_cases h:m<len
  ·refine hs _ (by omega) ?_;rw[show len-(m+1)+1=len-m by omega];exact ih (by omega)
  ·rw[show len-(m+1)=len-m by omega];exact ih (by omega)
set_option linter.unusedSimpArgs false
def Ev{α:Type}(f:Nat->Option α)(r:α):Prop:=∃n,∀m,n<=m->f m=some r
section
variable {α β : Type} {r : α}
theorem Ev.get{f:Nat->Option α}(h:Ev f r):∃n,f n=some r:=by obtain⟨n,hn⟩:=h;exact⟨n,hn n (Qbp _)⟩
theorem Ev.succ{f g:Nat->Option α}(h:∀n,f (n+1)=g n)(hg:Ev g r):Ev f r:=by
 obtain⟨n,hn⟩:=hg;refine⟨n+1,λm hm =>?_⟩;obtain⟨q,rfl⟩:∃q,m=q+1:=⟨m-1,by omega⟩;rw[h];exact hn q (by omega)
theorem Ev.same{f g:Nat->Option α}(h:∀n,f n=g n)(hg:Ev g r):Ev f r:=by
 obtain⟨n,hn⟩:=hg;exact⟨n,λm hm=>by rw[h];exact hn m hm⟩
theorem Ev.pure{o:Option α}(h:o=some r):Ev (λ_=>o) r:=⟨0,λ_ _=>h⟩
theorem Ev.bind{a:Nat->Option β}{k:Nat->β->Option α}{y:β}(ha:Ev a y)(hk:Ev (λn=>k n y) r):Ev (λn=>(a n).bind (k n)) r:=by
 obtain⟨n,hn⟩:=ha;obtain⟨q,hq⟩:=hk;exact⟨max n q,λm hm=>by show(a m).bind (k m)=_;rw[hn m (by omega)];exact hq m (by omega)⟩
theorem Ev.t{c:Bool}{a b:Nat->Option α}(hc:c=true)(ha:Ev a r):Ev (λn=>if c=true then a n else b n) r:=by subst hc;exact ha
theorem Ev.f{c:Bool}{a b:Nat->Option α}(hc:c=false)(ha:Ev b r):Ev (λn=>if c=true then a n else b n) r:=by subst hc;exact ha
theorem Ev.cond{c:Bool}{a b:Nat->Option α}(ht:c=true->Ev a r)(hf:c=false->Ev b r):Ev (λn=>if c=true then a n else b n) r:=by
 cases c
 ·exact hf rfl
 ·exact ht rfl
end
section
variable {α β γ : Type} {xs : List α}
end
section
variable {α β : Type} {r : α}
theorem Ev.y9y{f g:Nat->Option α}(h:∀n,f (n+1)=g n):Ev f r↔Ev g r :=
 ⟨λ⟨n,hn⟩=>⟨n,λm hm=>by rw[<-h];exact hn _ (by omega)⟩,Ev.succ h⟩
theorem evS(f:Nat->Option α)(r:α){g:Nat->Option α}(h:∀n,f (n+1)=g n):Ev f r↔Ev g r:=Ev.y9y h
theorem Ev.z9f{a:Nat->Option β}{k:Nat->β->Option α}{y:β}(ha:Ev a y):Ev (λn=>(a n).bind (k n)) r↔Ev (λn=>k n y) r :=
 ⟨λh=>by
  obtain⟨n,hn⟩:=h;obtain⟨q,hq⟩:=ha;refine⟨max n q,λm hm =>?_⟩;have:=hn m (by omega);simp only[hq m (by omega)]at this
  exact this,Ev.bind ha⟩
theorem Ev.zk2{o:Option β}{k:Nat->β->Option α}{y:β}(ho:o=some y):Ev (λn=>o.bind (k n)) r↔Ev (λn=>k n y) r:=by subst ho;exact Iff.rfl
theorem Ev.zpx{a b:Nat->Option α}{c:Bool}(hc:c=true):Ev (λn=>pIf c (a n) (b n)) r↔Ev a r:=by subst hc;exact Iff.rfl
theorem Ev.zij{a b:Nat->Option α}{c:Bool}(hc:c=false):Ev (λn=>pIf c (a n) (b n)) r↔Ev b r:=by subst hc;exact Iff.rfl
end
section
variable {α σ γ : Type}
theorem loopAll{L:Nat->Int->Option γ}{xs:List α}{p:α->Bool}{fail r:γ}
  (he:Ev (λn=>L n (xs.length:Int)) r)
  (hs:∀k (h:k<xs.length) v,Ev (λn=>L n ((k+1:Nat):Int)) v->Ev (λn=>L n (k:Int)) (if p xs[k]=true then v else fail)) :
  Ev (λn=>L n 0) (if xs.all p=true then r else fail):=by
 have:∀k,k<=xs.length->Ev (λn=>L n (k:Int)) (if (xs.drop k).all p=true then r else fail) :=
  down (by simpa using he) λk hk ih=>by
   have h:=hs k hk _ ih;rw[<-List.getElem_cons_drop (h:=hk),List.all_cons];by_cases hp:p xs[k]=true
   ·rw[Qbq hp]at h;simpa[hp]using h
   ·rw[Qbr hp]at h;have hp':p xs[k]=false:=by simpa using hp
    simpa[hp']using h
 simpa using this 0 (Qbo _)
theorem loopAny{L:Nat->Int->Option γ}{xs:List α}{p:α->Bool}{got r:γ}
  (he:Ev (λn=>L n (xs.length:Int)) r)
  (hs:∀k (h:k<xs.length) v,Ev (λn=>L n ((k+1:Nat):Int)) v->Ev (λn=>L n (k:Int)) (if p xs[k]=true then got else v)) :
  Ev (λn=>L n 0) (if xs.any p=true then got else r):=by
 have:∀k,k<=xs.length->Ev (λn=>L n (k:Int)) (if (xs.drop k).any p=true then got else r) :=
  down (by simpa using he) λk hk ih=>by
   have h:=hs k hk _ ih;rw[<-List.getElem_cons_drop (h:=hk),List.any_cons];by_cases hp:p xs[k]=true
   ·rw[Qbq hp]at h;simpa[hp]using h
   ·rw[Qbr hp]at h;have hp':p xs[k]=false:=by simpa using hp
    simpa[hp']using h
 simpa using this 0 (Qbo _)
theorem loopEnds{L:Nat->Int->Option γ}{len:Nat}
  (he:∃v,Ev (λn=>L n (len:Int)) v)
  (hs:∀k,k<len->∀v,Ev (λn=>L n ((k+1:Nat):Int)) v->∃w,Ev (λn=>L n (k:Int)) w) :
  ∃v,Ev (λn=>L n 0) v:=by
 have:∀k,k<=len->∃v,Ev (λn=>L n (k:Int)) v:=down he λk hk ⟨v,ih⟩=>hs k hk v ih
 simpa using this 0 (Qbo _)
theorem loopEq{L:Nat->Int->Option γ}{xs ys:List α}{fail r:γ}(hlen:xs.length=ys.length)
  (he:Ev (λn=>L n (xs.length:Int)) r)
  (hs:∀k (h:k<xs.length) (h':k<ys.length) v,Ev (λn=>L n ((k+1:Nat):Int)) v->Ev (λn=>L n (k:Int)) (if eqB xs[k] ys[k]=true then v else fail)) :
  Ev (λn=>L n 0) (if eqB xs ys=true then r else fail):=by
 have:∀k,k<=xs.length->Ev (λn=>L n (k:Int)) (if eqB (xs.drop k) (ys.drop k)=true then r else fail) :=
  down (by rw[List.drop_length,hlen,List.drop_length];simpa[hlen]using he) λk hk ih=>by
   have hk':k<ys.length:=by omega
   have h:=hs k hk hk' _ ih;rw[<-List.getElem_cons_drop (h:=hk),<-List.getElem_cons_drop (h:=hk')];by_cases hp:xs[k]=ys[k]
   ·rw[hp,zy1,Qbq rfl]at h;rw[hp]
    have e:eqB (ys[k]::xs.drop (k+1)) (ys[k]::ys.drop (k+1))=eqB (xs.drop (k+1)) (ys.drop (k+1)):=by
     by_cases q:xs.drop (k+1)=ys.drop (k+1)
     ·rw[q,zy1,zy1]
     ·rw[zkf.2 q,zkf.2 (λh=>q (by injection h))]
    rw[e];exact h
   ·rw[zkf.2 hp]at h;rw[zkf.2 (by intro q;injection q with q1 q2;exact hp q1)];exact h
 simpa using this 0 (Qbo _)
theorem loopFold{L:Nat->Int->σ->Option γ}{xs:List α}{f:σ->α->σ}{I:Nat->σ->Prop}{v:γ}{s0:σ}(h0:I 0 s0)
  (he:I xs.length (xs.foldl f s0)->Ev (λn=>L n (xs.length:Int) (xs.foldl f s0)) v)
  (hs:∀k (h:k<xs.length) s,I k s->I (k+1) (f s xs[k])∧(Ev (λn=>L n ((k+1:Nat):Int) (f s xs[k])) v->Ev (λn=>L n (k:Int) s) v)) :
  Ev (λn=>L n 0 s0) v:=by
 have:∀m k,k+m=xs.length->∀s,I k s->(xs.drop k).foldl f s=xs.foldl f s0->Ev (λn=>L n (k:Int) s) v:=λm=>by
  induction m with
  |zero=>
   intro k hk s hi hf;have hkl:k=xs.length:=by omega
   subst hkl;rw[List.drop_length]at hf;simp only[List.foldl_nil]at hf
   rw[hf];exact he (hf▸hi)
  |succ m ih=>
   intro k hk s hi hf;have hlt:k<xs.length:=by omega
   obtain⟨h1,h2⟩:=hs k hlt s hi;refine h2 (ih (k+1) (by omega) _ h1 ?_);rw[<-List.getElem_cons_drop (h:=hlt)]at hf;exact hf
 simpa using this xs.length 0 (by omega) s0 h0 (by simp)
end
def isLet(c:UInt8):Bool:=decide (97<=c.toNat)&&decide (c.toNat<=122)
def isDig(c:UInt8):Bool:=decide (48<=c.toNat)&&decide (c.toNat<=57)
def isMid(c:UInt8):Bool:=isLet c||c==45||isDig c
def nameOk(s:B8):Bool:=match s with
 |[]=>false
 |c::t=>isLet c&&t.all isMid&&decide (s.length<=40)
def cutAt(b:UInt8)(s:B8):B8×B8×Bool:=(s.takeWhile (· != b),(s.dropWhile (· != b)).tail,s.any (· == b))
def parts(b:UInt8):B8->List B8
 |[]=>[[]]
 |c::t=>if c==b then []::parts b t else match parts b t with
  |h::r=>(c::h)::r
  |[]=>[[c]]
def steps(s:B8):List B8:=if s==[]then []else parts 47 s
theorem parts_eq(b:UInt8):∀s:B8,parts b s=(cutAt b s).1::(if (cutAt b s).2.2 then parts b (cutAt b s).2.1 else [])
 |[]=>by simp[parts,cutAt]
 |c::t=>by
  rw[parts];by_cases h:c=b
  ·subst h;simp[cutAt]
  ·have h':(c==b)=false:=by simpa using h
   rw[h',parts_eq b t];simp[cutAt,h',bne,List.takeWhile_cons,List.dropWhile_cons]
theorem y8p(b:UInt8)(s:B8):parts b s≠[]:=by rw[parts_eq];simp
theorem zfc(b:UInt8):∀s:B8,(parts b s).length=s.countP (· == b)+1
 |[]=>by simp[parts]
 |c::t=>by
  rw[parts];have ih:=zfc b t;split
  ·rename_i h;simp[ih,List.countP_cons,h]
  ·rename_i h
   cases hp:parts b t with
   |nil=>exact(y8p b t hp).elim
   |cons a r=>rw[hp]at ih;simp[List.countP_cons,h]at ih ⊢;omega
theorem zo9(b:UInt8):∀s:B8,Lib.indexByte s b=if s.any (· == b)then ((s.takeWhile (· != b)).length:Int)else -1
 |[]=>rfl
 |c::t=>by
  rw[Lib.indexByte,zo9 b t];cases h:c==b
  ·simp only[List.any_cons,h,Bool.false_or,List.takeWhile_cons,bne,Bool.not_false,if_true,List.length_cons];cases t.any (· == b)
   ·simp
   ·simp only[if_true,Qbh];rw[Qbr (by simp),Qbr (by omega)];simp
  ·simp[h,bne]
theorem zwd{b:UInt8}:∀{s:B8},s.any (· == b)=true->(s.takeWhile (· != b)).length<s.length∧s.take (s.takeWhile (· != b)).length=s.takeWhile (· != b)∧s.drop ((s.takeWhile (· != b)).length+1)=(s.dropWhile (· != b)).tail
 |[],h=>by simp at h
 |c::t,h=>by
  cases hc:c==b
  ·have ih:=zwd (b:=b) (s:=t) (by simpa[hc]using h);simp only[bne]at ih ⊢;simp[List.takeWhile_cons,List.dropWhile_cons,hc];exact⟨ih.1,ih.2.1,by simpa using ih.2.2⟩
  ·simp[List.takeWhile_cons,List.dropWhile_cons,hc,bne]
theorem y8d{b:UInt8}:∀{s:B8},s.any (· == b)=false->cutAt b s=(s,[],false)
 |[],h=>rfl
 |c::t,h=>by
  simp only[List.any_cons,Bool.or_eq_false_iff]at h;have ih:=y8d (b:=b) (s:=t) h.2;simp only[cutAt,bne]at ih ⊢;simp[List.takeWhile_cons,List.dropWhile_cons,h.1];simpa using ih
theorem zkd:∀a:B8,Op.bytesLess a a=false
 |[]=>rfl
 |x::a=>by simp[Op.bytesLess,zkd a]
theorem znc:∀{a b c:B8},Op.bytesLess a b=true->Op.bytesLess b c=true->Op.bytesLess a c=true
 |_,[],_,h,_=>by simp[Op.bytesLess]at h
 |_,_::_,[],_,h=>by simp[Op.bytesLess]at h
 |[],_::_,_::_,_,_=>by simp[Op.bytesLess]
 |x::a,y::b,z::c,h1,h2=>by
  simp only[Op.bytesLess,Bool.or_eq_true,Qap,Qaf,Qbh]at h1 h2 ⊢
  rcases h1 with h1|⟨rfl,h1⟩
  ·rcases h2 with h2|⟨rfl,h2⟩
   ·exact .inl (by rw[UInt8.lt_iff_toNat_lt]at *;omega)
   ·exact .inl h1
  ·rcases h2 with h2|⟨rfl,h2⟩
   ·exact .inl h2
   ·exact .inr ⟨rfl,znc h1 h2⟩
theorem zo2:∀{a b:B8},Op.bytesLess a b=false->Op.bytesLess b a=false->a=b
 |[],[],_,_=>rfl
 |[],_::_,h,_=>by simp[Op.bytesLess]at h
 |_::_,[],_,h=>by simp[Op.bytesLess]at h
 |x::a,y::b,h1,h2=>by
  simp only[Op.bytesLess,Bool.or_eq_false_iff,decide_eq_false_iff_not,Bool.and_eq_false_iff,beq_eq_false_iff_ne]at h1 h2;have hxy:x=y:=UInt8.toNat_inj.1 (by have:=h1.1;have:=h2.1;simp only[UInt8.lt_iff_toNat_lt]at *;omega);subst hxy
  have e1:Op.bytesLess a b=false:=by rcases h1.2 with h|h;exact absurd rfl h;exact h
  have e2:Op.bytesLess b a=false:=by rcases h2.2 with h|h;exact absurd rfl h;exact h
  rw[zo2 e1 e2]
theorem y0h{a b:B8}(h:Op.bytesLess a b=true):Op.bytesLess b a=false:=by
 cases h2:Op.bytesLess b a
 ·rfl
 ·have:=znc h h2;rw[zkd]at this;cases this
theorem y69{a b c:B8}(h1:Op.bytesLess a b=false)(h2:Op.bytesLess b c=false):Op.bytesLess a c=false:=by
 cases h:Op.bytesLess a c
 ·rfl
 ·cases h3:Op.bytesLess b a
  ·rw[zo2 h1 h3]at h;rw[h]at h2;cases h2
  ·rw[znc h3 h]at h2;cases h2
theorem y5q(x y:B8):decide (x<=y) = !Op.bytesLess y x:=by
 rw[Go.Proofs.bytesLess_eq];by_cases h:y<x
 ·have:¬x<=y:=List.not_le.2 h;simp[h,this]
 ·have:x<=y:=List.not_lt.1 h;simp[h,this]
def zmi(l:List B8):Prop:=l.Pairwise λx y=>Op.bytesLess x y=true
theorem zur:∀{l m:List B8},zmi l->zmi m->(∀x,x∈l↔x∈m)->l=m
 |[],[],_,_,_=>rfl
 |[],y::m,_,_,h=>by have:=(h y).2 Qai;cases this
 |x::l,[],_,_,h=>by have:=(h x).1 Qai;cases this
 |x::l,y::m,h1,h2,h=>by
  have a1:=List.pairwise_cons.1 h1;have a2:=List.pairwise_cons.1 h2
  have hxy:x=y:=by
   rcases Qbg.1 ((h x).1 Qai)with e|e
   ·exact e
   ·rcases Qbg.1 ((h y).2 Qai)with e'|e'
    ·exact e'.symm
    ·have b1:=a2.1 x e;have b2:=a1.1 y e';rw[y0h b1]at b2;cases b2
  subst hxy;refine congrArg (x :: ·) (zur a1.2 a2.2 λz=>⟨λhz =>?_,λhz =>?_⟩)
  ·rcases Qbg.1 ((h z).1 (Qag _ hz))with e|e
   ·subst e;have:=a1.1 z hz;rw[zkd]at this;cases this
   ·exact e
  ·rcases Qbg.1 ((h z).2 (Qag _ hz))with e|e
   ·subst e;have:=a2.1 z hz;rw[zkd]at this;cases this
   ·exact e
theorem ybd{l:List B8}(h:l.Nodup):zmi (z1b l):=by
 have hp:(z1b l).Pairwise λx y=>decide (x<=y)=true:=List.pairwise_mergeSort (λa b c h1 h2=>by
  rw[y5q,Bool.not_eq_true']at *
  exact y69 h2 h1) (λa b=>by
  rw[y5q,y5q];cases h:Op.bytesLess b a
  ·rfl
  ·rw[y0h h];rfl) l
 have hn:(z1b l).Nodup:=(zh7 l).nodup_iff.2 h;unfold zmi;refine List.Pairwise.imp₂ (R:=λx y=>decide (x<=y)=true) (S:=(· ≠ ·)) (λx y h1 h2 =>?_) hp hn;rw[y5q,Bool.not_eq_true']at h1;cases h3:Op.bytesLess x y
 ·exact(h2 (zo2 h3 h1)).elim
 ·rfl
def ins:List B8->B8->List B8
 |[],s=>[s]
 |x::l,s=>if Op.bytesLess x s then x::ins l s else if x=s then x::l else s::x::l
theorem y5t(s:B8):∀(l:List B8) (z:B8),z∈ins l s↔z∈l∨z=s
 |[],z=>by simp[ins]
 |x::l,z=>by
  rw[ins];split
  ·rw[Qbg,Qbg,y5t s l z,or_assoc]
  ·split
   ·rename_i h;subst h;constructor
    ·exact .inl
    ·rintro (h|rfl)
     ·exact h
     ·exact Qai
   ·rw[Qbg,or_comm]
theorem y4l{s:B8}:∀{l:List B8},zmi l->zmi (ins l s)
 |[],_=>by simp[ins,zmi]
 |x::l,h=>by
  have a:=List.pairwise_cons.1 h;rw[ins];split
  ·rename_i hx;refine List.pairwise_cons.2 ⟨λz hz =>?_,y4l a.2⟩
   rcases(y5t s l z).1 hz with hz|rfl
   ·exact a.1 z hz
   ·exact hx
  ·split
   ·exact h
   ·rename_i h1 h2;have h1:Op.bytesLess x s=false:=by simpa using h1
    have hs:Op.bytesLess s x=true:=by
     cases h3:Op.bytesLess s x
     ·exact(h2 (zo2 h1 h3)).elim
     ·rfl
    refine List.pairwise_cons.2 ⟨λz hz =>?_,h⟩
    rcases Qbg.1 hz with rfl|hz
    ·exact hs
    ·exact znc hs (a.1 z hz)
theorem ybl(s:B8):∀l:List B8,(ins l s).length<=l.length+1
 |[]=>by simp[ins]
 |x::l=>by
  have:=ybl s l;rw[ins];split
  ·simp;omega
  ·split <;> simp
theorem yd2(s:B8):∀l:List B8,ins l s=if (l.dropWhile (λx=>Op.bytesLess x s)).head?=some s then l else l.takeWhile (λx=>Op.bytesLess x s)++s::l.dropWhile (λx=>Op.bytesLess x s)
 |[]=>by simp[ins]
 |x::l=>by
  rw[ins];cases h:Op.bytesLess x s
  ·rw[List.dropWhile_cons_of_neg (by simp[h]),List.takeWhile_cons_of_neg (by simp[h])];by_cases hx:x=s
   ·simp[hx]
   ·simp[hx]
  ·rw[List.dropWhile_cons_of_pos (by simp[h]),List.takeWhile_cons_of_pos (by simp[h]),Qbq rfl,yd2 s l];split <;> rfl
end Go.Ab
