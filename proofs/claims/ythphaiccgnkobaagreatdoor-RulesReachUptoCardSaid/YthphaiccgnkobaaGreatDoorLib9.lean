/-
  slices.Sort OF STRINGS ON A SLICE OF OURS, out of a y1r of the kit's kind.
-/
import Derived.Test.YthphaiccgnkobaaGreatDoorLib8
import Derived.Shelf.Sort.Plain
import Derived.Lib.SlicesCompact
import Derived.Sort.Walk0
import Derived.Laws.AppendOwn
namespace Go.Ab
open Go Go.RowKit Go.Sort Go.Proofs
set_option linter.unusedVariables false
set_option linter.unusedSimpArgs false
def z27(ss:List B8):List B8:=ss.mergeSort λx y=>decide (x<=y)
theorem zc7(ss):(z27 ss).Perm ss:=List.mergeSort_perm _ _
theorem ywt{P:Program}{f ty:Nat}(hent:∀args W,(callFunc f args).run P W = .ok (.enter f args) W)
  (hcon:∀(blk cap:Nat) (ss:List B8) (w:World),Holds encStr w blk 0 ss.toArray->blk<w.heap.size->ss.length<4611686018427387904 ->
   Calls P f #[.slice (some ⟨blk,0,none⟩) ss.length cap] w λe w'=>e = .returned (.tuple #[])∧∃n os,w'=grow (putRow encStr (Sort.ahead w n) blk 0 (ss.mergeSort λx y=>decide (x<=y)).toArray) os)
  {lv k ver n:Nat} {L:List (Option kze)}{E:Nat->Nat->Option kze}{xs:List B8}{cp:Option Nat}(hL:L[k]? = some (some (.arr ver ty 1 (xs.map V.str) cp))) (hlen:xs.length<4611686018427387904) (hn:n=xs.length) :
  zn5 P f [.hs lv k ver 0 n false] ⟨lv,L,E⟩ λo H'=>o = .ret (.tup [])∧H'=⟨lv,L.set k (some (.arr ver ty 1 ((z27 xs).map V.str) cp)),E⟩:=by
 intro W g cargs hG hR;have hg:(⟨lv,L,E⟩:Heap).get lv k=some (.arr ver ty 1 (xs.map V.str) cp):=by simp[Heap.get,hL]
 obtain⟨x,rfl,h0⟩:∃x,cargs = #[x]∧Rel W g ⟨lv,L,E⟩ (.hs lv k ver 0 n false) x:=by
  obtain⟨h1,h2⟩:=hR;have hsz:cargs.toList.length=1:=by simpa using h1
  obtain⟨c,hc⟩:=List.length_eq_one_iff.1 hsz;have hc':cargs = #[c]:=by rw[<-Array.toList_inj,hc]
  subst hc';exact⟨c,rfl,by simpa using h2 0 _ rfl⟩
 refine⟨hent _ _,?_⟩
 cases h0 with
 |hs _ _ _ _ _ _ a m cap hd hv ha=>
  obtain⟨rfl,rfl,⟨a1,a2,_⟩,a3⟩:=ha _ _ _ _ hg;obtain⟨cur,k1,k2,k3,k3',k4,k5,k6,k7,k8⟩:=hG.obj _ _ _ hg;rw[Qbc]at k4
  have hH:Holds encStr W (g.ab lv k) 0 xs.toArray:=λj hj=>by
   have hj':j<xs.length:=by simpa using hj
   have e1:(xs.map V.str)[j]? = some (.str xs[j]):=by rw[Qan,Qab hj'];rfl
   have e2:=k8 j _ 0 (.str xs[j]) e1 rfl;have hlt:j<cur.size:=by rw[k3];omega
   refine⟨?_,by simp[World.frozen?,k1]⟩;rw[getElem!_pos xs.toArray j hj]
   cases e2h:cur.getD (j * 1+0) undef with
   |string s=>
    rw[e2h]at e2;cases e2;rw[Qae]at e2h;rw[show j * 1+0=j by omega,Qas hlt]at e2h;simp only[Option.getD_some]at e2h
    simp[World.cell?,k1,hlt,e2h,encStr]
   |_=>rw[e2h]at e2;cases e2
  have hb:g.ab lv k<W.heap.size:=(Qbk.1 k1).1;have hc:=hcon (g.ab lv k) cap xs W hH hb hlen;have hsp:=zc7 xs;have hsl:(z27 xs).length=xs.length:=hsp.length_eq;subst hn;refine hc.mono ?_
  rintro e W' ⟨rfl,nn,os,rfl⟩
  have hheap:(grow (putRow encStr (Sort.ahead W nn) (g.ab lv k) 0 (z27 xs).toArray) os).heap=W.heap.modify (g.ab lv k) (onCells (Go.Sort.putCells encStr 0 (z27 xs).toArray))++os:=rfl
  have hW':(grow (putRow encStr (Sort.ahead W nn) (g.ab lv k) 0 (z27 xs).toArray) os).heap[g.ab lv k]? = some (.cells (Go.Sort.putCells encStr 0 (z27 xs).toArray cur) ty (0,0)):=by
   rw[hheap,Array.getElem?_append_left (by simpa using hb),Qca,Qbt rfl,k1];rfl
  have hcur:∀j (hj:j<(z27 xs).length),(Go.Sort.putCells encStr 0 (z27 xs).toArray cur).getD (j * 1+0) undef = .string ⟨((z27 xs)[j]).toArray⟩:=λj hj=>by
   have hlt2:j * 1+0<cur.size:=by rw[k3];omega
   rw[Qae,Go.Sort.putCells,Array.getElem?_mapIdx,Qas hlt2];simp only[Qbn,Option.getD_some,Nat.sub_zero];rw[Qbt ⟨Qbr _,by simp;omega⟩,getElem!_pos (z27 xs).toArray _ (by simp;omega)];simp[encStr]
  have hys:∀(j:Nat) (x:V),((z27 xs).map V.str)[j]? = some x->∃hj:j<(z27 xs).length,x = .str (z27 xs)[j]:=λj x hj=>by
   rw[Qan,Qaf]at hj;obtain⟨y,hy,rfl⟩:=hj;obtain⟨h1,h2⟩:=Qaa.1 hy;exact⟨h1,by rw[h2]⟩
  obtain⟨q1,q2⟩:=ze3 (W':=grow (putRow encStr (Sort.ahead W nn) (g.ab lv k) 0 (z27 xs).toArray) os) hG (o':=.arr ver ty 1 ((z27 xs).map V.str) cp) hg rfl rfl rfl rfl (by rw[hheap];simp) (λb hb1 hb2=>by
    rw[hheap,Array.getElem?_append_left (by simpa using hb1),Qca,Qbu (λh=>hb2 h.symm)])
   (λver ty sz zs cp' he=>by injection he with e1 e2 e3 e4 e5;subst e1;subst e2;subst e3;subst e4;exact⟨_,_,_,rfl,Qbs _,λ_=>by simp[hsl]⟩) (λhst=>by
   refine⟨_,hW',by decide,by rw[Go.Sort.putCells,Array.size_mapIdx];exact k3,k3',by rw[Qbc,hsl];exact k4,k5,λj x hj =>?_,λj x t v hj htv =>?_,λj x t v hj htv =>?_⟩;obtain⟨_,rfl⟩:=hys j x hj;rfl;obtain⟨hj',rfl⟩:=hys j x hj
   have ht:t=0:=by
    cases t with
    |zero=>rfl
    |succ t=>simp[V.cells]at htv
   subst ht;rw[hcur j hj'];rfl;obtain⟨hj',rfl⟩:=hys j x hj
   have ht:t=0:=by
    cases t with
    |zero=>rfl
    |succ t=>simp[V.cells]at htv
   subst ht;simp[V.cells]at htv;subst htv;rw[hcur j hj']
   exact .str _)
  refine⟨.ret (.tup []),_,g,⟨rfl,rfl⟩,?_,?_,_,rfl,.tup [] #[] rfl (by simp)⟩;have:=q1;simp only[Heap.set,Qbt]at this;exact this;have:=q2;simp only[Heap.set,Qbt]at this;exact this
def yp1(D)(f ty:Nat)(go:Nat->List B8->Option (List B8)):FI D :=
 {R:=List B8,ent:=λn=>{f:=f,p:=0,args:=[.own 0],aos:=[.acc ty .str true],outs:=[],ros:=[.acc ty .str true],pan:=.nilp,pos:=[.acc ty .str true],pure:=false,go:=λx k _=>(go n x.1).bind λr=>k (r,()),ren:=[(0,0)]},
   c:=.skip,K:=⟨λ_=>none,[],λ_=>none,λ_ _=>none⟩,p:=0,args:=[],aos:=[],nt:=0,z0m:=λ_=>[],go:=λ_ _=>none}
theorem yr4{D}{xs:List B8}{ws}(hl:ws.length=xs.length)(h:∀(j:Nat) (x:B8) (v:V),xs[j]? = some x->ws[j]? = some v->DR D .str x v):ws=xs.map V.str:=by
 refine List.ext_getElem? λj =>?_
 rw[Qan]
 cases hx:xs[j]? with
 |none=>
  grind
 |some x=>
  have hlt:=(Qaa.1 hx).1;have hw:ws[j]? = some ws[j]:=Qab (by omega);have:=h j x _ hx hw;rw[hw]
  cases hv:ws[j]with
  |str s=>rw[hv]at this;cases this;rfl
  |_=>rw[hv]at this;cases this
theorem yt7{P:Program}{D:Dat}{f ty:Nat}(hent:∀args W,(callFunc f args).run P W = .ok (.enter f args) W)
  (hcon:∀(blk cap:Nat) (ss:List B8) (w:World),Holds encStr w blk 0 ss.toArray->blk<w.heap.size->ss.length<4611686018427387904 ->
   Calls P f #[.slice (some ⟨blk,0,none⟩) ss.length cap] w λe w'=>e = .returned (.tuple #[])∧∃n os,w'=grow (putRow encStr (Sort.ahead w n) blk 0 (ss.mergeSort λx y=>decide (x<=y)).toArray) os)
  (hnone:∀(p:Option Addr) (cap:Nat) (w:World),Calls P f #[.slice p 0 cap] w λe w'=>e = .returned (.tuple #[])∧w'=w)
  (xs:List B8) (hlen:xs.length<4611686018427387904) (go:Nat->List B8->Option (List B8)) (n:Nat):((yp1 D f ty go).ent n).Flat P ((xs,()):HL D.T [.sl .str]) (.inl ((z27 xs,()):HL D.T [.sl .str])):=λlv L E ρ0 vargs k1 k2 k3 k4 _=>by
 have k1:ρ0.length=1:=k1;obtain⟨sl,rfl⟩:=List.length_eq_one_iff.1 k1;have k2:VRL D [sl] lv [.own 0] vargs:=k2;simp only[VRL,VR]at k2;obtain⟨v,rr,rfl,⟨sl',e1,e2,e3⟩,rfl⟩:=k2;obtain rfl:sl=sl':=by simpa using e1
 subst e2;obtain⟨sl',e4,e5⟩:=k3 0 (.acc ty .str xs true) (Qak);obtain rfl:sl=sl':=by simpa using e4
 simp only[OR]at e5;obtain⟨o1,o2,o3⟩:=e5;have o1:sl.ws.length=xs.length:=o1;have o2:∀(j:Nat) (x:B8) (v:V),xs[j]? = some x->sl.ws[j]? = some v->DR D .str x v:=o2;have hws:=yr4 o1 o2;have hsl:(z27 xs).length=xs.length:=(zc7 xs).length_eq
 have left:∀(L':List (Option kze)) (sl':Slot),sl'.v=sl.v->sl'.k=sl.k->sl'.fp=[]->sl'.ws=(z27 xs).map V.str->(∀i,(∀j,sl.k=some j->j≠i)->L'[i]? = L[i]?)->L'.length=L.length ->
   (match sl'.k with
   |none=>(sl'.v = .nils∧sl'.ws=[])∨((sl'.v = .sl (D.len .str) sl'.ws true∧DTy.str ≠ .int .u8)∧(True->sl'.ws=[]))
   |some i=>∃ver cp,sl'.v = .hs lv i ver 0 sl'.ws.length false∧L'[i]? = some (some (.arr ver ty (D.len .str) sl'.ws cp))) ->
   Left D lv L [sl] 0 L' [sl'] [.acc ty .str true] ((z27 xs,()):HL D.T [.sl .str])∧((∀q∈[((0:Nat),(0:Nat))],∀s0,[sl][q.1]? = some s0->∃s1,[sl'][q.2]? = some s1∧s1.v=s0.v)∧y5k L L' [sl] []):=λL' sl' a1 a2 a0 a3 a4 a5 a6=>by
  refine⟨⟨rfl,λj o hm =>?_,λs s' t t' i r1 r2 _ _ =>?_,λs t i r1 c1 =>?_,λi hi hno =>?_,λj t hj=>absurd hj (Nat.not_lt_zero _),λs t i r1 c1 =>?_⟩,λq hq s0 hs0 =>?_,.nil⟩;have hm:(j,o)∈[(0,(TO.acc ty .str (z27 xs) true:TO D.T))]:=hm;simp only[Qbb,Qbv]at hm;obtain⟨rfl,rfl⟩:=hm;refine⟨sl',rfl,?_⟩;simp only[OR];refine⟨by rw[a3];exact Qbc _,λj y v hy hv =>?_,a6⟩
  have hy:(z27 xs)[j]? = some y:=hy;rw[a3,Qan,hy]at hv;injection hv with hv;subst hv;exact .str _;have l1:=(Qaa.1 r1).1;have l2:=(Qaa.1 r2).1;simp at l1 l2;omega;have l1:=(Qaa.1 r1).1;have:s=0:=by simp at l1;omega
  subst this;obtain rfl:sl'=t:=by simpa using r1
  exact .inr ⟨0,sl,rfl,.inl (by rw[<-a2];exact Slot.y1h a0 c1)⟩;refine⟨by rw[a5];exact hi,a4 i λj hj hji=>hno 0 sl rfl (.inl (by rw[hj,hji]))⟩;have l1:=(Qaa.1 r1).1;have:s=0:=by simp at l1;omega
  subst this;obtain rfl:sl'=t:=by simpa using r1
  rw[a0]at c1;cases c1;simp only[Qbb]at hq;subst hq;obtain rfl:sl=s0:=by simpa using hs0
  exact⟨sl',rfl,a1⟩
 have nothing:xs=[]->(∀W g cargs,zjv W g ⟨lv,L,E⟩ [sl.v] cargs->∃p cap,cargs = #[.slice p 0 cap])->zn5 P f [sl.v] ⟨lv,L,E⟩ λout H'=>∃L' ρ',H'=⟨lv,L',E⟩∧(Left D lv L [sl] 0 L' ρ' [.acc ty .str true] ((z27 xs,()):HL D.T [.sl .str])∧((∀q∈[((0:Nat),(0:Nat))],∀s0,[sl][q.1]? = some s0->∃s1,ρ'[q.2]? = some s1∧s1.v=s0.v)∧y5k L L' [sl] [])∧∃vs,out = .ret (z9c vs)∧VRL D ρ' lv [] vs):=λhx hc W g cargs hG hR=>by
  obtain⟨p,cap,rfl⟩:=hc W g cargs hR;refine⟨hent _ _,(hnone p cap W).mono ?_⟩
  rintro e W' ⟨rfl,rfl⟩
  have hs:z27 xs=[]:=Qao (by rw[hsl,hx];rfl);obtain⟨l1,l2⟩:=left L ⟨sl.v,sl.k,sl.ws,[]⟩ rfl rfl rfl (by show sl.ws=_;rw[hs,hws,hx]) (λ_ _=>rfl) rfl o3;exact⟨.ret (.tup []),⟨lv,L,E⟩,g,⟨L,[⟨sl.v,sl.k,sl.ws,[]⟩],rfl,l1,l2,[],rfl,(by simp only[VRL]:VRL D [⟨sl.v,sl.k,sl.ws,[]⟩] lv [] [])⟩,.refl _ _ _,hG,_,rfl,.tup [] #[] rfl (by simp)⟩
 have one:∀{W:World}{g:Gh}{cargs:Array Value},zjv W g ⟨lv,L,E⟩ [sl.v] cargs->∃c,cargs = #[c]∧Rel W g ⟨lv,L,E⟩ sl.v c:=λ{W g cargs} hR=>by
  obtain⟨h1,h2⟩:=hR;have hsz:cargs.toList.length=1:=by simpa using h1
  obtain⟨c,hc⟩:=List.length_eq_one_iff.1 hsz;have hc':cargs = #[c]:=by rw[<-Array.toList_inj,hc]
  subst hc';exact⟨c,rfl,by simpa using h2 0 _ rfl⟩
 cases hk:sl.k with
 |none=>
  rw[hk]at o3
  rcases o3 with ⟨v1,v2⟩|⟨v1,v2⟩
  refine nothing (by rw[hws]at v2;simpa using v2) λW g cargs hR =>?_
  obtain⟨c,rfl,hc⟩:=one hR;rw[v1]at hc;cases hc;exact⟨_,_,rfl⟩;have v3:=v2 trivial;refine nothing (by rw[hws]at v3;simpa using v3) λW g cargs hR =>?_
  obtain⟨c,rfl,hc⟩:=one hR;rw[v1.1,v3]at hc
  cases hc with
  |slnil=>exact⟨_,_,rfl⟩
  |sle _ _ a cap hf=>exact⟨_,_,rfl⟩
  |sl _ _ _ b o cap c=>exact⟨_,_,rfl⟩
 |some i=>
  rw[hk]at o3;obtain⟨ver,cp,v1,v2⟩:=o3;have hi:=(Qaa.1 v2).1;rw[hws]at v2;have hh:=ywt (P:=P) (f:=f) (ty:=ty) hent hcon (lv:=lv) (E:=E) (n:=sl.ws.length) v2 hlen (by rw[hws];simp);rw[<-v1]at hh;refine hh.mono λo H' ⟨e1,e2⟩ =>?_
  subst e1;subst e2
  obtain⟨l1,l2⟩:=left (L.set i (some (.arr ver ty 1 ((z27 xs).map V.str) cp))) ⟨sl.v,sl.k,(z27 xs).map V.str,[]⟩ rfl rfl rfl rfl (λj hj=>Qam (hj i hk)) (by simp) (by
   simp only[hk]
   exact⟨ver,cp,by rw[v1,hws];simp[hsl],by simp[hi,Dat.len]⟩)
  exact⟨_,[⟨sl.v,sl.k,(z27 xs).map V.str,[]⟩],rfl,l1,l2,[],rfl,(by simp only[VRL]:VRL D [⟨sl.v,sl.k,(z27 xs).map V.str,[]⟩] lv [] [])⟩
theorem yye{P D}{f ty:Nat}(hent:∀args W,(callFunc f args).run P W = .ok (.enter f args) W)
  (hcon:∀(blk cap:Nat) (ss:List B8) (w:World),Holds encStr w blk 0 ss.toArray->blk<w.heap.size->ss.length<4611686018427387904 ->
   Calls P f #[.slice (some ⟨blk,0,none⟩) ss.length cap] w λe w'=>e = .returned (.tuple #[])∧∃n os,w'=grow (putRow encStr (Sort.ahead w n) blk 0 (ss.mergeSort λx y=>decide (x<=y)).toArray) os)
  (hnone:∀(p:Option Addr) (cap:Nat) (w:World),Calls P f #[.slice p 0 cap] w λe w'=>e = .returned (.tuple #[])∧w'=w) :
  FOk P (yp1 D f ty λ_ xs=>if xs.length<4611686018427387904 then some (z27 xs)else none):=λn R x k kp r h=>by
 have h:((if x.1.length<4611686018427387904 then some (z27 x.1)else none).bind λr=>k (r,()))=some r:=h;obtain⟨r0,h1,h2⟩:=zpd h;split at h1;rename_i hlen;cases h1;exact .inl ⟨(z27 x.1,()),h2,yt7 hent hcon hnone x.1 hlen _ n⟩;cases h1
end Go.Ab
namespace Go.Ab
open Go
def ype(x:B8):List B8->List B8
 |[]=>[x]
 |y::l=>if decide (x<=y)=true then x::y::l else y::ype x l
def yky:List B8->List B8
 |[]=>[]
 |x::l=>ype x (yky l)
theorem y4p(x):∀l,(ype x l).Perm (x::l)
 |[]=>.refl _
 |y::l=>by
  unfold ype;split;exact .refl _
  ·exact((y4p x l).cons y).trans (.swap x y l)
theorem ya3:∀l,(yky l).Perm l
 |[]=>.refl _
 |x::l=>(y4p x _).trans ((ya3 l).cons x)
theorem ywk(x y:B8):(decide (x<=y)||decide (y<=x))=true:=by
 grind
theorem yns(x):∀l,l.Pairwise (λx y=>decide (x<=y)=true)->(ype x l).Pairwise λx y=>decide (x<=y)=true
 |[],_=>by simp[ype]
 |y::l,h=>by
  have ih:=yns x l (List.pairwise_cons.1 h).2;unfold ype;split;rename_i hxy;refine List.pairwise_cons.2 ⟨λz hz =>?_,h⟩
  rcases Qbi.1 hz with rfl|hz
  exact hxy;have:=(List.pairwise_cons.1 h).1 z hz;exact Qbp (List.le_trans (Qac hxy) (Qac this));refine List.pairwise_cons.2 ⟨λz hz =>?_,ih⟩
  rcases Qbi.1 ((y4p x l).mem_iff.1 hz)with rfl|hz
  have:=ywk z y;rw[Bool.or_eq_true]at this
  grind
  simp_all
theorem ygj:∀l,(yky l).Pairwise λx y=>decide (x<=y)=true
 |[]=>.nil
 |x::l=>yns x _ (ygj l)
theorem ybt(l):yky l=z27 l:=by
 refine List.Perm.eq_of_pairwise (le:=λx y=>decide (x<=y)=true) (λa b _ _ h1 h2=>List.le_antisymm (Qac h1) (Qac h2)) (ygj l) ?_ ((ya3 l).trans (zc7 l).symm);exact List.pairwise_mergeSort (le:=λx y=>decide (x<=y)) (λa b c h1 h2=>Qbp (List.le_trans (Qac h1) (Qac h2))) ywk l
end Go.Ab
namespace Go.Ab
open Go Go.RowKit Go.Sort Go.Proofs
set_option linter.unusedVariables false
set_option linter.unusedSimpArgs false
theorem y5z(xs:List B8):(Lib.compact xs).length<=xs.length:=by
 grind[Lib.compact,Lib.compactUpTo]
theorem Heap.ym6{lv k}{L:List (Option kze)}{E o o'}(h:L[k]? = some (some o)):Heap.get ⟨lv,L.set k (some o'),E⟩ lv k=some o':=by
 grind[Heap.get]
theorem ylf{P:Program}{f ty:Nat}(hent:∀args W,(callFunc f args).run P W = .ok (.enter f args) W)
  (hcon:∀(blk cap:Nat) (zs:List B8) (w:World),Holds encStr w blk 0 zs.toArray->zs.length<=9223372036854775807->zs.length<=cap ->
   Calls P f #[.slice (some ⟨blk,0,none⟩) zs.length cap] w λe w'=>e = .returned (.slice (some ⟨blk,0,none⟩) (Lib.compact zs).length cap)∧∃q,w'=putRow encStr (Sort.ahead w q) blk 0 (Lib.compact zs++List.replicate (zs.length-(Lib.compact zs).length) []).toArray)
  {lv k ver n:Nat} {L:List (Option kze)}{E:Nat->Nat->Option kze}{xs:List B8}{cp:Option Nat}(hL:L[k]? = some (some (.arr ver ty 1 (xs.map V.str) cp))) (hlen:xs.length<=9223372036854775807) (hn:n=xs.length) :
  zn5 P f [.hs lv k ver 0 n false] ⟨lv,L,E⟩ λo H'=>o = .ret (.hs lv k (ver+1) 0 (Lib.compact xs).length false)∧H'=⟨lv,L.set k (some (.arr (ver+1) ty 1 ((Lib.compact xs).map V.str) cp)),E⟩:=by
 intro W g cargs hG hR;have hg:(⟨lv,L,E⟩:Heap).get lv k=some (.arr ver ty 1 (xs.map V.str) cp):=by simp[Heap.get,hL]
 obtain⟨x,rfl,h0⟩:∃x,cargs = #[x]∧Rel W g ⟨lv,L,E⟩ (.hs lv k ver 0 n false) x:=by
  obtain⟨h1,h2⟩:=hR;have hsz:cargs.toList.length=1:=by simpa using h1
  obtain⟨c,hc⟩:=List.length_eq_one_iff.1 hsz;have hc':cargs = #[c]:=by rw[<-Array.toList_inj,hc]
  subst hc';exact⟨c,rfl,by simpa using h2 0 _ rfl⟩
 refine⟨hent _ _,?_⟩
 cases h0 with
 |hs _ _ _ _ _ _ a m cap hd hv ha=>
  obtain⟨rfl,rfl,⟨a1,a2,_⟩,a3⟩:=ha _ _ _ _ hg;obtain⟨cur,k1,k2,k3,k3',k4,k5,k6,k7,k8⟩:=hG.obj _ _ _ hg;rw[Qbc]at k4
  have hH:Holds encStr W (g.ab lv k) 0 xs.toArray:=λj hj=>by
   have hj':j<xs.length:=by simpa using hj
   have e1:(xs.map V.str)[j]? = some (.str xs[j]):=by rw[Qan,Qab hj'];rfl
   have e2:=k8 j _ 0 (.str xs[j]) e1 rfl;have hlt:j<cur.size:=by rw[k3];omega
   refine⟨?_,by simp[World.frozen?,k1]⟩;rw[getElem!_pos xs.toArray j hj]
   cases e2h:cur.getD (j * 1+0) undef with
   |string s=>
    rw[e2h]at e2;cases e2;rw[Qae]at e2h;rw[show j * 1+0=j by omega,Qas hlt]at e2h;simp only[Option.getD_some]at e2h
    simp[World.cell?,k1,hlt,e2h,encStr]
   |_=>rw[e2h]at e2;cases e2
  have hb:g.ab lv k<W.heap.size:=(Qbk.1 k1).1;have hcl:=y5z xs;have hc:=hcon (g.ab lv k) cap xs W hH hlen (by omega);subst hn;refine hc.mono ?_
  rintro e W' ⟨rfl,nn,rfl⟩
  generalize hrow:Lib.compact xs++List.replicate (xs.length-(Lib.compact xs).length) []=row;have hrl:row.length=xs.length:=by rw[<-hrow];simp;omega
  have hheap:(putRow encStr (Sort.ahead W nn) (g.ab lv k) 0 row.toArray).heap=W.heap.modify (g.ab lv k) (onCells (Go.Sort.putCells encStr 0 row.toArray)):=rfl
  have hW':(putRow encStr (Sort.ahead W nn) (g.ab lv k) 0 row.toArray).heap[g.ab lv k]? = some (.cells (Go.Sort.putCells encStr 0 row.toArray cur) ty (0,0)):=by
   rw[hheap,Qca,Qbt rfl,k1];rfl
  have hcur:∀j (hj:j<(Lib.compact xs).length),(Go.Sort.putCells encStr 0 row.toArray cur).getD (j * 1+0) undef = .string ⟨((Lib.compact xs)[j]).toArray⟩:=λj hj=>by
   have hlt2:j * 1+0<cur.size:=by rw[k3];omega
   rw[Qae,Go.Sort.putCells,Array.getElem?_mapIdx,Qas hlt2];simp only[Qbn,Option.getD_some,Nat.sub_zero];rw[Qbt ⟨Qbr _,by simp;omega⟩,getElem!_pos row.toArray _ (by simp;omega)];simp[encStr,<-hrow,List.getElem_append_left hj]
  have hys:∀(j:Nat) (x:V),((Lib.compact xs).map V.str)[j]? = some x->∃hj:j<(Lib.compact xs).length,x = .str (Lib.compact xs)[j]:=λj x hj=>by
   rw[Qan,Qaf]at hj;obtain⟨y,hy,rfl⟩:=hj;obtain⟨h1,h2⟩:=Qaa.1 hy;exact⟨h1,by rw[h2]⟩
  obtain⟨q1,q2⟩:=ze3 (W':=putRow encStr (Sort.ahead W nn) (g.ab lv k) 0 row.toArray) hG (o':=.arr (ver+1) ty 1 ((Lib.compact xs).map V.str) cp) hg rfl rfl rfl rfl (by rw[hheap];simp) (λb hb1 hb2=>by
    rw[hheap,Qca,Qbu (λh=>hb2 h.symm)])
   (λver' ty' sz' zs cp' he=>by injection he with e1 e2 e3 e4 e5;subst e1;subst e2;subst e3;subst e4;exact⟨_,_,_,rfl,Nat.le_succ _,λh=>by omega⟩) (λhst=>by
   refine⟨_,hW',by decide,by rw[Go.Sort.putCells,Array.size_mapIdx];exact k3,k3',by rw[Qbc];omega,k5,λj x hj =>?_,λj x t v hj htv =>?_,λj x t v hj htv =>?_⟩;obtain⟨_,rfl⟩:=hys j x hj;rfl;obtain⟨hj',rfl⟩:=hys j x hj
   have ht:t=0:=by
    cases t with
    |zero=>rfl
    |succ t=>simp[V.cells]at htv
   subst ht;rw[hcur j hj'];rfl;obtain⟨hj',rfl⟩:=hys j x hj
   have ht:t=0:=by
    cases t with
    |zero=>rfl
    |succ t=>simp[V.cells]at htv
   subst ht;simp[V.cells]at htv;subst htv;rw[hcur j hj']
   exact .str _)
  simp only[Heap.set,Qbt]at q1 q2;refine⟨.ret (.hs lv k (ver+1) 0 (Lib.compact xs).length false),_,g,⟨rfl,rfl⟩,q1,q2,_,rfl,.hs _ _ _ _ _ _ _ _ _ hd (λv ty sz ys cp' hg' =>?_) λty sz ys cp' hg' =>?_⟩;rw[Heap.ym6 hL]at hg';injection hg' with hg';injection hg' with e1;omega;rw[Heap.ym6 hL]at hg';injection hg' with hg';injection hg' with e1 e2 e3 e4 e5;subst e3;subst e4
  exact⟨rfl,rfl,⟨by omega,a2,λh=>by cases h⟩,by simp⟩
abbrev zru(xs:List B8):List B8:=Lib.compact xs
def y51(D)(f ty:Nat)(go:Nat->List B8->Option (List B8)):FI D :=
 {R:=List B8,ent:=λn=>{f:=f,p:=0,args:=[.own 0],aos:=[.acc ty .str true],outs:=[.own 0],ros:=[.acc ty .str true],pan:=.nilp,pos:=[.acc ty .str true],pure:=false,go:=λx k _=>(go n x.1).bind λr=>k (r,())},
   c:=.skip,K:=⟨λ_=>none,[],λ_=>none,λ_ _=>none⟩,p:=0,args:=[],aos:=[],nt:=0,z0m:=λ_=>[],go:=λ_ _=>none}
theorem yjv{P:Program}{D:Dat}{f ty:Nat}(hent:∀args W,(callFunc f args).run P W = .ok (.enter f args) W)
  (hcon:∀(blk cap:Nat) (zs:List B8) (w:World),Holds encStr w blk 0 zs.toArray->zs.length<=9223372036854775807->zs.length<=cap ->
   Calls P f #[.slice (some ⟨blk,0,none⟩) zs.length cap] w λe w'=>e = .returned (.slice (some ⟨blk,0,none⟩) (Lib.compact zs).length cap)∧∃q,w'=putRow encStr (Sort.ahead w q) blk 0 (Lib.compact zs++List.replicate (zs.length-(Lib.compact zs).length) []).toArray)
  (hnone:∀(p:Option Addr) (cap:Nat) (w:World),Calls P f #[.slice p 0 cap] w λe w'=>e = .returned (.slice p 0 cap)∧w'=w)
  (xs:List B8) (hlen:xs.length<=9223372036854775807) (go:Nat->List B8->Option (List B8)) (n:Nat):((y51 D f ty go).ent n).Flat P ((xs,()):HL D.T [.sl .str]) (.inl ((zru xs,()):HL D.T [.sl .str])):=λlv L E ρ0 vargs k1 k2 k3 k4 _=>by
 have k1:ρ0.length=1:=k1;obtain⟨sl,rfl⟩:=List.length_eq_one_iff.1 k1;have k2:VRL D [sl] lv [.own 0] vargs:=k2;simp only[VRL,VR]at k2;obtain⟨v,rr,rfl,⟨sl',e1,e2,e3⟩,rfl⟩:=k2;obtain rfl:sl=sl':=by simpa using e1
 subst e2;obtain⟨sl',e4,e5⟩:=k3 0 (.acc ty .str xs true) (Qak);obtain rfl:sl=sl':=by simpa using e4
 simp only[OR]at e5;obtain⟨o1,o2,o3⟩:=e5;have o1:sl.ws.length=xs.length:=o1;have o2:∀(j:Nat) (x:B8) (v:V),xs[j]? = some x->sl.ws[j]? = some v->DR D .str x v:=o2;have hws:=yr4 o1 o2;have hsl:=y5z xs
 have left:∀(L':List (Option kze)) (sl':Slot),sl'.k=sl.k->sl'.fp=[]->sl'.ws=(zru xs).map V.str->(∀i,(∀j,sl.k=some j->j≠i)->L'[i]? = L[i]?)->L'.length=L.length ->
   (match sl'.k with
   |none=>(sl'.v = .nils∧sl'.ws=[])∨((sl'.v = .sl (D.len .str) sl'.ws true∧DTy.str ≠ .int .u8)∧(True->sl'.ws=[]))
   |some i=>∃ver cp,sl'.v = .hs lv i ver 0 sl'.ws.length false∧L'[i]? = some (some (.arr ver ty (D.len .str) sl'.ws cp))) ->
   Left D lv L [sl] 0 L' [sl'] [.acc ty .str true] ((zru xs,()):HL D.T [.sl .str]):=λL' sl' a2 a0 a3 a4 a5 a6=>by
  refine⟨rfl,λj o hm =>?_,λs s' t t' i r1 r2 _ _ =>?_,λs t i r1 c1 =>?_,λi hi hno =>?_,λj t hj=>absurd hj (Nat.not_lt_zero _),λs t i r1 c1 =>?_⟩;have hm:(j,o)∈[(0,(TO.acc ty .str (zru xs) true:TO D.T))]:=hm;simp only[Qbb,Qbv]at hm;obtain⟨rfl,rfl⟩:=hm;refine⟨sl',rfl,?_⟩;simp only[OR];refine⟨by rw[a3];exact Qbc _,λj y v hy hv =>?_,a6⟩;have hy:(zru xs)[j]? = some y:=hy
  rw[a3,Qan,hy]at hv;injection hv with hv;subst hv;exact .str _;have l1:=(Qaa.1 r1).1;have l2:=(Qaa.1 r2).1;simp at l1 l2;omega;have l1:=(Qaa.1 r1).1;have:s=0:=by simp at l1;omega
  subst this;obtain rfl:sl'=t:=by simpa using r1
  exact .inr ⟨0,sl,rfl,.inl (by rw[<-a2];exact Slot.y1h a0 c1)⟩;refine⟨by rw[a5];exact hi,a4 i λj hj hji=>hno 0 sl rfl (.inl (by rw[hj,hji]))⟩;have l1:=(Qaa.1 r1).1;have:s=0:=by simp at l1;omega
  subst this;obtain rfl:sl'=t:=by simpa using r1
  rw[a0]at c1;cases c1
 have one:∀{W:World}{g:Gh}{cargs:Array Value},zjv W g ⟨lv,L,E⟩ [sl.v] cargs->∃c,cargs = #[c]∧Rel W g ⟨lv,L,E⟩ sl.v c:=λ{W g cargs} hR=>by
  obtain⟨h1,h2⟩:=hR;have hsz:cargs.toList.length=1:=by simpa using h1
  obtain⟨c,hc⟩:=List.length_eq_one_iff.1 hsz;have hc':cargs = #[c]:=by rw[<-Array.toList_inj,hc]
  subst hc';exact⟨c,rfl,by simpa using h2 0 _ rfl⟩
 have nothing:xs=[]->(∀W g cargs,zjv W g ⟨lv,L,E⟩ [sl.v] cargs->∃p cap,cargs = #[.slice p 0 cap])->zn5 P f [sl.v] ⟨lv,L,E⟩ λout H'=>∃L' ρ',H'=⟨lv,L',E⟩∧(Left D lv L [sl] 0 L' ρ' [.acc ty .str true] ((zru xs,()):HL D.T [.sl .str])∧((∀q∈([]:List (Nat×Nat)),∀s0,[sl][q.1]? = some s0->∃s1,ρ'[q.2]? = some s1∧s1.v=s0.v)∧y5k L L' [sl] [])∧∃vs,out = .ret (z9c vs)∧VRL D ρ' lv [.own 0] vs):=λhx hc W g cargs hG hR=>by
  obtain⟨p,cap,rfl⟩:=hc W g cargs hR;obtain⟨c,hc1,hc2⟩:=one hR;refine⟨hent _ _,(hnone p cap W).mono ?_⟩
  rintro e W' ⟨rfl,rfl⟩
  have hs:zru xs=[]:=Qao (by rw[hx]at hsl ⊢;simpa using hsl);have l1:=left L ⟨sl.v,sl.k,sl.ws,[]⟩ rfl rfl (by show sl.ws=_;rw[hs,hws,hx]) (λ_ _=>rfl) rfl o3;refine⟨.ret sl.v,⟨lv,L,E⟩,g,⟨L,[⟨sl.v,sl.k,sl.ws,[]⟩],rfl,l1,⟨(λq hq=>by cases hq),.nil⟩,[sl.v],rfl,?_⟩,.refl _ _ _,hG,_,rfl,?_⟩;simp only[VRL,VR];exact⟨sl.v,[],rfl,⟨_,rfl,rfl,e3⟩,rfl⟩
  have:(#[Value.slice p 0 cap]:Array Value) = #[c]:=hc1;rw[show Value.slice p 0 cap=c by simpa using this];exact hc2
 cases hk:sl.k with
 |none=>
  rw[hk]at o3
  rcases o3 with ⟨v1,v2⟩|⟨v1,v2⟩
  refine nothing (by rw[hws]at v2;simpa using v2) λW g cargs hR =>?_
  obtain⟨c,rfl,hc⟩:=one hR;rw[v1]at hc;cases hc;exact⟨_,_,rfl⟩;have v3:=v2 trivial;refine nothing (by rw[hws]at v3;simpa using v3) λW g cargs hR =>?_
  obtain⟨c,rfl,hc⟩:=one hR;rw[v1.1,v3]at hc
  cases hc with
  |slnil=>exact⟨_,_,rfl⟩
  |sle _ _ a cap hf=>exact⟨_,_,rfl⟩
  |sl _ _ _ b o cap c=>exact⟨_,_,rfl⟩
 |some i=>
  rw[hk]at o3;obtain⟨ver,cp,v1,v2⟩:=o3;have hi:=(Qaa.1 v2).1;rw[hws]at v2;have hh:=ylf (P:=P) (f:=f) (ty:=ty) hent hcon (lv:=lv) (E:=E) (n:=sl.ws.length) v2 hlen (by rw[hws];simp);rw[<-v1]at hh;refine hh.mono λo H' ⟨e1,e2⟩ =>?_
  subst e1;subst e2;have l1:=left (L.set i (some (.arr (ver+1) ty 1 ((zru xs).map V.str) cp))) ⟨.hs lv i (ver+1) 0 (zru xs).length false,some i,(zru xs).map V.str,[]⟩ hk.symm rfl rfl (λj hj=>Qam (hj i hk)) (by simp) ⟨ver+1,cp,by simp,by simp[hi,Dat.len]⟩
  refine⟨_,[⟨.hs lv i (ver+1) 0 (zru xs).length false,some i,(zru xs).map V.str,[]⟩],rfl,l1,⟨(λq hq=>by cases hq),.nil⟩,[.hs lv i (ver+1) 0 (zru xs).length false],rfl,?_⟩;show VRL D _ lv [.own 0] _;simp only[VRL,VR];exact⟨_,[],rfl,⟨_,rfl,rfl,rfl⟩,rfl⟩
theorem ypc{P D}{f ty:Nat}(hent:∀args W,(callFunc f args).run P W = .ok (.enter f args) W)
  (hcon:∀(blk cap:Nat) (zs:List B8) (w:World),Holds encStr w blk 0 zs.toArray->zs.length<=9223372036854775807->zs.length<=cap ->
   Calls P f #[.slice (some ⟨blk,0,none⟩) zs.length cap] w λe w'=>e = .returned (.slice (some ⟨blk,0,none⟩) (Lib.compact zs).length cap)∧∃q,w'=putRow encStr (Sort.ahead w q) blk 0 (Lib.compact zs++List.replicate (zs.length-(Lib.compact zs).length) []).toArray)
  (hnone:∀(p:Option Addr) (cap:Nat) (w:World),Calls P f #[.slice p 0 cap] w λe w'=>e = .returned (.slice p 0 cap)∧w'=w) :
  FOk P (y51 D f ty λ_ xs=>if xs.length<=9223372036854775807 then some (zru xs)else none):=λn R x k kp r h=>by
 have h:((if x.1.length<=9223372036854775807 then some (zru x.1)else none).bind λr=>k (r,()))=some r:=h;obtain⟨r0,h1,h2⟩:=zpd h;split at h1;rename_i hlen;cases h1;exact .inl ⟨(zru x.1,()),h2,yjv hent hcon hnone x.1 hlen _ n⟩;cases h1
end Go.Ab
namespace Go.Ab
open Go
set_option linter.unusedVariables false
set_option linter.unusedSimpArgs false
theorem zq8:∀a:B8,Op.bytesLess a a=false
 |[]=>rfl
 |x::a=>by simp[Op.bytesLess,zq8 a]
theorem y3b:∀{a b c},Op.bytesLess a b=true->Op.bytesLess b c=true->Op.bytesLess a c=true
 |_,[],_,h,_=>by simp[Op.bytesLess]at h
 |_,_::_,[],_,h=>by simp[Op.bytesLess]at h
 |[],_::_,_::_,_,_=>by simp[Op.bytesLess]
 |x::a,y::b,z::c,h1,h2=>by
  simp[Op.bytesLess,Qbj]at h1 h2 ⊢
  rcases h1 with h1|⟨rfl,h1⟩
  rcases h2 with h2|⟨rfl,h2⟩
  grind
  exact .inl h1
  rcases h2 with h2|⟨rfl,h2⟩
  exact .inl h2;exact .inr ⟨rfl,y3b h1 h2⟩
theorem zrn:∀{a b},Op.bytesLess a b=false->Op.bytesLess b a=false->a=b
 |[],[],_,_=>rfl
 |[],_::_,h,_=>by simp[Op.bytesLess]at h
 |_::_,[],_,h=>by simp[Op.bytesLess]at h
 |x::a,y::b,h1,h2=>by
  simp[Op.bytesLess,beq_eq_false_iff_ne]at h1 h2;have hxy:x=y:=UInt8.toNat_inj.1 (by grind);subst hxy;have e1:Op.bytesLess a b=false:=by grind
  have e2:Op.bytesLess b a=false:=by grind
  rw[zrn e1 e2]
theorem yn7{a b}(h:Op.bytesLess a b=true):Op.bytesLess b a=false:=by
 grind[y3b,zq8]
theorem ytn{a b c}(h1:Op.bytesLess a b=false)(h2:Op.bytesLess b c=false):Op.bytesLess a c=false:=by
 grind[zrn,y3b]
theorem ynl(x y):decide (x<=y) = !Op.bytesLess y x:=by
 grind[Go.Proofs.bytesLess_eq]
def z9l(l:List B8):Prop:=l.Pairwise λx y=>Op.bytesLess x y=true
theorem zp6:∀{l m},z9l l->z9l m->(∀x,x∈l↔x∈m)->l=m
 |[],[],_,_,_=>rfl
 |[],y::m,_,_,h=>by grind[Qak]
 |x::l,[],_,_,h=>by grind[Qak]
 |x::l,y::m,h1,h2,h=>by
  have a1:=List.pairwise_cons.1 h1;have a2:=List.pairwise_cons.1 h2
  have hxy:x=y:=by
   grind[Qak,yn7]
  subst hxy;refine congrArg (x :: ·) (zp6 a1.2 a2.2 λz=>⟨λhz =>?_,λhz =>?_⟩)
  grind[zq8]
  grind[zq8]
theorem zsy{l}(h:l.Nodup):z9l (z27 l):=by
 grind[z27,List.pairwise_mergeSort,ynl,zc7,z9l,List.Pairwise.imp₂,zrn]
def ins:List B8->B8->List B8
 |[],s=>[s]
 |x::l,s=>if Op.bytesLess x s then x::ins l s else if x=s then x::l else s::x::l
theorem y37(s):∀(l) (z),z∈ins l s↔z∈l∨z=s
 |[],z=>by simp[ins]
 |x::l,z=>by
  rw[ins];split;rw[Qbi,Qbi,y37 s l z,or_assoc];split;rename_i h;subst h;constructor;exact .inl
  rintro (h|rfl)
  exact h
  grind
  grind
theorem zsq{s}:∀{l},z9l l->z9l (ins l s)
 |[],_=>by simp[ins,z9l]
 |x::l,h=>by
  have a:=List.pairwise_cons.1 h;rw[ins];split;rename_i hx;refine List.pairwise_cons.2 ⟨λz hz =>?_,zsq a.2⟩
  rcases(y37 s l z).1 hz with hz|rfl
  exact a.1 z hz;exact hx;split;exact h
  have hs:Op.bytesLess s x=true:=by
   grind[zrn]
  refine List.pairwise_cons.2 ⟨λz hz =>?_,h⟩
  rcases Qbi.1 hz with rfl|hz
  exact hs;exact y3b hs (a.1 z hz)
theorem y2h(s):∀l:List B8,(ins l s).length<=l.length+1
 |[]=>by simp[ins]
 |x::l=>by
  have:=y2h s l
  grind[ins]
theorem yxp(s):∀l:List B8,ins l s=if (l.dropWhile (λx=>Op.bytesLess x s)).head?=some s then l else l.takeWhile (λx=>Op.bytesLess x s)++s::l.dropWhile (λx=>Op.bytesLess x s)
 |[]=>by simp[ins]
 |x::l=>by
  rw[ins];cases h:Op.bytesLess x s
  grind[List.dropWhile_cons_of_neg,List.takeWhile_cons_of_neg]
  rw[List.dropWhile_cons_of_pos (by simp[h]),List.takeWhile_cons_of_pos (by simp[h]),Qbt rfl,yxp s l];split <;> rfl
end Go.Ab
namespace Go.Ab
open Go Go.RowKit
set_option linter.unusedVariables false
set_option linter.unusedSimpArgs false
end Go.Ab
