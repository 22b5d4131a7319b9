/-
  slices.Sort OF STRINGS ON A SLICE OF OURS, out of a zhu of the kit's kind.
-/
import Derived.Test.YtdcbdnediadfcaaLib9
import Derived.Shelf.Sort.Plain
import Derived.Test.YtdcbdnediadfcaaLib2
import Derived.Test.YtdcbdnediadfcaaLib1
import Derived.Lib.Bytealg
import Derived.Laws.RangeAny
import Derived.Test.YtdcbdnediadfcaaLib4
import Derived.Sort.Walk0
namespace Go.Ab
open Go Go.RowKit Go.Sort Go.Proofs
set_option linter.unusedVariables false
set_option linter.unusedSimpArgs false
def z0o(ss:List B8):List B8:=ss.mergeSort λx y=>decide (x<=y)
theorem zbj(ss:List B8):(z0o ss).Perm ss:=List.mergeSort_perm _ _
theorem y5p{P:Program}{f ty:Nat}(hent:∀args W,(callFunc f args).run P W = .ok (.enter f args) W)
  (hcon:∀(blk cap:Nat) (ss:List B8) (w:World),Holds encStr w blk 0 ss.toArray->blk<w.heap.size->ss.length<4611686018427387904 ->
   Calls P f #[.slice (some ⟨blk,0,none⟩) ss.length cap] w λe w'=>e = .returned (.tuple #[])∧∃n os,w'=grow (putRow encStr (Sort.ahead w n) blk 0 (ss.mergeSort λx y=>decide (x<=y)).toArray) os)
  {lv k ver n:Nat} {L:List (Option yz4)}{E:Nat->Nat->Option yz4}{xs:List B8}{cp:Option Nat}(hL:L[k]? = some (some (.arr ver ty 1 (xs.map V.str) cp))) (hlen:xs.length<4611686018427387904) (hn:n=xs.length) :
  zkz P f [.hs lv k ver 0 n false] ⟨lv,L,E⟩ λo H'=>o = .ret (.tup [])∧H'=⟨lv,L.set k (some (.arr ver ty 1 ((z0o xs).map V.str) cp)),E⟩:=by
 intro W g cargs hG hR;have hg:(⟨lv,L,E⟩:zz2).get lv k=some (.arr ver ty 1 (xs.map V.str) cp):=by simp[zz2.get,hL]
 obtain⟨x,rfl,h0⟩:∃x,cargs = #[x]∧Rel W g ⟨lv,L,E⟩ (.hs lv k ver 0 n false) x:=by
  obtain⟨h1,h2⟩:=hR;have hsz:cargs.toList.length=1:=by simpa using h1
  obtain⟨c,hc⟩:=List.length_eq_one_iff.1 hsz;have hc':cargs = #[c]:=by rw[<-Array.toList_inj,hc]
  subst hc';exact⟨c,rfl,by simpa using h2 0 _ rfl⟩
 refine⟨hent _ _,?_⟩
 cases h0 with
 |hs _ _ _ _ _ _ a m cap hd hv ha=>
  obtain⟨rfl,rfl,⟨a1,a2,_⟩,a3⟩:=ha _ _ _ _ hg;obtain⟨cur,k1,k2,k3,k3',k4,k5,k6,k7,k8⟩:=hG.obj _ _ _ hg;rw[List.length_map]at k4
  have hH:Holds encStr W (g.ab lv k) 0 xs.toArray:=λj hj=>by
   have hj':j<xs.length:=by simpa using hj
   have e1:(xs.map V.str)[j]? = some (.str xs[j]):=by rw[Qan,Qab hj'];rfl
   have e2:=k8 j _ 0 (.str xs[j]) e1 rfl;have hlt:j<cur.size:=by rw[k3];omega
   refine⟨?_,by simp[World.frozen?,k1]⟩;rw[getElem!_pos xs.toArray j hj]
   cases e2h:cur.getD (j * 1+0) undef with
   |string s=>
    rw[e2h]at e2;cases e2;rw[Qae]at e2h;rw[show j * 1+0=j by omega,Qas hlt]at e2h;simp only[Option.getD_some]at e2h
    simp[World.cell?,k1,hlt,e2h,encStr]
   |_=>rw[e2h]at e2;cases e2
  have hb:g.ab lv k<W.heap.size:=(Qbk.1 k1).1;have hc:=hcon (g.ab lv k) cap xs W hH hb hlen;have hsp:=zbj xs;have hsl:(z0o xs).length=xs.length:=hsp.length_eq;subst hn;refine hc.mono ?_
  rintro e W' ⟨rfl,nn,os,rfl⟩
  have hheap:(grow (putRow encStr (Sort.ahead W nn) (g.ab lv k) 0 (z0o xs).toArray) os).heap=W.heap.modify (g.ab lv k) (onCells (Go.Sort.putCells encStr 0 (z0o xs).toArray))++os:=rfl
  have hW':(grow (putRow encStr (Sort.ahead W nn) (g.ab lv k) 0 (z0o xs).toArray) os).heap[g.ab lv k]? = some (.cells (Go.Sort.putCells encStr 0 (z0o xs).toArray cur) ty (0,0)):=by
   rw[hheap,Array.getElem?_append_left (by simpa using hb),Array.getElem?_modify,Qbr rfl,k1];rfl
  have hcur:∀j (hj:j<(z0o xs).length),(Go.Sort.putCells encStr 0 (z0o xs).toArray cur).getD (j * 1+0) undef = .string ⟨((z0o xs)[j]).toArray⟩:=λj hj=>by
   have hlt2:j * 1+0<cur.size:=by rw[k3];omega
   rw[Qae,Go.Sort.putCells,Array.getElem?_mapIdx,Qas hlt2];simp only[Qbn,Option.getD_some,Nat.sub_zero];rw[Qbr ⟨Qbp _,by simp;omega⟩,getElem!_pos (z0o xs).toArray _ (by simp;omega)];simp[encStr]
  have hys:∀(j:Nat) (x:V),((z0o xs).map V.str)[j]? = some x->∃hj:j<(z0o xs).length,x = .str (z0o xs)[j]:=λj x hj=>by
   rw[Qan,Qaf]at hj;obtain⟨y,hy,rfl⟩:=hj;obtain⟨h1,h2⟩:=Qaa.1 hy;exact⟨h1,by rw[h2]⟩
  obtain⟨q1,q2⟩:=z5y (W':=grow (putRow encStr (Sort.ahead W nn) (g.ab lv k) 0 (z0o xs).toArray) os) hG (o':=.arr ver ty 1 ((z0o xs).map V.str) cp) hg rfl rfl rfl rfl (by rw[hheap];simp) (λb hb1 hb2=>by
    rw[hheap,Array.getElem?_append_left (by simpa using hb1),Array.getElem?_modify,Qbs (λh=>hb2 h.symm)])
   (λver ty sz zs cp' he=>by injection he with e1 e2 e3 e4 e5;subst e1;subst e2;subst e3;subst e4;exact⟨_,_,_,rfl,Qbq _,λ_=>by simp[hsl]⟩) (λhst=>by
   refine⟨_,hW',by decide,by rw[Go.Sort.putCells,Array.size_mapIdx];exact k3,k3',by rw[List.length_map,hsl];exact k4,k5,λj x hj =>?_,λj x t v hj htv =>?_,λj x t v hj htv =>?_⟩;obtain⟨_,rfl⟩:=hys j x hj;rfl;obtain⟨hj',rfl⟩:=hys j x hj
   have ht:t=0:=by
    cases t with
    |zero=>rfl
    |succ t=>simp[V.cells]at htv
   subst ht;rw[hcur j hj'];rfl;obtain⟨hj',rfl⟩:=hys j x hj
   have ht:t=0:=by
    cases t with
    |zero=>rfl
    |succ t=>simp[V.cells]at htv
   subst ht;simp[V.cells]at htv;subst htv;rw[hcur j hj']
   exact .str _)
  refine⟨.ret (.tup []),_,g,⟨rfl,rfl⟩,?_,?_,_,rfl,.tup [] #[] rfl (by simp)⟩;have:=q1;simp only[zz2.set,Qbr]at this;exact this;have:=q2;simp only[zz2.set,Qbr]at this;exact this
def zxv(D:Dat)(f ty:Nat)(go:Nat->List B8->Option (List B8)):FI D :=
 {R:=List B8,ent:=λn=>{f:=f,p:=0,args:=[.own 0],aos:=[.acc ty .str true],outs:=[],ros:=[.acc ty .str true],pan:=.nilp,pos:=[.acc ty .str true],pure:=false,go:=λx k _=>(go n x.1).bind λr=>k (r,()),ren:=[(0,0)]},
   c:=.skip,K:=⟨λ_=>none,[],λ_=>none,λ_ _=>none⟩,p:=0,args:=[],aos:=[],nt:=0,z16:=λ_=>[],go:=λ_ _=>none}
theorem y81{D:Dat}{xs:List B8}{ws:List V}(hl:ws.length=xs.length)(h:∀(j:Nat) (x:B8) (v:V),xs[j]? = some x->ws[j]? = some v->DR D .str x v):ws=xs.map V.str:=by
 refine List.ext_getElem? λj =>?_
 rw[Qan]
 cases hx:xs[j]? with
 |none=>
  rw[List.getElem?_eq_none_iff]at hx;simp only[Option.map_none]
  rw[List.getElem?_eq_none_iff];omega
 |some x=>
  have hlt:=(Qaa.1 hx).1;have hw:ws[j]? = some ws[j]:=Qab (by omega);have:=h j x _ hx hw;rw[hw]
  cases hv:ws[j]with
  |str s=>rw[hv]at this;cases this;rfl
  |_=>rw[hv]at this;cases this
theorem y0j{P:Program}{D:Dat}{f ty:Nat}(hent:∀args W,(callFunc f args).run P W = .ok (.enter f args) W)
  (hcon:∀(blk cap:Nat) (ss:List B8) (w:World),Holds encStr w blk 0 ss.toArray->blk<w.heap.size->ss.length<4611686018427387904 ->
   Calls P f #[.slice (some ⟨blk,0,none⟩) ss.length cap] w λe w'=>e = .returned (.tuple #[])∧∃n os,w'=grow (putRow encStr (Sort.ahead w n) blk 0 (ss.mergeSort λx y=>decide (x<=y)).toArray) os)
  (hnone:∀(p:Option Addr) (cap:Nat) (w:World),Calls P f #[.slice p 0 cap] w λe w'=>e = .returned (.tuple #[])∧w'=w)
  (xs:List B8) (hlen:xs.length<4611686018427387904) (go:Nat->List B8->Option (List B8)) (n:Nat):((zxv D f ty go).ent n).Flat P ((xs,()):HL D.T [.sl .str]) (.inl ((z0o xs,()):HL D.T [.sl .str])):=λlv L E ρ0 vargs k1 k2 k3 k4 _=>by
 have k1:ρ0.length=1:=k1;obtain⟨sl,rfl⟩:=List.length_eq_one_iff.1 k1;have k2:VRL D [sl] lv [.own 0] vargs:=k2;simp only[VRL,VR]at k2;obtain⟨v,rr,rfl,⟨sl',e1,e2,e3⟩,rfl⟩:=k2;obtain rfl:sl=sl':=by simpa using e1
 subst e2;obtain⟨sl',e4,e5⟩:=k3 0 (.acc ty .str xs true) (Qak);obtain rfl:sl=sl':=by simpa using e4
 simp only[OR]at e5;obtain⟨o1,o2,o3⟩:=e5;have o1:sl.ws.length=xs.length:=o1;have o2:∀(j:Nat) (x:B8) (v:V),xs[j]? = some x->sl.ws[j]? = some v->DR D .str x v:=o2;have hws:=y81 o1 o2;have hsl:(z0o xs).length=xs.length:=(zbj xs).length_eq
 have left:∀(L':List (Option yz4)) (sl':Slot),sl'.v=sl.v->sl'.k=sl.k->sl'.fp=[]->sl'.ws=(z0o xs).map V.str->(∀i,(∀j,sl.k=some j->j≠i)->L'[i]? = L[i]?)->L'.length=L.length ->
   (match sl'.k with
   |none=>(sl'.v = .nils∧sl'.ws=[])∨((sl'.v = .sl (D.len .str) sl'.ws true∧DTy.str ≠ .int .u8)∧(True->sl'.ws=[]))
   |some i=>∃ver cp,sl'.v = .hs lv i ver 0 sl'.ws.length false∧L'[i]? = some (some (.arr ver ty (D.len .str) sl'.ws cp))) ->
   Left D lv L [sl] 0 L' [sl'] [.acc ty .str true] ((z0o xs,()):HL D.T [.sl .str])∧((∀q∈[((0:Nat),(0:Nat))],∀s0,[sl][q.1]? = some s0->∃s1,[sl'][q.2]? = some s1∧s1.v=s0.v)∧zk8 L L' [sl] []):=λL' sl' a1 a2 a0 a3 a4 a5 a6=>by
  refine⟨⟨rfl,λj o hm =>?_,λs s' t t' i r1 r2 _ _ =>?_,λs t i r1 c1 =>?_,λi hi hno =>?_,λj t hj=>absurd hj (Nat.not_lt_zero _),λs t i r1 c1 =>?_⟩,λq hq s0 hs0 =>?_,.nil⟩;have hm:(j,o)∈[(0,(TO.acc ty .str (z0o xs) true:TO D.T))]:=hm;simp only[List.mem_singleton,Qbt]at hm;obtain⟨rfl,rfl⟩:=hm;refine⟨sl',rfl,?_⟩;simp only[OR];refine⟨by rw[a3];exact List.length_map _,λj y v hy hv =>?_,a6⟩
  have hy:(z0o xs)[j]? = some y:=hy;rw[a3,Qan,hy]at hv;injection hv with hv;subst hv;exact .str _;have l1:=(Qaa.1 r1).1;have l2:=(Qaa.1 r2).1;simp at l1 l2;omega;have l1:=(Qaa.1 r1).1;have:s=0:=by simp at l1;omega
  subst this;obtain rfl:sl'=t:=by simpa using r1
  exact .inr ⟨0,sl,rfl,.inl (by rw[<-a2];exact Slot.z9t a0 c1)⟩;refine⟨by rw[a5];exact hi,a4 i λj hj hji=>hno 0 sl rfl (.inl (by rw[hj,hji]))⟩;have l1:=(Qaa.1 r1).1;have:s=0:=by simp at l1;omega
  subst this;obtain rfl:sl'=t:=by simpa using r1
  rw[a0]at c1;cases c1;simp only[List.mem_singleton]at hq;subst hq;obtain rfl:sl=s0:=by simpa using hs0
  exact⟨sl',rfl,a1⟩
 have nothing:xs=[]->(∀W g cargs,z84 W g ⟨lv,L,E⟩ [sl.v] cargs->∃p cap,cargs = #[.slice p 0 cap])->zkz P f [sl.v] ⟨lv,L,E⟩ λout H'=>∃L' ρ',H'=⟨lv,L',E⟩∧(Left D lv L [sl] 0 L' ρ' [.acc ty .str true] ((z0o xs,()):HL D.T [.sl .str])∧((∀q∈[((0:Nat),(0:Nat))],∀s0,[sl][q.1]? = some s0->∃s1,ρ'[q.2]? = some s1∧s1.v=s0.v)∧zk8 L L' [sl] [])∧∃vs,out = .ret (z3x vs)∧VRL D ρ' lv [] vs):=λhx hc W g cargs hG hR=>by
  obtain⟨p,cap,rfl⟩:=hc W g cargs hR;refine⟨hent _ _,(hnone p cap W).mono ?_⟩
  rintro e W' ⟨rfl,rfl⟩
  have hs:z0o xs=[]:=Qao (by rw[hsl,hx];rfl);obtain⟨l1,l2⟩:=left L ⟨sl.v,sl.k,sl.ws,[]⟩ rfl rfl rfl (by show sl.ws=_;rw[hs,hws,hx]) (λ_ _=>rfl) rfl o3;exact⟨.ret (.tup []),⟨lv,L,E⟩,g,⟨L,[⟨sl.v,sl.k,sl.ws,[]⟩],rfl,l1,l2,[],rfl,(by simp only[VRL]:VRL D [⟨sl.v,sl.k,sl.ws,[]⟩] lv [] [])⟩,.refl _ _ _,hG,_,rfl,.tup [] #[] rfl (by simp)⟩
 have one:∀{W:World}{g:Gh}{cargs:Array Value},z84 W g ⟨lv,L,E⟩ [sl.v] cargs->∃c,cargs = #[c]∧Rel W g ⟨lv,L,E⟩ sl.v c:=λ{W g cargs} hR=>by
  obtain⟨h1,h2⟩:=hR;have hsz:cargs.toList.length=1:=by simpa using h1
  obtain⟨c,hc⟩:=List.length_eq_one_iff.1 hsz;have hc':cargs = #[c]:=by rw[<-Array.toList_inj,hc]
  subst hc';exact⟨c,rfl,by simpa using h2 0 _ rfl⟩
 cases hk:sl.k with
 |none=>
  rw[hk]at o3
  rcases o3 with ⟨v1,v2⟩|⟨v1,v2⟩
  refine nothing (by rw[hws]at v2;simpa using v2) λW g cargs hR =>?_
  obtain⟨c,rfl,hc⟩:=one hR;rw[v1]at hc;cases hc;exact⟨_,_,rfl⟩;have v3:=v2 trivial;refine nothing (by rw[hws]at v3;simpa using v3) λW g cargs hR =>?_
  obtain⟨c,rfl,hc⟩:=one hR;rw[v1.1,v3]at hc
  cases hc with
  |slnil=>exact⟨_,_,rfl⟩
  |sle _ _ a cap hf=>exact⟨_,_,rfl⟩
  |sl _ _ _ b o cap c=>exact⟨_,_,rfl⟩
 |some i=>
  rw[hk]at o3;obtain⟨ver,cp,v1,v2⟩:=o3;have hi:=(Qaa.1 v2).1;rw[hws]at v2;have hh:=y5p (P:=P) (f:=f) (ty:=ty) hent hcon (lv:=lv) (E:=E) (n:=sl.ws.length) v2 hlen (by rw[hws];simp);rw[<-v1]at hh;refine hh.mono λo H' ⟨e1,e2⟩ =>?_
  subst e1;subst e2
  obtain⟨l1,l2⟩:=left (L.set i (some (.arr ver ty 1 ((z0o xs).map V.str) cp))) ⟨sl.v,sl.k,(z0o xs).map V.str,[]⟩ rfl rfl rfl rfl (λj hj=>Qam (hj i hk)) (by simp) (by
   simp only[hk]
   exact⟨ver,cp,by rw[v1,hws];simp[hsl],by simp[hi,Dat.len]⟩)
  exact⟨_,[⟨sl.v,sl.k,(z0o xs).map V.str,[]⟩],rfl,l1,l2,[],rfl,(by simp only[VRL]:VRL D [⟨sl.v,sl.k,(z0o xs).map V.str,[]⟩] lv [] [])⟩
theorem y7h{P:Program}{D:Dat}{f ty:Nat}(hent:∀args W,(callFunc f args).run P W = .ok (.enter f args) W)
  (hcon:∀(blk cap:Nat) (ss:List B8) (w:World),Holds encStr w blk 0 ss.toArray->blk<w.heap.size->ss.length<4611686018427387904 ->
   Calls P f #[.slice (some ⟨blk,0,none⟩) ss.length cap] w λe w'=>e = .returned (.tuple #[])∧∃n os,w'=grow (putRow encStr (Sort.ahead w n) blk 0 (ss.mergeSort λx y=>decide (x<=y)).toArray) os)
  (hnone:∀(p:Option Addr) (cap:Nat) (w:World),Calls P f #[.slice p 0 cap] w λe w'=>e = .returned (.tuple #[])∧w'=w) :
  FOk P (zxv D f ty λ_ xs=>if xs.length<4611686018427387904 then some (z0o xs)else none):=λn R x k kp r h=>by
 have h:((if x.1.length<4611686018427387904 then some (z0o x.1)else none).bind λr=>k (r,()))=some r:=h;obtain⟨r0,h1,h2⟩:=zij h;split at h1;rename_i hlen;injection h1 with h1;subst h1;exact .inl ⟨(z0o x.1,()),h2,y0j hent hcon hnone x.1 hlen _ n⟩;cases h1
end Go.Ab
namespace Go.Ab
open Go
def zx9(x:B8):List B8->List B8
 |[]=>[x]
 |y::l=>if decide (x<=y)=true then x::y::l else y::zx9 x l
def zc8:List B8->List B8
 |[]=>[]
 |x::l=>zx9 x (zc8 l)
theorem zj8(x:B8):∀l,(zx9 x l).Perm (x::l)
 |[]=>.refl _
 |y::l=>by
  unfold zx9;split;exact .refl _
  ·exact((zj8 x l).cons y).trans (.swap x y l)
theorem z6q:∀l,(zc8 l).Perm l
 |[]=>.refl _
 |x::l=>(zj8 x _).trans ((z6q l).cons x)
theorem y4q(x y:B8):(decide (x<=y)||decide (y<=x))=true:=by
 rcases List.le_total x y with h|h <;> simp[h]
theorem zto(x:B8):∀l,l.Pairwise (λx y=>decide (x<=y)=true)->(zx9 x l).Pairwise λx y=>decide (x<=y)=true
 |[],_=>by simp[zx9]
 |y::l,h=>by
  have ih:=zto x l (List.pairwise_cons.1 h).2;unfold zx9;split;rename_i hxy;refine List.pairwise_cons.2 ⟨λz hz =>?_,h⟩
  rcases Qbi.1 hz with rfl|hz
  exact hxy;have:=(List.pairwise_cons.1 h).1 z hz;exact decide_eq_true (List.le_trans (Qac hxy) (Qac this));rename_i hxy;refine List.pairwise_cons.2 ⟨λz hz =>?_,ih⟩
  rcases Qbi.1 ((zj8 x l).mem_iff.1 hz)with rfl|hz
  have:=y4q z y;rw[Bool.or_eq_true]at this;exact this.resolve_left hxy;exact(List.pairwise_cons.1 h).1 z hz
theorem zee:∀l,(zc8 l).Pairwise λx y=>decide (x<=y)=true
 |[]=>.nil
 |x::l=>zto x _ (zee l)
theorem zup(l:List B8):zc8 l=z0o l:=by
 refine List.Perm.eq_of_pairwise (le:=λx y=>decide (x<=y)=true) (λa b _ _ h1 h2=>List.le_antisymm (Qac h1) (Qac h2)) (zee l) ?_ ((z6q l).trans (zbj l).symm);exact List.pairwise_mergeSort (le:=λx y=>decide (x<=y)) (λa b c h1 h2=>decide_eq_true (List.le_trans (Qac h1) (Qac h2))) y4q l
set_option linter.unusedVariables false
set_option linter.unusedSimpArgs false
def isLet(c:UInt8):Bool:=decide (97<=c.toNat)&&decide (c.toNat<=122)
def z61(c:UInt8):Bool:=decide (48<=c.toNat)&&decide (c.toNat<=57)
def z4y(c:UInt8):Bool:=isLet c||c==45||z61 c
def z7w(s:B8):Bool:=match s with
 |[]=>false
 |c::t=>isLet c&&t.all z4y&&decide (s.length<=40)
def cutAt(b:UInt8)(s:B8):B8×B8×Bool:=(s.takeWhile (· != b),(s.dropWhile (· != b)).tail,s.any (· == b))
def z9a(d:B8):Bool:=decide (1<=d.length)&&decide (d.length<=4) && !(d.head?==some 48&&decide (1<d.length))&&d.all z61
def z4t(s:B8):Bool :=
 z7w (cutAt 91 s).1&&(!(cutAt 91 s).2.2||((cutAt 91 s).2.1.getLast?==some 93&&z9a (cutAt 91 s).2.1.dropLast))
def parts(b:UInt8):B8->List B8
 |[]=>[[]]
 |c::t=>if c==b then []::parts b t else match parts b t with
  |h::r=>(c::h)::r
  |[]=>[[c]]
def steps(s:B8):List B8:=if s==[]then []else parts 47 s
def kzf(s:B8):Int :=
 if 4000<s.length then 4 else if 40<(steps s).length then 4 else if (steps s).all z4t then 0 else 12
theorem parts_eq(b:UInt8):∀s:B8,parts b s=(cutAt b s).1::(if (cutAt b s).2.2 then parts b (cutAt b s).2.1 else [])
 |[]=>by simp[parts,cutAt]
 |c::t=>by
  rw[parts];by_cases h:c=b;subst h;simp[cutAt];have h':(c==b)=false:=by simpa using h
  rw[h',parts_eq b t];simp[cutAt,h',bne,List.takeWhile_cons,List.dropWhile_cons]
theorem zdu(b:UInt8)(s:B8):parts b s≠[]:=by rw[parts_eq];simp
theorem zdf(b:UInt8):∀s:B8,(parts b s).length=s.countP (· == b)+1
 |[]=>by simp[parts]
 |c::t=>by
  rw[parts];have ih:=zdf b t;split;rename_i h;simp[ih,List.countP_cons,h];rename_i h
  cases hp:parts b t with
  |nil=>exact(zdu b t hp).elim
  |cons a r=>rw[hp]at ih;simp[List.countP_cons,h]at ih ⊢;omega
theorem zgp(b:UInt8)(s:B8):(cutAt b s).2.1.length<=s.length:=by
 have:=(List.dropWhile_sublist (l:=s) (· != b)).length_le;simp only[cutAt,List.length_tail];omega
theorem zqf(b:UInt8)(s:B8):(cutAt b s).1.length<=s.length:=(List.takeWhile_sublist (l:=s) (· != b)).length_le
theorem zge{b:UInt8}:∀{s:B8},(cutAt b s).2.2=true->(cutAt b s).2.1.length<s.length
 |[],h=>by simp[cutAt]at h
 |c::t,h=>by
  by_cases hc:c=b;subst hc;simp[cutAt];have h':(c==b)=false:=by simpa using hc
  have:=zge (b:=b) (s:=t) (by simpa[cutAt,h']using h);simp only[cutAt,List.dropWhile_cons,bne,h',Bool.not_false,if_true,List.length_cons]at this ⊢;omega
theorem zed{b:UInt8}:∀{s:B8}{x:B8},x∈parts b s->x.length<=s.length
 |[],x,h=>by simp[parts]at h;simp[h]
 |c::t,x,h=>by
  rw[parts]at h;split at h
  rcases Qbi.1 h with rfl|h
  simp;have:=zed h;simp;omega
  cases hp:parts b t with
  |nil=>exact(zdu b t hp).elim
  |cons a r=>
   rw[hp]at h
   rcases Qbi.1 h with rfl|h
   have:=zed (b:=b) (s:=t) (x:=a) (by rw[hp];simp);simp;omega;have:=zed (b:=b) (s:=t) (x:=x) (by rw[hp];simp[h]);simp;omega
theorem zr1{s x:B8}(h:x∈steps s):x.length<=s.length:=by
 unfold steps at h;split at h;cases h;exact zed h
theorem zlz{s:B8}{k:Nat}(h:k<s.length)(ha:s[k].toNat<128):z43 s k=(s[k].toNat,1):=by
 have h':k<(ByteArray.mk s.toArray).size:=by simpa[ByteArray.size]using h
 have e:(ByteArray.mk s.toArray)[k]=s[k]:=rfl;have:=decode_ascii ⟨s.toArray⟩ k h' (by rw[e];exact ha);rw[e]at this;exact this
theorem zqq{s:B8}{k:Nat}(h:k<s.length)(ha:128<=s[k].toNat):128<=(z43 s k).1∧1<=(z43 s k).2:=by
 have h':k<(ByteArray.mk s.toArray).size:=by simpa[ByteArray.size]using h
 have e:(ByteArray.mk s.toArray)[k]=s[k]:=rfl;exact decode_high ⟨s.toArray⟩ k h' (by rw[e];exact ha)
theorem zbw{α:Type}{l:List α}{lo hi:Nat}(h1:lo<=hi)(h2:hi<=l.length):sub l (lo:Int) (hi:Int)=some ((l.take hi).drop lo):=by
 unfold sub;rw[Qbr ⟨by omega,by omega,by omega⟩];simp
theorem z8n{α:Type}{l:List α}{hi:Nat}(h2:hi<=l.length):sub l 0 (hi:Int)=some (l.take hi):=by
 unfold sub;rw[Qbr ⟨by omega,by omega,by omega⟩];simp
theorem zvu(b:UInt8):∀s:B8,Lib.indexByte s b=if s.any (· == b)then ((s.takeWhile (· != b)).length:Int)else -1
 |[]=>rfl
 |c::t=>by
  rw[Lib.indexByte,zvu b t];cases h:c==b;simp only[List.any_cons,h,Bool.false_or,List.takeWhile_cons,bne,Bool.not_false,if_true,List.length_cons];cases t.any (· == b);simp;simp only[if_true,Qbj];rw[Qbs (by simp),Qbs (by omega)];simp;simp[h,bne]
theorem zre{b:UInt8}:∀{s:B8},s.any (· == b)=true->(s.takeWhile (· != b)).length<s.length∧s.take (s.takeWhile (· != b)).length=s.takeWhile (· != b)∧s.drop ((s.takeWhile (· != b)).length+1)=(s.dropWhile (· != b)).tail
 |[],h=>by simp at h
 |c::t,h=>by
  cases hc:c==b;have ih:=zre (b:=b) (s:=t) (by simpa[hc]using h);simp only[bne]at ih ⊢;simp[List.takeWhile_cons,List.dropWhile_cons,hc];exact⟨ih.1,ih.2.1,by simpa using ih.2.2⟩;simp[List.takeWhile_cons,List.dropWhile_cons,hc,bne]
theorem zxe{b:UInt8}:∀{s:B8},s.any (· == b)=false->cutAt b s=(s,[],false)
 |[],h=>rfl
 |c::t,h=>by
  simp only[List.any_cons,Bool.or_eq_false_iff]at h;have ih:=zxe (b:=b) (s:=t) h.2;simp only[cutAt,bne]at ih ⊢;simp[List.takeWhile_cons,List.dropWhile_cons,h.1];simpa using ih
section
variable {P : Program} {W W' : World} {g g' : Gh} {H H' : zz2}
def Gh.at(g:Gh)(b:Nat):Gh:={g with base:=b}
theorem Rel.at{v:V}{c:Value}(h:Rel W g H v c)(b:Nat):Rel W (g.at b) H v c:=by
 induction h with
 |any c=>exact .any c
 |bool b=>exact .bool b
 |int k n=>exact .int k n
 |str s=>exact .str s
 |nilp=>exact .nilp
 |ptr l i off hd=>exact .ptr l i off hd
 |ref cs off b o c hb hc h1 hr ih=>exact .ref cs off b o c hb hc h1 ih
 |ap l i ver idx off a hd hv ha=>exact .ap l i ver idx off a hd hv ha
 |nils=>exact .nils
 |slnil sz full=>exact .slnil sz full
 |sle sz full a cap hf=>exact .sle sz full a cap hf
 |sl sz xs full b o cap c hb hz hcap hf hs hc h1 hr ih=>exact .sl sz xs full b o cap c hb hz hcap hf hs hc h1 ih
 |hs l i ver off n full a m cap hd hv ha=>exact .hs l i ver off n full a m cap hd hv ha
 |mapn=>exact .mapn
 |map l i hd=>exact .map l i hd
 |mapc es b en clock hb hw he=>exact .mapc es b en clock hb hw he
 |fn f fs cs fs' cs' h1 h2 r1 r2 i1 i2=>exact .fn f fs cs fs' cs' h1 h2 i1 i2
 |nilf=>exact .nilf
 |iface t v c h ih=>exact .iface t v c ih
 |nili=>exact .nili
 |agg vs cs hn h1 hr ih=>exact .agg vs cs hn h1 ih
 |tup vs cs hn hr ih=>exact .tup vs cs hn ih
theorem z42.at{i j:Nat}{o:yz4}(h:z42 W g H i j o)(b:Nat):z42 W (g.at b) H i j o:=by
 cases o with
 |cells cs=>
  obtain⟨c,ty,h1,h2,h3,h4⟩:=h
  exact⟨c,ty,h1,h2,h3,λj v hj=>(h4 j v hj).at b⟩
 |arr ver ty sz xs cp=>
  obtain⟨c,h1,h2,h3,h4,h5,h6,h7,h8,h9⟩:=h
  exact⟨c,h1,h2,h3,h4,h5,h6,h7,h8,λj x t v hj ht=>(h9 j x t v hj ht).at b⟩
 |map es=>
  obtain⟨en,clock,h1,h2,h3,h4,h5⟩:=h
  exact⟨en,clock,h1,h2,h3,h4,λj p hj=>let ⟨e,x,y,z⟩:=h5 j p hj;⟨e,x,y.at b,z.at b⟩⟩
 |siter s pos=>exact h
 |mit es vis=>exact h
theorem Good.at(h:Good W g H){b:Nat}(hb:b<=W.heap.size):Good W (g.at b) H :=
 ⟨h.dom,h.lt,h.inj,h.fresh,λl i o ho=>(h.obj l i o ho).at b,h.glob,hb⟩
theorem Step.at(h:Step W g H W' g' H')(b:Nat):Step W (g.at b) H W' (g'.at b) H' :=
 ⟨h.os,h.tape,h.output,h.size,h.block,h.own,h.dom,h.new,h.blk,h.arr,h.lv,rfl⟩
end
set_option linter.unusedSectionVars false
section
variable {P : Program} {D : Dat} {F : Fr} {R : Type}
end
section
variable {α σ γ : Type}
end
theorem zec:∀a:B8,Op.bytesLess a a=false
 |[]=>rfl
 |x::a=>by simp[Op.bytesLess,zec a]
theorem zhk:∀{a b c:B8},Op.bytesLess a b=true->Op.bytesLess b c=true->Op.bytesLess a c=true
 |_,[],_,h,_=>by simp[Op.bytesLess]at h
 |_,_::_,[],_,h=>by simp[Op.bytesLess]at h
 |[],_::_,_::_,_,_=>by simp[Op.bytesLess]
 |x::a,y::b,z::c,h1,h2=>by
  simp only[Op.bytesLess,Bool.or_eq_true,Qar,Qag,Qbj]at h1 h2 ⊢
  rcases h1 with h1|⟨rfl,h1⟩
  rcases h2 with h2|⟨rfl,h2⟩
  exact .inl (by rw[UInt8.lt_iff_toNat_lt]at *;omega);exact .inl h1
  rcases h2 with h2|⟨rfl,h2⟩
  exact .inl h2;exact .inr ⟨rfl,zhk h1 h2⟩
theorem zi4:∀{a b:B8},Op.bytesLess a b=false->Op.bytesLess b a=false->a=b
 |[],[],_,_=>rfl
 |[],_::_,h,_=>by simp[Op.bytesLess]at h
 |_::_,[],_,h=>by simp[Op.bytesLess]at h
 |x::a,y::b,h1,h2=>by
  simp only[Op.bytesLess,Bool.or_eq_false_iff,decide_eq_false_iff_not,Bool.and_eq_false_iff,beq_eq_false_iff_ne]at h1 h2;have hxy:x=y:=UInt8.toNat_inj.1 (by have:=h1.1;have:=h2.1;simp only[UInt8.lt_iff_toNat_lt]at *;omega);subst hxy
  have e1:Op.bytesLess a b=false:=by rcases h1.2 with h|h;exact absurd rfl h;exact h
  have e2:Op.bytesLess b a=false:=by rcases h2.2 with h|h;exact absurd rfl h;exact h
  rw[zi4 e1 e2]
theorem zu6{a b:B8}(h:Op.bytesLess a b=true):Op.bytesLess b a=false:=by
 cases h2:Op.bytesLess b a;rfl;have:=zhk h h2;rw[zec]at this;cases this
theorem y1l{a b c:B8}(h1:Op.bytesLess a b=false)(h2:Op.bytesLess b c=false):Op.bytesLess a c=false:=by
 cases h:Op.bytesLess a c;rfl;cases h3:Op.bytesLess b a;rw[zi4 h1 h3]at h;rw[h]at h2;cases h2;rw[zhk h3 h]at h2;cases h2
theorem y07(x y:B8):decide (x<=y) = !Op.bytesLess y x:=by
 rw[Go.Proofs.bytesLess_eq];by_cases h:y<x;have:¬x<=y:=List.not_le.2 h;simp[h,this];have:x<=y:=List.not_lt.1 h;simp[h,this]
def zad(l:List B8):Prop:=l.Pairwise λx y=>Op.bytesLess x y=true
theorem zff:∀{l m:List B8},zad l->zad m->(∀x,x∈l↔x∈m)->l=m
 |[],[],_,_,_=>rfl
 |[],y::m,_,_,h=>by have:=(h y).2 Qak;cases this
 |x::l,[],_,_,h=>by have:=(h x).1 Qak;cases this
 |x::l,y::m,h1,h2,h=>by
  have a1:=List.pairwise_cons.1 h1;have a2:=List.pairwise_cons.1 h2
  have hxy:x=y:=by
   rcases Qbi.1 ((h x).1 Qak)with e|e
   exact e
   rcases Qbi.1 ((h y).2 Qak)with e'|e'
   exact e'.symm;have b1:=a2.1 x e;have b2:=a1.1 y e';rw[zu6 b1]at b2;cases b2
  subst hxy;refine congrArg (x :: ·) (zff a1.2 a2.2 λz=>⟨λhz =>?_,λhz =>?_⟩)
  rcases Qbi.1 ((h z).1 (Qai _ hz))with e|e
  subst e;have:=a1.1 z hz;rw[zec]at this;cases this;exact e
  rcases Qbi.1 ((h z).2 (Qai _ hz))with e|e
  subst e;have:=a2.1 z hz;rw[zec]at this;cases this;exact e
theorem zs7{l:List B8}(h:l.Nodup):zad (z0o l):=by
 have hp:(z0o l).Pairwise λx y=>decide (x<=y)=true:=List.pairwise_mergeSort (λa b c h1 h2=>by
  rw[y07,Bool.not_eq_true']at *
  exact y1l h2 h1) (λa b=>by
  rw[y07,y07];cases h:Op.bytesLess b a;rfl
  rw[zu6 h];rfl) l
 have hn:(z0o l).Nodup:=(zbj l).nodup_iff.2 h;unfold zad;refine List.Pairwise.imp₂ (R:=λx y=>decide (x<=y)=true) (S:=(· ≠ ·)) (λx y h1 h2 =>?_) hp hn;rw[y07,Bool.not_eq_true']at h1;cases h3:Op.bytesLess x y;exact(h2 (zi4 h3 h1)).elim;rfl
def ins:List B8->B8->List B8
 |[],s=>[s]
 |x::l,s=>if Op.bytesLess x s then x::ins l s else if x=s then x::l else s::x::l
theorem zrp(s:B8):∀(l:List B8) (z:B8),z∈ins l s↔z∈l∨z=s
 |[],z=>by simp[ins]
 |x::l,z=>by
  rw[ins];split;rw[Qbi,Qbi,zrp s l z,or_assoc];split;rename_i h;subst h;constructor;exact .inl
  rintro (h|rfl)
  exact h;exact Qak;rw[Qbi,or_comm]
theorem zmw{s:B8}:∀{l:List B8},zad l->zad (ins l s)
 |[],_=>by simp[ins,zad]
 |x::l,h=>by
  have a:=List.pairwise_cons.1 h;rw[ins];split;rename_i hx;refine List.pairwise_cons.2 ⟨λz hz =>?_,zmw a.2⟩
  rcases(zrp s l z).1 hz with hz|rfl
  exact a.1 z hz;exact hx;split;exact h;rename_i h1 h2;have h1:Op.bytesLess x s=false:=by simpa using h1
  have hs:Op.bytesLess s x=true:=by
   cases h3:Op.bytesLess s x;exact(h2 (zi4 h1 h3)).elim;rfl
  refine List.pairwise_cons.2 ⟨λz hz =>?_,h⟩
  rcases Qbi.1 hz with rfl|hz
  exact hs;exact zhk hs (a.1 z hz)
theorem zsb(s:B8):∀l:List B8,(ins l s).length<=l.length+1
 |[]=>by simp[ins]
 |x::l=>by
  have:=zsb s l;rw[ins];split;simp;omega;split <;> simp
theorem y4n(s:B8):∀l:List B8,ins l s=if (l.dropWhile (λx=>Op.bytesLess x s)).head?=some s then l else l.takeWhile (λx=>Op.bytesLess x s)++s::l.dropWhile (λx=>Op.bytesLess x s)
 |[]=>by simp[ins]
 |x::l=>by
  rw[ins];cases h:Op.bytesLess x s;rw[List.dropWhile_cons_of_neg (by simp[h]),List.takeWhile_cons_of_neg (by simp[h])];by_cases hx:x=s;simp[hx];simp[hx];rw[List.dropWhile_cons_of_pos (by simp[h]),List.takeWhile_cons_of_pos (by simp[h]),Qbr rfl,y4n s l];split <;> rfl
end Go.Ab
