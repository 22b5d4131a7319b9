/-
  slices.Sort OF STRINGS ON A SLICE OF OURS, out of a zu4 of the kit's kind.
-/
import Derived.Test.YthlmhmebajjkbaaGreatDoorLib8
import Derived.Shelf.Sort.Plain
import Derived.Sort.Walk0
import Derived.Laws.AppendOwn
import Derived.Maps.Own
import Derived.Sort.KeysCollected
set_option linter.defProp false
set_option linter.unusedSimpArgs false
set_option linter.unusedVariables false
namespace Go.Ab
open Go Go.RowKit Go.Sort Go.Proofs
def z0e(a:List B8):List B8:=a.mergeSort λx y=>decide (x<=y)
def zg6(a:List B8):(z0e a).Perm a:=List.mergeSort_perm _ _
def z011{P:Program}{f ty:Nat}(K:∀args W,(callFunc f args).run P W = .ok (.enter f args) W)
  (M:∀(blk C:Nat) (N:List B8) (w:World),Holds encStr w blk 0 N.toArray->blk<w.heap.size->N.length<4611686018427387904 ->
   Calls P f #[.slice (some ⟨blk,0,none⟩) N.length C] w λe w'=>e = .returned (.tuple #[])∧∃n D,w'=grow (putRow encStr (Sort.ahead w n) blk 0 (N.mergeSort λx y=>decide (x<=y)).toArray) D)
  {lv k d n:Nat} {L:List (Option yz5)}{E:Nat->Nat->Option yz5}{xs:List B8}{Q:Option Nat}(hL:L[k]? = some (some (.arr d ty 1 (xs.map V.str) Q))) (hlen:xs.length<4611686018427387904) (hn:n=xs.length) :
  y0n P f [.hs lv k d 0 n false] ⟨lv,L,E⟩ λo H'=>o = .ret (.tup [])∧H'=⟨lv,L.set k (some (.arr d ty 1 ((z0e xs).map V.str) Q)),E⟩:=by
 intro W g l hG hR;have X:(⟨lv,L,E⟩:Heap).get lv k=some (.arr d ty 1 (xs.map V.str) Q):=by simp[Heap.get,hL]
 obtain⟨x,rfl,h0⟩:∃x,l = #[x]∧Rel W g ⟨lv,L,E⟩ (.hs lv k d 0 n false) x:=by
  have⟨H,Z⟩:=hR;have h4:l.toList.length=1:=by simpa using H
  have⟨c,Y⟩:=List.length_eq_one_iff.1 h4;have h6:l = #[c]:=by rw[<-Array.toList_inj,Y]
  subst h6;exact⟨c,rfl,by simpa using Z 0 _ rfl⟩
 refine⟨K _ _,?_⟩
 cases h0 with
 |hs _ _ _ _ _ _ a m C hd hv ha=>
  obtain⟨rfl,rfl,⟨a1,a2,_⟩,a3⟩:=ha _ _ _ _ X;have⟨z,O,k2,T,h3,k4,k5,k6,k7,k8⟩:=hG.obj _ _ _ X;rw[Qbd]at k4
  have hH:Holds encStr W (g.ab lv k) 0 xs.toArray:=λj p=>by
   have u:j<xs.length:=by simpa using p
   have e1:(xs.map V.str)[j]? = some (.str xs[j]):=by rw[Qan,Qab u];rfl
   have F:=k8 j _ 0 (.str xs[j]) e1 rfl;have I:j<z.size:=by rw[T];omega
   refine⟨?_,by simp[World.frozen?,O]⟩;rw[getElem!_pos xs.toArray j p]
   cases q:z.getD (j * 1+0) undef with
   |string s=>
    rw[q]at F;cases F;rw[Qae]at q;rw[show j * 1+0=j by omega,Qas I]at q;simp only[Option.getD_some]at q
    simp[World.cell?,O,I,q,encStr]
   |_=>rw[q]at F;cases F
  have hb:g.ab lv k<W.heap.size:=(Qbn.1 O).1;have Y:=M (g.ab lv k) C xs W hH hb hlen;have h5:=zg6 xs;have G:(z0e xs).length=xs.length:=h5.length_eq;subst hn;refine Y.mono ?_
  rintro e W' ⟨rfl,R,D,rfl⟩
  have i:(grow (putRow encStr (Sort.ahead W R) (g.ab lv k) 0 (z0e xs).toArray) D).heap=W.heap.modify (g.ab lv k) (onCells (Go.Sort.putCells encStr 0 (z0e xs).toArray))++D:=rfl
  have h9:(grow (putRow encStr (Sort.ahead W R) (g.ab lv k) 0 (z0e xs).toArray) D).heap[g.ab lv k]? = some (.cells (Go.Sort.putCells encStr 0 (z0e xs).toArray z) ty (0,0)):=by
   rw[i,Array.getElem?_append_left (by simpa using hb),Array.getElem?_modify,Qbx rfl,O];rfl
  have A:∀j (p:j<(z0e xs).length),(Go.Sort.putCells encStr 0 (z0e xs).toArray z).getD (j * 1+0) undef = .string ⟨((z0e xs)[j]).toArray⟩:=λj p=>by
   have J:j * 1+0<z.size:=by rw[T];omega
   rw[Qae,Go.Sort.putCells,Array.getElem?_mapIdx,Qas J];simp only[Qbr,Option.getD_some,Nat.sub_zero];rw[Qbx ⟨Qbv _,by simp;omega⟩,getElem!_pos (z0e xs).toArray _ (by simp;omega)];simp[encStr]
  have B:∀(j:Nat) (x:V),((z0e xs).map V.str)[j]? = some x->∃p:j<(z0e xs).length,x = .str (z0e xs)[j]:=λj x p=>by
   rw[Qan,Qaf]at p;obtain⟨y,hy,rfl⟩:=p;have⟨H,Z⟩:=Qaa.1 hy;exact⟨H,by rw[Z]⟩
  have⟨q1,q2⟩:=zjs (W':=grow (putRow encStr (Sort.ahead W R) (g.ab lv k) 0 (z0e xs).toArray) D) hG (o':=.arr d ty 1 ((z0e xs).map V.str) Q) X rfl rfl rfl rfl (by rw[i];simp) (λb h8 h7=>by
    rw[i,Array.getElem?_append_left (by simpa using h8),Array.getElem?_modify,Qby (λh=>h7 h.symm)])
   (λd ty sz zs hh he=>by injection he with e1 F e3 e4 e5;subst e1;subst F;subst e3;subst e4;exact⟨_,_,_,rfl,Qbw _,λ_=>by simp[G]⟩) (λhf=>by
   refine⟨_,h9,by decide,by rw[Go.Sort.putCells,Array.size_mapIdx];exact T,h3,by rw[Qbd,G];exact k4,k5,λj x p =>?_,λj x t v p r =>?_,λj x t v p r =>?_⟩
   ·obtain⟨_,rfl⟩:=B j x p;rfl
   ·obtain⟨u,rfl⟩:=B j x p
    have U:t=0:=by
     cases t with
     |zero=>rfl
     |succ t=>simp[V.cells]at r
    subst U;rw[A j u];rfl
   ·obtain⟨u,rfl⟩:=B j x p
    have U:t=0:=by
     cases t with
     |zero=>rfl
     |succ t=>simp[V.cells]at r
    subst U;simp[V.cells]at r;subst r;rw[A j u]
    exact .str _)
  refine⟨.ret (.tup []),_,g,⟨rfl,rfl⟩,?_,?_,_,rfl,.tup [] #[] rfl (by simp)⟩
  ·have:=q1;simp only[Heap.set,Qbx]at this;exact this
  ·have:=q2;simp only[Heap.set,Qbx]at this;exact this
def yst(D:Dat)(f ty:Nat)(go:Nat->List B8->Option (List B8)):FI D :=
 {R:=List B8,ent:=λn=>{f:=f,p:=0,args:=[.own 0],aos:=[.acc ty .str true],outs:=[],ros:=[.acc ty .str true],pan:=.nilp,pos:=[.acc ty .str true],pure:=false,go:=λx k _=>(go n x.1).bind λr=>k (r,()),ren:=[(0,0)]},
   c:=.skip,K:=⟨λ_=>none,[],λ_=>none,λ_ _=>none⟩,p:=0,args:=[],aos:=[],nt:=0,z6m:=λ_=>[],go:=λ_ _=>none}
def z04f{D:Dat}{xs:List B8}{ws:List V}(g:ws.length=xs.length)(h:∀(j:Nat) (x:B8) (v:V),xs[j]? = some x->ws[j]? = some v->DR D .str x v):ws=xs.map V.str:=by
 refine List.ext_getElem? λj =>?_
 rw[Qan]
 cases a:xs[j]? with
 |none=>
  rw[List.getElem?_eq_none_iff]at a;simp only[Option.map_none]
  rw[List.getElem?_eq_none_iff];omega
 |some x=>
  have e:=(Qaa.1 a).1;have b:ws[j]? = some ws[j]:=Qab (by omega);have:=h j x _ a b;rw[b]
  cases d:ws[j]with
  |str s=>rw[d]at this;cases this;rfl
  |_=>rw[d]at this;cases this
def ywc{P:Program}{D:Dat}{f ty:Nat}(A:∀args W,(callFunc f args).run P W = .ok (.enter f args) W)
  (Q:∀(blk h:Nat) (R:List B8) (w:World),Holds encStr w blk 0 R.toArray->blk<w.heap.size->R.length<4611686018427387904 ->
   Calls P f #[.slice (some ⟨blk,0,none⟩) R.length h] w λe w'=>e = .returned (.tuple #[])∧∃n os,w'=grow (putRow encStr (Sort.ahead w n) blk 0 (R.mergeSort λx y=>decide (x<=y)).toArray) os)
  (G:∀(p:Option Addr) (h:Nat) (w:World),Calls P f #[.slice p 0 h] w λe w'=>e = .returned (.tuple #[])∧w'=w)
  (xs:List B8) (hlen:xs.length<4611686018427387904) (go:Nat->List B8->Option (List B8)) (n:Nat):((yst D f ty go).ent n).Flat P ((xs,()):HL D.T [.sl .str]) (.inl ((z0e xs,()):HL D.T [.sl .str])):=λlv L E ρ0 vargs k1 U k3 k4=>by
 have k1:ρ0.length=1:=k1;obtain⟨sl,rfl⟩:=List.length_eq_one_iff.1 k1;have U:VRL D [sl] lv [.own 0] vargs:=U;simp only[VRL,VR]at U;obtain⟨v,rr,rfl,⟨sl',e1,e2,e3⟩,rfl⟩:=U;obtain rfl:sl=sl':=by simpa using e1
 subst e2;have⟨sl',e4,e5⟩:=k3 0 (.acc ty .str xs true) (Qak);obtain rfl:sl=sl':=by simpa using e4
 simp only[OR]at e5;have⟨o1,o2,K⟩:=e5;have o1:sl.ws.length=xs.length:=o1;have o2:∀(j:Nat) (x:B8) (v:V),xs[j]? = some x->sl.ws[j]? = some v->DR D .str x v:=o2;have l:=z04f o1 o2;have O:(z0e xs).length=xs.length:=(zg6 xs).length_eq
 have left:∀(L':List (Option yz5)) (sl':Slot),sl'.v=sl.v->sl'.k=sl.k->sl'.fp=[]->sl'.ws=(z0e xs).map V.str->(∀i,(∀j,sl.k=some j->j≠i)->L'[i]? = L[i]?)->L'.length=L.length ->
   (match sl'.k with
   |none=>(sl'.v = .nils∧sl'.ws=[])∨((sl'.v = .sl (D.len .str) sl'.ws true∧DTy.str ≠ .int .u8)∧(True->sl'.ws=[]))
   |some i=>∃m Z,sl'.v = .hs lv i m 0 sl'.ws.length false∧L'[i]? = some (some (.arr m ty (D.len .str) sl'.ws Z))) ->
   Left D lv L [sl] 0 L' [sl'] [.acc ty .str true] ((z0e xs,()):HL D.T [.sl .str])∧(∀q∈[((0:Nat),(0:Nat))],∀B,[sl][q.1]? = some B->∃J,[sl'][q.2]? = some J∧J.v=B.v):=λL' sl' a1 a2 a0 a3 a4 a5 a6=>by
  refine⟨⟨rfl,λj o X =>?_,λs s' t t' i C r2 _ _ =>?_,λs t i C H =>?_,λi hi h5 =>?_,λj t N=>absurd N (Nat.not_lt_zero _),λs t i C H =>?_⟩,λq hq B h4 =>?_⟩
  ·have X:(j,o)∈[(0,(TO.acc ty .str (z0e xs) true:TO D.T))]:=X;simp only[Qbc,Qbz]at X;obtain⟨rfl,rfl⟩:=X;refine⟨sl',rfl,?_⟩;simp only[OR];refine⟨by rw[a3];exact Qbd _,λj y v hy hv =>?_,a6⟩;have hy:(z0e xs)[j]? = some y:=hy;rw[a3,Qan,hy]at hv;cases hv;exact .str _
  ·have r:=(Qaa.1 C).1;have M:=(Qaa.1 r2).1;simp at r M;omega
  ·have r:=(Qaa.1 C).1;have:s=0:=by simp at r;omega
   subst this;obtain rfl:sl'=t:=by simpa using C
   exact .inr ⟨0,sl,rfl,.inl (by rw[<-a2];exact Slot.yar a0 H)⟩
  ·refine⟨by rw[a5];exact hi,a4 i λj N h6=>h5 0 sl rfl (.inl (by rw[N,h6]))⟩
  ·have r:=(Qaa.1 C).1;have:s=0:=by simp at r;omega
   subst this;obtain rfl:sl'=t:=by simpa using C
   rw[a0]at H;cases H
  ·simp only[Qbc]at hq;subst hq;obtain rfl:sl=B:=by simpa using h4
   exact⟨sl',rfl,a1⟩
 have nothing:xs=[]->(∀W g d,zlt W g ⟨lv,L,E⟩ [sl.v] d->∃p h,d = #[.slice p 0 h])->y0n P f [sl.v] ⟨lv,L,E⟩ λout H'=>∃L' ρ',H'=⟨lv,L',E⟩∧(Left D lv L [sl] 0 L' ρ' [.acc ty .str true] ((z0e xs,()):HL D.T [.sl .str])∧(∀q∈[((0:Nat),(0:Nat))],∀B,[sl][q.1]? = some B->∃J,ρ'[q.2]? = some J∧J.v=B.v)∧∃vs,out = .ret (ze6 vs)∧VRL D ρ' lv [] vs):=λhx u W g d hG F=>by
  obtain⟨p,h,rfl⟩:=u W g d F;refine⟨A _ _,(G p h W).mono ?_⟩
  rintro e W' ⟨rfl,rfl⟩
  have hs:z0e xs=[]:=Qao (by rw[O,hx];rfl);have⟨r,M⟩:=left L ⟨sl.v,sl.k,sl.ws,[]⟩ rfl rfl rfl (by show sl.ws=_;rw[hs,l,hx]) (λ_ _=>rfl) rfl K;exact⟨.ret (.tup []),⟨lv,L,E⟩,g,⟨L,[⟨sl.v,sl.k,sl.ws,[]⟩],rfl,r,M,[],rfl,(by simp only[VRL]:VRL D [⟨sl.v,sl.k,sl.ws,[]⟩] lv [] [])⟩,.refl _ _ _,hG,_,rfl,.tup [] #[] rfl (by simp)⟩
 have one:∀{W:World}{g:Gh}{d:Array Value},zlt W g ⟨lv,L,E⟩ [sl.v] d->∃c,d = #[c]∧Rel W g ⟨lv,L,E⟩ sl.v c:=λ{W g d} F=>by
  have⟨h1,h2⟩:=F;have h3:d.toList.length=1:=by simpa using h1
  have⟨c,u⟩:=List.length_eq_one_iff.1 h3;have h7:d = #[c]:=by rw[<-Array.toList_inj,u]
  subst h7;exact⟨c,rfl,by simpa using h2 0 _ rfl⟩
 cases Y:sl.k with
 |none=>
  rw[Y]at K
  rcases K with ⟨I,z⟩|⟨I,z⟩
  ·refine nothing (by rw[l]at z;simpa using z) λW g d F =>?_
   obtain⟨c,rfl,u⟩:=one F;rw[I]at u;cases u;exact⟨_,_,rfl⟩
  ·have v3:=z trivial;refine nothing (by rw[l]at v3;simpa using v3) λW g d F =>?_
   obtain⟨c,rfl,u⟩:=one F;rw[I.1,v3]at u
   cases u with
   |slnil=>exact⟨_,_,rfl⟩
   |sle _ _ a h hf=>exact⟨_,_,rfl⟩
   |sl _ _ _ b o h c=>exact⟨_,_,rfl⟩
 |some i=>
  rw[Y]at K;have⟨m,Z,I,z⟩:=K;have hi:=(Qaa.1 z).1;rw[l]at z;have hh:=z011 (P:=P) (f:=f) (ty:=ty) A Q (lv:=lv) (E:=E) (n:=sl.ws.length) z hlen (by rw[l];simp);rw[<-I]at hh;refine hh.mono λo H' ⟨e1,e2⟩ =>?_
  subst e1;subst e2
  have⟨r,M⟩:=left (L.set i (some (.arr m ty 1 ((z0e xs).map V.str) Z))) ⟨sl.v,sl.k,(z0e xs).map V.str,[]⟩ rfl rfl rfl rfl (λj N=>Qam (N i Y)) (by simp) (by
   simp only[Y]
   exact⟨m,Z,by rw[I,l];simp[O],by simp[hi,Dat.len]⟩)
  exact⟨_,[⟨sl.v,sl.k,(z0e xs).map V.str,[]⟩],rfl,r,M,[],rfl,(by simp only[VRL]:VRL D [⟨sl.v,sl.k,(z0e xs).map V.str,[]⟩] lv [] [])⟩
def z04w{P:Program}{D:Dat}{f ty:Nat}(d:∀args W,(callFunc f args).run P W = .ok (.enter f args) W)
  (g:∀(blk a:Nat) (i:List B8) (w:World),Holds encStr w blk 0 i.toArray->blk<w.heap.size->i.length<4611686018427387904 ->
   Calls P f #[.slice (some ⟨blk,0,none⟩) i.length a] w λe j=>e = .returned (.tuple #[])∧∃n m,j=grow (putRow encStr (Sort.ahead w n) blk 0 (i.mergeSort λx y=>decide (x<=y)).toArray) m)
  (b:∀(p:Option Addr) (a:Nat) (w:World),Calls P f #[.slice p 0 a] w λe j=>e = .returned (.tuple #[])∧j=w) :
  FOk P (yst D f ty λ_ xs=>if xs.length<4611686018427387904 then some (z0e xs)else none):=λn R x k q r h=>by
 have h:((if x.1.length<4611686018427387904 then some (z0e x.1)else none).bind λr=>k (r,()))=some r:=h;have⟨r0,l,o⟩:=zrf h;split at l
 ·rename_i hlen;cases l;exact .inl ⟨(z0e x.1,()),o,ywc d g b x.1 hlen _ n⟩
 ·cases l
end Go.Ab
namespace Go.Ab
open Go
def yt7(x:B8):List B8->List B8
 |[]=>[x]
 |y::l=>if decide (x<=y)=true then x::y::l else y::yt7 x l
def yk2:List B8->List B8
 |[]=>[]
 |x::l=>yt7 x (yk2 l)
def y5v(x:B8):∀l,(yt7 x l).Perm (x::l)
 |[]=>.refl _
 |y::l=>by
  unfold yt7;split
  ·exact .refl _
  ·exact((y5v x l).cons y).trans (.swap x y l)
def yc3:∀l,(yk2 l).Perm l
 |[]=>.refl _
 |x::l=>(y5v x _).trans ((yc3 l).cons x)
def z035(x y:B8):(decide (x<=y)||decide (y<=x))=true:=by
 rcases List.le_total x y with h|h <;> simp[h]
def ys3(x:B8):∀l,l.Pairwise (λx y=>decide (x<=y)=true)->(yt7 x l).Pairwise λx y=>decide (x<=y)=true
 |[],_=>by simp[yt7]
 |y::l,h=>by
  have b:=ys3 x l (List.pairwise_cons.1 h).2;unfold yt7;split
  ·rename_i a;refine List.pairwise_cons.2 ⟨λz hz =>?_,h⟩
   rcases Qbl.1 hz with rfl|hz
   ·exact a
   ·have:=(List.pairwise_cons.1 h).1 z hz;exact Qbt (List.le_trans (Qac a) (Qac this))
  ·rename_i a;refine List.pairwise_cons.2 ⟨λz hz =>?_,b⟩
   rcases Qbl.1 ((y5v x l).mem_iff.1 hz)with rfl|hz
   ·have:=z035 z y;rw[Bool.or_eq_true]at this;exact this.resolve_left a
   ·exact(List.pairwise_cons.1 h).1 z hz
def yk0:∀l,(yk2 l).Pairwise λx y=>decide (x<=y)=true
 |[]=>.nil
 |x::l=>ys3 x _ (yk0 l)
def yex(l:List B8):yk2 l=z0e l:=by
 refine List.Perm.eq_of_pairwise (le:=λx y=>decide (x<=y)=true) (λa b _ _ e d=>List.le_antisymm (Qac e) (Qac d)) (yk0 l) ?_ ((yc3 l).trans (zg6 l).symm);exact List.pairwise_mergeSort (le:=λx y=>decide (x<=y)) (λa b c e d=>Qbt (List.le_trans (Qac e) (Qac d))) z035 l
def y00:∀a:B8,Op.bytesLess a a=false
 |[]=>rfl
 |x::a=>by simp[Op.bytesLess,y00 a]
def y4x:∀{a b c:B8},Op.bytesLess a b=true->Op.bytesLess b c=true->Op.bytesLess a c=true
 |_,[],_,h,_=>by simp[Op.bytesLess]at h
 |_,_::_,[],_,h=>by simp[Op.bytesLess]at h
 |[],_::_,_::_,_,_=>by simp[Op.bytesLess]
 |x::a,y::b,z::c,e,d=>by
  simp only[Op.bytesLess,Bool.or_eq_true,Qar,Qag,Qbm]at e d ⊢
  rcases e with e|⟨rfl,e⟩
  ·rcases d with d|⟨rfl,d⟩
   ·exact .inl (by rw[UInt8.lt_iff_toNat_lt]at *;omega)
   ·exact .inl e
  ·rcases d with d|⟨rfl,d⟩
   ·exact .inl d
   ·exact .inr ⟨rfl,y4x e d⟩
def y4a:∀{a b:B8},Op.bytesLess a b=false->Op.bytesLess b a=false->a=b
 |[],[],_,_=>rfl
 |[],_::_,h,_=>by simp[Op.bytesLess]at h
 |_::_,[],_,h=>by simp[Op.bytesLess]at h
 |x::a,y::b,e,d=>by
  simp only[Op.bytesLess,Bool.or_eq_false_iff,decide_eq_false_iff_not,Bool.and_eq_false_iff,beq_eq_false_iff_ne]at e d;have g:x=y:=UInt8.toNat_inj.1 (by have:=e.1;have:=d.1;simp only[UInt8.lt_iff_toNat_lt]at *;omega);subst g
  have j:Op.bytesLess a b=false:=by rcases e.2 with h|h;exact absurd rfl h;exact h
  have i:Op.bytesLess b a=false:=by rcases d.2 with h|h;exact absurd rfl h;exact h
  rw[y4a j i]
def yqw{a b:B8}(h:Op.bytesLess a b=true):Op.bytesLess b a=false:=by
 cases d:Op.bytesLess b a
 ·rfl
 ·have:=y4x h d;rw[y00]at this;cases this
def ywd{a b c:B8}(g:Op.bytesLess a b=false)(d:Op.bytesLess b c=false):Op.bytesLess a c=false:=by
 cases h:Op.bytesLess a c
 ·rfl
 ·cases e:Op.bytesLess b a
  ·rw[y4a g e]at h;rw[h]at d;cases d
  ·rw[y4x e h]at d;cases d
def yvs(x y:B8):decide (x<=y) = !Op.bytesLess y x:=by
 rw[Go.Proofs.bytesLess_eq];by_cases h:y<x
 ·have:¬x<=y:=List.not_le.2 h;simp[h,this]
 ·have:x<=y:=List.not_lt.1 h;simp[h,this]
def zmi(l:List B8):Prop:=l.Pairwise λx y=>Op.bytesLess x y=true
def zs8:∀{l m:List B8},zmi l->zmi m->(∀x,x∈l↔x∈m)->l=m
 |[],[],_,_,_=>rfl
 |[],y::m,_,_,h=>by have:=(h y).2 Qak;cases this
 |x::l,[],_,_,h=>by have:=(h x).1 Qak;cases this
 |x::l,y::m,k,j,h=>by
  have d:=List.pairwise_cons.1 k;have b:=List.pairwise_cons.1 j
  have g:x=y:=by
   rcases Qbl.1 ((h x).1 Qak)with e|e
   ·exact e
   ·rcases Qbl.1 ((h y).2 Qak)with e'|e'
    ·exact e'.symm
    ·have n:=b.1 x e;have i:=d.1 y e';rw[yqw n]at i;cases i
  subst g;refine congrArg (x :: ·) (zs8 d.2 b.2 λz=>⟨λa =>?_,λa =>?_⟩)
  ·rcases Qbl.1 ((h z).1 (Qai _ a))with e|e
   ·subst e;have:=d.1 z a;rw[y00]at this;cases this
   ·exact e
  ·rcases Qbl.1 ((h z).2 (Qai _ a))with e|e
   ·subst e;have:=b.1 z a;rw[y00]at this;cases this
   ·exact e
def zvh{l:List B8}(h:l.Nodup):zmi (z0e l):=by
 have g:(z0e l).Pairwise λx y=>decide (x<=y)=true:=List.pairwise_mergeSort (λa b c d e=>by
  rw[yvs,Bool.not_eq_true']at *
  exact ywd e d) (λa b=>by
  rw[yvs,yvs];cases h:Op.bytesLess b a
  ·rfl
  ·rw[yqw h];rfl) l
 have i:(z0e l).Nodup:=(zg6 l).nodup_iff.2 h;unfold zmi;refine List.Pairwise.imp₂ (R:=λx y=>decide (x<=y)=true) (S:=(· ≠ ·)) (λx y d e =>?_) g i;rw[yvs,Bool.not_eq_true']at d;cases j:Op.bytesLess x y
 ·exact(e (y4a j d)).elim
 ·rfl
def ins:List B8->B8->List B8
 |[],s=>[s]
 |x::l,s=>if Op.bytesLess x s then x::ins l s else if x=s then x::l else s::x::l
def yax(s:B8):∀(l:List B8) (z:B8),z∈ins l s↔z∈l∨z=s
 |[],z=>by simp[ins]
 |x::l,z=>by
  rw[ins];split
  ·rw[Qbl,Qbl,yax s l z,or_assoc]
  ·split
   ·rename_i h;subst h;constructor
    ·exact .inl
    ·rintro (h|rfl)
     ·exact h
     ·exact Qak
   ·rw[Qbl,or_comm]
def y36{s:B8}:∀{l:List B8},zmi l->zmi (ins l s)
 |[],_=>by simp[ins,zmi]
 |x::l,h=>by
  have a:=List.pairwise_cons.1 h;rw[ins];split
  ·rename_i e;refine List.pairwise_cons.2 ⟨λz hz =>?_,y36 a.2⟩
   rcases(yax s l z).1 hz with hz|rfl
   ·exact a.1 z hz
   ·exact e
  ·split
   ·exact h
   ·rename_i b i;have b:Op.bytesLess x s=false:=by simpa using b
    have d:Op.bytesLess s x=true:=by
     cases g:Op.bytesLess s x
     ·exact(i (y4a b g)).elim
     ·rfl
    refine List.pairwise_cons.2 ⟨λz hz =>?_,h⟩
    rcases Qbl.1 hz with rfl|hz
    ·exact d
    ·exact y4x d (a.1 z hz)
def y3v(s:B8):∀l:List B8,(ins l s).length<=l.length+1
 |[]=>by simp[ins]
 |x::l=>by
  have:=y3v s l;rw[ins];split
  ·simp;omega
  ·split <;> simp
def z03e(s:B8):∀l:List B8,ins l s=if (l.dropWhile (λx=>Op.bytesLess x s)).head?=some s then l else l.takeWhile (λx=>Op.bytesLess x s)++s::l.dropWhile (λx=>Op.bytesLess x s)
 |[]=>by simp[ins]
 |x::l=>by
  rw[ins];cases h:Op.bytesLess x s
  ·rw[List.dropWhile_cons_of_neg (by simp[h]),List.takeWhile_cons_of_neg (by simp[h])];by_cases a:x=s
   ·simp[a]
   ·simp[a]
  ·rw[List.dropWhile_cons_of_pos (by simp[h]),List.takeWhile_cons_of_pos (by simp[h]),Qbx rfl,z03e s l];split <;> rfl
end Go.Ab
namespace Go.Ab
open Go Go.RowKit
def zro{W W':World}(h:Below W.heap.size W W'):Grow W W':=⟨h.os,h.tape,h.output,h.size,h.block⟩
def good_row{W W':World}{g:Gh}{H:Heap}(n:Good W g H)(k:Grow W W'){u:Nat}(x:W.heap.size<=u)(B:u<W'.heap.size){o:yz5}(c:Nat)
  (D:∀(g':Gh) (H':Heap),g'=g.add H.lv H.L.length u c->H'=H.push o->Step W g H W' g' H'->zif W' g' H' H.lv H.L.length o) :
  Step W g H W' (g.add H.lv H.L.length u c) (H.push o)∧Good W' (g.add H.lv H.L.length u c) (H.push o):=by
 have w:¬g.dom H.lv H.L.length:=λh=>by rcases n.fresh _ _ h with h|⟨_,h⟩ <;> omega
 have p:∀l i,g.dom l i->¬(l=H.lv∧i=H.L.length):=λl i h q=>w (by rw[<-q.1,<-q.2];exact h)
 have e:Step W g H W' (g.add H.lv H.L.length u c) (H.push o):=by
  refine⟨k.os,k.tape,k.output,k.size,λb r _=>k.block b r,λb r =>?_,λl i h=>.inl h,λl i h=>h.elim .inl (λq=>.inr q.1),λl i h=>by simp[Gh.add,p l i h],λl i z ty sz xs E y A =>?_,rfl⟩
  ·have⟨l,i,q,a,s⟩:=r;rw[Heap.z9q]at a;split at a
   ·rename_i d;cases a;obtain⟨rfl,rfl⟩:=d;rw[yz5.zbu]at s;right;omega
   ·rename_i d;rw[yz5.zi0 d]at s;exact .inl ⟨l,i,q,a,s⟩
  ·rw[Heap.z9q,Qby (p l i y)]at A;exact⟨z,xs,E,A,Qbw _,λ_=>⟨by simp[Gh.add,p l i y],by simp[Gh.add,p l i y],Qbw _⟩⟩
 refine⟨e,?_,?_,?_,?_,?_,n.y3r.step e⟩
 ·intro l i q a;rw[Heap.z9q]at a;split at a
  ·rename_i d;exact .inr d
  ·exact .inl (n.dom l i q a)
 ·intro l i q a;rw[Heap.z9q]at a;split at a
  ·rename_i d;obtain⟨rfl,rfl⟩:=d;rw[yz5.zbu];exact B
  ·rename_i d;rw[yz5.zi0 d];exact Qbj (n.lt l i q a) k.size
 ·intro l i q I J G a m r;rw[Heap.z9q]at a m;split at a
  ·rename_i d;obtain⟨rfl,rfl⟩:=d;split at m
   ·rename_i j;exact⟨j.1.symm,j.2.symm⟩
   ·rename_i j;rw[yz5.zbu,yz5.zi0 j]at r;have:=n.lt _ _ _ m;omega
  ·rename_i d;split at m
   ·rename_i j;obtain⟨rfl,rfl⟩:=j;rw[yz5.zi0 d,yz5.zbu]at r;have:=n.lt _ _ _ a;omega
   ·rename_i j;rw[yz5.zi0 d,yz5.zi0 j]at r;exact n.inj _ _ _ _ _ _ a m r
 ·intro l i h;show l<H.lv∨(l=H.lv∧i<(H.L++[some o]).length)
  rcases h with h|⟨x,B⟩
  ·rcases n.fresh l i h with q|⟨C,F⟩
   ·exact .inl q
   ·exact .inr ⟨C,by simp;omega⟩
  ·exact .inr ⟨x,by simp;omega⟩
 ·intro l i q a;rw[Heap.z9q]at a;split at a
  ·rename_i d;obtain⟨rfl,rfl⟩:=d;cases a;exact D _ _ rfl rfl e
  ·rename_i d;have x:=n.obj l i q a;exact x.mono e (k.block _ (n.lt l i q a)) (by simp[Gh.add,d]) (by simp[Gh.add,d]) (by simp[Gh.add,d])
def yb8(W:World)(g:Gh)(H:Heap)(sz:Nat)(ws:List V)(cells:List Value):Prop :=
 cells.length=ws.length * sz∧∀(j:Nat) (x:V) (t:Nat) (v:V),ws[j]? = some x->x.cells[t]? = some v->∃c,cells[j * sz+t]? = some c∧c.oneCell'=true∧Rel W g H v c
def ydx{P:Program}{f:Nat}{vargs:List V}{lv:Nat}{L:List (Option yz5)}{E:Nat->Nat->Option yz5}{ty sz:Nat}{ws:List V}(N:0<sz)(K:∀(j:Nat) (x:V),ws[j]? = some x->x.cells.length=sz)
  (C:∀args W,(callFunc f args).run P W = .ok (.enter f args) W)
  (D:∀W g b,Good W g ⟨lv,L,E⟩->zlt W g ⟨lv,L,E⟩ vargs b->∃cells,yb8 W g ⟨lv,L,E⟩ sz ws cells ∧
   Calls P f b W λe W'=>∃I,e = .returned I∧W'.ownsRow W.heap.size ty sz I ws.length cells∧Below W.heap.size W W') :
  y0n P f vargs ⟨lv,L,E⟩ λout H'=>(ws=[]∧out = .ret .nils∧H'=⟨lv,L,E⟩)∨(out = .ret (.hs lv L.length 0 0 ws.length false)∧H'=⟨lv,L++[some (.arr 0 ty sz ws none)],E⟩):=λW g b J hA=>by
 have⟨cells,⟨c1,c2⟩,Z⟩:=D W g b J hA;refine⟨C _ _,Z.mono ?_⟩
 rintro e W' ⟨I,rfl,⟨r0,B⟩,H⟩
 have k:=zro H
 rcases B with ⟨rfl,G⟩|⟨i,a,m,rfl,p,z,G,F,Q,M⟩
 ·exact⟨.ret .nils,⟨lv,L,E⟩,g,.inl ⟨Qao G,rfl,rfl⟩,k.step,J.grow k,_,rfl,.nils⟩
 ·have O:i<W'.heap.size:=(Qbn.1 z).1
  have A:∀(j:Nat) (x:V) (t:Nat) (v:V),ws[j]? = some x->x.cells[t]? = some v->∃c,m.getD (j * sz+t) undef=c∧c.oneCell'=true∧Rel W g ⟨lv,L,E⟩ v c:=λj x t v r q=>by
   have⟨c,d,u,s⟩:=c2 j x t v r q;refine⟨c,?_,u,s⟩;rw[<-M]at d;rw[Qaw]at d;split at d
   ·rw[Qbh]at d;rw[Qae,d];rfl
   ·cases d
  have⟨X,U⟩:=good_row J k p O (o:=.arr 0 ty sz ws none) a λg' H' eg eH Y=>by
   subst eg;have R:(g.add lv L.length i a).ab lv L.length=i:=by simp[Gh.add]
   have l:(g.add lv L.length i a).cap lv L.length=a:=by simp[Gh.add]
   refine⟨m,by show W'.heap[(g.add lv L.length i a).ab lv L.length]? = _;rw[R];exact z,N,by show m.size=(g.add lv L.length i a).cap lv L.length * sz;rw[l];exact Q,by show(g.add lv L.length i a).cap lv L.length<=_;rw[l];exact F,by show _<=(g.add lv L.length i a).cap lv L.length;rw[l];exact G,λn h=>(by cases h),K,λj x t v r q =>?_,λj x t v r q =>?_⟩
   ·have⟨c,d,u,_⟩:=A j x t v r q;rw[d];exact u
   ·have⟨c,d,_,s⟩:=A j x t v r q;rw[d];exact s.mono Y
  refine⟨.ret (.hs lv L.length 0 0 ws.length false),⟨lv,L++[some (.arr 0 ty sz ws none)],E⟩,_,.inr ⟨rfl,rfl⟩,X,U,_,rfl,?_⟩;refine .hs lv L.length 0 0 ws.length false _ _ _ (.inr ⟨rfl,rfl⟩) (λv w y xs T h =>?_) λw y xs T h =>?_
  ·exact Qbv _
  ·have h:(Heap.push ⟨lv,L,E⟩ (.arr 0 ty sz ws none)).get lv L.length=some (.arr 0 w y xs T):=h;rw[Heap.z9q,Qbx ⟨rfl,rfl⟩]at h;injection h with h;injection h with _ u s h4 h5;subst u;subst s;subst h4;subst h5;refine⟨by simp[Gh.add],rfl,⟨G,?_,λh=>by cases h⟩,by omega⟩;show 0+a<=(g.add lv L.length i a).cap lv L.length;simp[Gh.add]
def ymh{W:World}{g:Gh}{H:Heap}{v:V}{a:Array Value}(h:zlt W g H [v] a):∃c,a = #[c]∧Rel W g H v c:=by
 have⟨j,i⟩:=h;have b:a.toList.length=1:=by simpa using j
 have⟨c,e⟩:=List.length_eq_one_iff.1 b;have d:a = #[c]:=by rw[<-Array.toList_inj,e]
 subst d;exact⟨c,rfl,by simpa using i 0 _ rfl⟩
def y6i{D:Dat}{lv:Nat}{L:List (Option yz5)}{ty:Nat}{τ:DTy}{xs:List (τ.S D.T)}{ws:List V}(m:ws.length=xs.length)(w:∀(j:Nat) (x:τ.S D.T) (v:V),xs[j]? = some x->ws[j]? = some v->DR D τ x v){out:Out}{E:Nat->Nat->Option yz5}{H':Heap}
  (h:(ws=[]∧out = .ret .nils∧H'=⟨lv,L,E⟩)∨(out = .ret (.hs lv L.length 0 0 ws.length false)∧H'=⟨lv,L++[some (.arr 0 ty (D.len τ) ws none)],E⟩)) :
  ∃L' ρ',H'=⟨lv,L',E⟩∧Left D lv L [] 0 L' ρ' [.acc ty τ true] ((xs,()):HL D.T [.sl τ])∧∃vs,out = .ret (ze6 vs)∧VRL D ρ' lv [.own 0] vs:=by
 have main:∀(L':List (Option yz5)) (sl:Slot),L.length<=L'.length->(∀i,i<L.length->L'[i]? = L[i]?)->(∀i,sl.has i->L.length<=i)->sl.fp=[]->OR D [sl] lv L' sl (.acc ty τ xs true)->sl.v.leaf=true->out = .ret sl.v->H'=⟨lv,L',E⟩ ->
   ∃L' ρ',H'=⟨lv,L',E⟩∧Left D lv L [] 0 L' ρ' [.acc ty τ true] ((xs,()):HL D.T [.sl τ])∧∃vs,out = .ret (ze6 vs)∧VRL D ρ' lv [.own 0] vs:=λL' sl M G F I C B A z=>by
  refine⟨L',[sl],z,⟨rfl,λj o d =>?_,λs K t J i a p _ _ =>?_,λs t i a e =>?_,λi g _=>⟨by omega,G i g⟩,λj t n=>absurd n (Nat.not_lt_zero _),λs t i a e =>?_⟩,[sl.v],A,?_⟩
  ·have d:(j,o)∈[(0,(TO.acc ty τ xs true:TO D.T))]:=d;simp only[Qbc,Qbz]at d;obtain⟨rfl,rfl⟩:=d;exact⟨sl,rfl,C⟩
  ·have b:=(Qaa.1 a).1;have q:=(Qaa.1 p).1;simp at b q;omega
  ·have b:=(Qaa.1 a).1;have:s=0:=by simp at b;omega
   subst this;obtain rfl:sl=t:=by simpa using a
   exact .inl (F i e)
  ·have b:=(Qaa.1 a).1;have:s=0:=by simp at b;omega
   subst this;obtain rfl:sl=t:=by simpa using a
   rw[I]at e;cases e
  ·simp only[VRL,VR];exact⟨_,_,rfl,⟨sl,rfl,rfl,B⟩,rfl⟩
 rcases h with ⟨l,k,y⟩|⟨l,k⟩
 ·refine main L ⟨.nils,none,[],[]⟩ (Qbw _) (λ_ _=>rfl) (λi h=>by rcases h with h|h <;> cases h) rfl ?_ rfl k y;simp only[OR];have r:xs=[]:=Qao (by rw[<-m,l];rfl);refine⟨by rw[r];rfl,λj x v n u=>(by simp at u),?_⟩;exact .inl ⟨trivial,trivial⟩
 ·refine main _ ⟨.hs lv L.length 0 0 ws.length false,some L.length,ws,[]⟩ (by simp) (λi g=>by rw[Qal g]) (λi h=>by rcases h with h|h;(injection h with h;omega);cases h) rfl ?_ rfl l k;simp only[OR];exact⟨m,w,0,none,rfl,by simp⟩
def ymv(D:Dat)(f ty:Nat)(τ:DTy)(go:Nat->List (τ.S D.T)->Option (List (τ.S D.T))):FI D :=
 {R:=List (τ.S D.T),ent:=λn=>{f:=f,p:=0,args:=[.d (.sl τ)],aos:=[],outs:=[.own 0],ros:=[.acc ty τ true],pan:=.nilp,pos:=[],pure:=false,go:=λx k _=>(go n x.1).bind λr=>k (r,())},
   c:=.skip,K:=⟨λ_=>none,[],λ_=>none,λ_ _=>none⟩,p:=0,args:=[],aos:=[],nt:=0,z6m:=λ_=>[],go:=λ_ _=>none}
def ytr{P:Program}{D:Dat}(hD:D.Ok P){f ty bytes:Nat}{τ:DTy}(A:0<D.len τ)(O:bytes<=524288)(N:∀args W,(callFunc f args).run P W = .ok (.enter f args) W)
  (B:∀(a:Addr) (n c:Nat) (cells:List Value) (w:World),cells.length=n * D.len τ->(∀j u,cells[j]? = some u->w.cell? (a.add j)=some u)->(∀u∈cells,u.oneCell'=true)->n<=maxLen->n * bytes<=140737488355328 ->
   Calls P f #[.slice (some a) n c] w λe Q=>∃J,e = .returned J∧Q.ownsRow w.heap.size ty (D.len τ) J n cells∧Below w.heap.size w Q)
  (F:∀(w:World),Calls P f #[.slice none 0 0] w λe Q=>e = .returned (.slice none 0 0)∧Q=w)
  (xs:List (τ.S D.T)) (hlen:xs.length<=8388608) (go:Nat->List (τ.S D.T)->Option (List (τ.S D.T))) (n:Nat):((ymv D f ty τ go).ent n).Flat P ((xs,()):HL D.T [.sl τ]) (.inl ((xs,()):HL D.T [.sl τ])):=by
 intro lv L E ρ0 vargs k1 R k3 k4;obtain rfl:ρ0=[]:=Qao k1;have R:VRL D [] lv [.sl τ xs 0] vargs:=R;simp only[VRL,VR]at R;obtain⟨v,rr,rfl,⟨hv,_,_⟩,rfl⟩:=R
 have hw:∃ws:List V,ws.length=xs.length∧(∀(j:Nat) (y:τ.S D.T) (u:V),xs[j]? = some y->ws[j]? = some u->DR D τ y u)∧(∀(j:Nat) (u:V),ws[j]? = some u->u.cells.length=D.len τ)∧((v = .nils∧ws=[])∨∃full,v = .sl (D.len τ) ws full):=by
  have Z:DR D (.sl τ) xs v:=hv;clear hv hlen
  cases Z with
  |nil=>exact⟨[],rfl,λj y u k=>by simp at k,λj u k=>by simp at k,.inl ⟨rfl,rfl⟩⟩
  |sl _ _ ws full hl hd=>
   refine⟨ws,hl,hd,λj u k =>?_,.inr ⟨full,rfl⟩⟩;have p:=(Qaa.1 k).1;exact(hd j _ u (Qab (by omega)) k).cells hD
 have⟨ws,w1,w2,U,w4⟩:=hw;have G:ws.length<=8388608:=by rw[w1];exact hlen
 have H:ws.length<=maxLen:=by simp only[maxLen];omega
 have h5:ws.length * bytes<=140737488355328:=Qbk (Nat.mul_le_mul G O) (by decide)
 have hh:=ydx (P:=P) (f:=f) (vargs:=[v]) (lv:=lv) (L:=L) (E:=E) (ty:=ty) (ws:=ws) A U N λW g h6 hG hA=>by
  obtain⟨c,rfl,hc⟩:=ymh hA
  have empty:ws=[]->∃cells,yb8 W g ⟨lv,L,E⟩ (D.len τ) ws cells∧∀(a:Option Addr) (d:Nat),(a=none->d=0)->Calls P f #[.slice a 0 d] W λe W'=>∃J,e = .returned J∧W'.ownsRow W.heap.size ty (D.len τ) J ws.length cells∧Below W.heap.size W W':=λY=>by
   subst Y;refine⟨[],⟨by simp,λj y t u k=>by simp at k⟩,λa d ha =>?_⟩
   cases a with
   |none=>
    obtain rfl:=ha rfl;refine(F W).mono ?_
    rintro e W' ⟨rfl,rfl⟩
    exact⟨_,rfl,⟨by simp,.inl ⟨rfl,rfl⟩⟩,.refl _ _⟩
   |some a=>exact B a 0 d [] W (by simp) (by simp) (by simp) (Qbv _) (by simp)
  rcases w4 with ⟨rfl,Y⟩|⟨full,rfl⟩
  ·have⟨cells,x,z⟩:=empty Y;cases hc;exact⟨cells,x,z none 0 λ_=>rfl⟩
  ·cases hc with
   |slnil=>have⟨cells,x,z⟩:=empty rfl;exact⟨cells,x,z none 0 λ_=>rfl⟩
   |sle _ _ a d hf=>have⟨cells,x,z⟩:=empty rfl;exact⟨cells,x,z (some a) d λh=>by cases h⟩
   |sl _ _ _ b o d c hb hz h7 hf hs s K hr=>
    have get:∀q,q<ws.length * D.len τ->∃(j t:Nat) (y u:V),ws[j]? = some y∧y.cells[t]? = some u∧q=j * D.len τ+t∧t<D.len τ:=λq m=>by
     have k:q / D.len τ<ws.length:=Nat.div_lt_of_lt_mul (by rw[Nat.mul_comm];exact m);have C:q % D.len τ<D.len τ:=Nat.mod_lt _ A;have hy:=Qab k;have r:=U _ _ hy;have X:=Qab (l:=(ws[q / D.len τ]).cells) (i:=q % D.len τ) (by rw[r];exact C);exact⟨q / D.len τ,q % D.len τ,_,_,hy,X,by rw[Nat.mul_comm];exact(Nat.div_add_mod q (D.len τ)).symm,C⟩
    have I:∀q,q<ws.length * D.len τ->∃u,W.cell? ⟨b,o+q,none⟩=some u∧u.oneCell'=true:=λq m=>by
     have⟨j,t,y,u,h1,h2,h3,_⟩:=get q m;exact⟨_,by rw[h3,<-Nat.add_assoc];exact s j y t u h1 h2,K j y t u h1 h2⟩
    let cells:List Value:=(List.range (ws.length * D.len τ)).map λq=>(W.cell? ⟨b,o+q,none⟩).getD undef
    have r:cells.length=ws.length * D.len τ:=by simp[cells]
    have M:∀q u,cells[q]? = some u->W.cell? ⟨b,o+q,none⟩=some u∧u.oneCell'=true:=λq u m=>by
     have p:q<ws.length * D.len τ:=by rw[<-r];exact(Qaa.1 m).1
     have⟨w,x,z⟩:=I q p;have:cells[q]? = some w:=by simp[cells,p,x]
     rw[m]at this;cases this
     exact⟨x,z⟩
    refine⟨cells,⟨r,λj y t u k C =>?_⟩,B ⟨b,o,none⟩ ws.length d cells W r (λq u m =>?_) (λu X =>?_) H h5⟩
    ·have e:=s j y t u k C;have h4:=(Qaa.1 k).1;have h8:t<D.len τ:=by rw[<-U j y k];exact(Qaa.1 C).1
     have p:j * D.len τ+t<ws.length * D.len τ:=by
      have:(j+1) * D.len τ<=ws.length * D.len τ:=Qau _ h4;rw[Nat.add_mul]at this;omega
     refine⟨c j t,by simp[cells,p,<-Nat.add_assoc,e],K j y t u k C,hr j y t u k C⟩
    ·have e:(⟨b,o,none⟩:Addr).add q=⟨b,o+q,none⟩:=by simp[Addr.add]
     rw[e];exact(M q u m).1
    ·have⟨q,m⟩:=List.mem_iff_getElem?.1 X;exact(M q u m).2
 refine hh.mono λout H' ho =>?_
 have⟨L',ρ',x,z,e3⟩:=y6i (D:=D) (xs:=xs) w1 w2 ho;exact⟨L',ρ',x,z,(λq m=>by cases m),e3⟩
def z02u{P:Program}{D:Dat}(hD:D.Ok P){f ty bytes:Nat}{τ:DTy}(d:0<D.len τ)(l:bytes<=524288)(g:∀args W,(callFunc f args).run P W = .ok (.enter f args) W)
  (i:∀(a:Addr) (n c:Nat) (cells:List Value) (w:World),cells.length=n * D.len τ->(∀j u,cells[j]? = some u->w.cell? (a.add j)=some u)->(∀u∈cells,u.oneCell'=true)->n<=maxLen->n * bytes<=140737488355328 ->
   Calls P f #[.slice (some a) n c] w λe m=>∃p,e = .returned p∧m.ownsRow w.heap.size ty (D.len τ) p n cells∧Below w.heap.size w m)
  (b:∀(w:World),Calls P f #[.slice none 0 0] w λe m=>e = .returned (.slice none 0 0)∧m=w) :
  FOk P (ymv D f ty τ λ_ xs=>if xs.length<=8388608 then some xs else none):=λn R x k s r h=>by
 have h:((if x.1.length<=8388608 then some x.1 else none).bind λr=>k (r,()))=some r:=h;have⟨r0,o,q⟩:=zrf h;split at o
 case isFalse=>cases o
 rename_i hlen;cases o;exact .inl ⟨(x.1,()),q,ytr hD d l g i b x.1 hlen _ n⟩
def yo6(D:Dat)(f ty:Nat)(τ:DTy)(go:Nat->Int->Option (List (τ.S D.T))):FI D :=
 {R:=List (τ.S D.T),ent:=λn=>{f:=f,p:=0,args:=[.nils,.d (.int .i64)],aos:=[],outs:=[.own 0],ros:=[.acc ty τ true],pan:=.nilp,pos:=[],pure:=false,go:=λx k _=>(go n x.1).bind λr=>k (r,())},
   c:=.skip,K:=⟨λ_=>none,[],λ_=>none,λ_ _=>none⟩,p:=0,args:=[],aos:=[],nt:=0,z6m:=λ_=>[],go:=λ_ _=>none}
def yyg{P:Program}{D:Dat}{f ty:Nat}{τ:DTy}(k:0<D.len τ)(l:∀args W,(callFunc f args).run P W = .ok (.enter f args) W)
  (o:∀(n:Nat) (w:World),n<=8388608->Calls P f #[.slice none 0 0,.int .i64 n] w λe z=>∃A,e = .returned A∧z.ownsRow w.heap.size ty (D.len τ) A 0 []∧Below w.heap.size w z)
  (m:Int) (hlen:0<=m∧m<=8388608) (go:Nat->Int->Option (List (τ.S D.T))) (n:Nat):((yo6 D f ty τ go).ent n).Flat P ((m,()):HL D.T [.int .i64]) (.inl ((([]:List (τ.S D.T)),()):HL D.T [.sl τ])):=by
 intro lv L E G vargs I p k3 H;obtain rfl:G=[]:=Qao I;have p:VRL D [] lv [.nils,.int .i64 m] vargs:=p;simp only[VRL,VR]at p;obtain⟨v,Y,rfl,rfl,X,Z,rfl,rfl,rfl⟩:=p
 have K:=ydx (P:=P) (f:=f) (vargs:=[.nils,.int .i64 m]) (lv:=lv) (L:=L) (E:=E) (ty:=ty) (ws:=[]) k (λj u i=>by simp at i) l λW g d hG N=>by
  refine⟨[],⟨by simp,λj y t u i=>by simp at i⟩,?_⟩;have⟨O,F⟩:=N;have s:d.toList.length=2:=by simpa using O
  obtain⟨a,b,M⟩:∃a b,d.toList=[a,b]:=by
   match h:d.toList,s with
   |[a,b],_=>exact⟨a,b,rfl⟩
  have x:d = #[a,b]:=by rw[<-Array.toList_inj,M]
  subst x;have C:=F 0 _ rfl;have B:=F 1 _ rfl;simp at C B;cases C;cases B;have⟨q,r⟩:=Int.eq_ofNat_of_zero_le hlen.1;rw[r];exact o q W (by omega)
 refine K.mono λout H' J =>?_
 have⟨L',ρ',U,R,Q⟩:=y6i (D:=D) (xs:=([]:List (τ.S D.T))) (ws:=[]) rfl (λj y u i=>by simp at i) J;exact⟨L',ρ',U,R,(λq r=>by cases r),Q⟩
def yvy{P:Program}{D:Dat}{f ty:Nat}{τ:DTy}(a:0<D.len τ)(b:∀args W,(callFunc f args).run P W = .ok (.enter f args) W)
  (d:∀(n:Nat) (w:World),n<=8388608->Calls P f #[.slice none 0 0,.int .i64 n] w λe i=>∃j,e = .returned j∧i.ownsRow w.heap.size ty (D.len τ) j 0 []∧Below w.heap.size w i) :
  FOk P (yo6 D f ty τ λ_ n=>if 0<=n∧n<=8388608 then some []else none):=λn R x k o r h=>by
 have⟨m,u⟩:=x;change Int at m;have h:((if 0<=m∧m<=8388608 then some ([]:List (τ.S D.T))else none).bind λr=>k (r,()))=some r:=h;have⟨r0,g,l⟩:=zrf h;split at g
 case isFalse=>cases g
 rename_i hlen;cases g;exact .inl ⟨([],()),l,yyg a b d m hlen _ n⟩
def yw9{P:Program}{f:Nat}{vargs:List V}{ty sz:Nat}{ws:List V}(D:0<sz)(B:∀(j:Nat) (x:V),ws[j]? = some x->x.cells.length=sz)
  (r:∀args W,(callFunc f args).run P W = .ok (.enter f args) W)
  (s:∀H W g a,Good W g H->zlt W g H vargs a->∃cells,yb8 W g H sz ws cells ∧
   Calls P f a W λe W'=>∃u,e = .returned u∧W'.ownsRow W.heap.size ty sz u ws.length cells∧Below W.heap.size W W') :
  zw3 P f vargs (.sl sz ws false):=λH W g a z M=>by
 have⟨cells,⟨R,N⟩,K⟩:=s H W g a z M;refine .inl ⟨r _ _,K.mono ?_⟩
 rintro e W' ⟨u,rfl,⟨r0,q⟩,L⟩
 have n:=zro L;refine⟨u,g,rfl,n.step,z.grow n,?_⟩
 rcases q with ⟨rfl,y⟩|⟨I,E,b,rfl,G,p,y,J,Q,C⟩
 ·obtain rfl:=Qao y;exact .slnil _ _
 ·have O:I<W'.heap.size:=(Qbn.1 p).1
  have F:∀(j:Nat) (x:V) (t:Nat) (v:V),ws[j]? = some x->x.cells[t]? = some v->∃c,b[j * sz+t]? = some c∧c.oneCell'=true∧Rel W g H v c:=λj x t v k d=>by
   have⟨c,m,w,A⟩:=N j x t v k d;refine⟨c,?_,w,A⟩;rw[<-C]at m;rw[Qaw]at m;split at m
   ·rw[Qbh]at m;exact m
   ·cases m
  have get:∀(j:Nat) (x:V) (t:Nat) (v:V),ws[j]? = some x->x.cells[t]? = some v->b[j * sz+t]? = some (b.getD (j * sz+t) undef)∧(b.getD (j * sz+t) undef).oneCell'=true∧Rel W g H v (b.getD (j * sz+t) undef):=λj x t v k d=>by
   have⟨c,m,w,A⟩:=F j x t v k d;rw[Qae,m];exact⟨rfl,w,A⟩
  refine .sl sz ws false I 0 E (λj t=>b.getD (j * sz+t) undef) ?_ D y (λh=>by cases h) B (λj x t v k d =>?_) (λj x t v k d=>(get j x t v k d).2.1) λj x t v k d=>(get j x t v k d).2.2.mono n.step
  ·rintro ⟨l,i,o,h,w⟩
   have:=z.lt l i o h;omega
  ·rw[Nat.zero_add,<-(get j x t v k d).1];simp only[World.cell?,p];rfl
def yra(D:Dat)(f:Nat)(τ:DTy)(go:Nat->List (τ.S D.T)->Option (List (τ.S D.T))):FI D :=
 {R:=List (τ.S D.T),ent:=λn=>{f:=f,p:=0,args:=[.d (.sl τ)],aos:=[],outs:=[.d (.sl τ)],ros:=[],pan:=.nilp,pos:=[],pure:=true,go:=λx k _=>(go n x.1).bind λr=>k (r,())},
   c:=.skip,K:=⟨λ_=>none,[],λ_=>none,λ_ _=>none⟩,p:=0,args:=[],aos:=[],nt:=0,z6m:=λ_=>[],go:=λ_ _=>none}
def yxl{P:Program}{D:Dat}(hD:D.Ok P){f ty bytes:Nat}{τ:DTy}(C:0<D.len τ)(U:bytes<=524288)(Q:∀args W,(callFunc f args).run P W = .ok (.enter f args) W)
  (E:∀(a:Addr) (n c:Nat) (cells:List Value) (w:World),cells.length=n * D.len τ->(∀j u,cells[j]? = some u->w.cell? (a.add j)=some u)->(∀u∈cells,u.oneCell'=true)->n<=maxLen->n * bytes<=140737488355328 ->
   Calls P f #[.slice (some a) n c] w λe X=>∃M,e = .returned M∧X.ownsRow w.heap.size ty (D.len τ) M n cells∧Below w.heap.size w X)
  (I:∀(w:World),Calls P f #[.slice none 0 0] w λe X=>e = .returned (.slice none 0 0)∧X=w) :
  FOk P (yra D f τ λ_ xs=>if xs.length<=8388608 then some xs else none):=λn R x k kp r h=>by
 have h:((if x.1.length<=8388608 then some x.1 else none).bind λr=>k (r,()))=some r:=h;have⟨r0,L,Z⟩:=zrf h;split at L
 case isFalse=>cases L
 rename_i hlen;cases L;have⟨xs,u⟩:=x;change List (τ.S D.T)at xs;refine⟨(xs,()),Z,rfl,rfl,rfl,λlv vargs Y =>?_⟩;have Y:VRL D [] lv [.sl τ xs 0] vargs:=Y;simp only[VRL,VR]at Y;obtain⟨v,rr,rfl,⟨hv,_,_⟩,rfl⟩:=Y;have hlen:xs.length<=8388608:=hlen
 have hw:∃ws:List V,ws.length=xs.length∧(∀(j:Nat) (y:τ.S D.T) (u:V),xs[j]? = some y->ws[j]? = some u->DR D τ y u)∧(∀(j:Nat) (u:V),ws[j]? = some u->u.cells.length=D.len τ)∧((v = .nils∧ws=[])∨∃full,v = .sl (D.len τ) ws full):=by
  have h5:DR D (.sl τ) xs v:=hv;clear hv hlen
  cases h5 with
  |nil=>exact⟨[],rfl,λj y u m=>by simp at m,λj u m=>by simp at m,.inl ⟨rfl,rfl⟩⟩
  |sl _ _ ws full hl hd=>
   refine⟨ws,hl,hd,λj u m =>?_,.inr ⟨full,rfl⟩⟩;have p:=(Qaa.1 m).1;exact(hd j _ u (Qab (by omega)) m).cells hD
 have⟨ws,w1,w2,w3,w4⟩:=hw;have J:ws.length<=8388608:=by rw[w1];exact hlen
 have h6:ws.length<=maxLen:=by simp only[maxLen];omega
 have h8:ws.length * bytes<=140737488355328:=Qbk (Nat.mul_le_mul J U) (by decide);refine⟨[.sl (D.len τ) ws false],λρ h4 =>?_,?_⟩
 ·show VRL D ρ h4 [TV.sl τ xs 0] _;simp only[VRL,VR];exact⟨_,_,rfl,⟨.sl _ _ _ _ w1 w2,(λh=>absurd h (by decide)),(λh=>absurd h (by decide))⟩,rfl⟩
 refine yw9 (ty:=ty) C w3 Q λH W g h9 hG hA=>by
  obtain⟨c,rfl,hc⟩:=ymh hA
  have empty:ws=[]->∃cells,yb8 W g H (D.len τ) ws cells∧∀(a:Option Addr) (d:Nat),(a=none->d=0)->Calls P f #[.slice a 0 d] W λe W'=>∃M,e = .returned M∧W'.ownsRow W.heap.size ty (D.len τ) M ws.length cells∧Below W.heap.size W W':=λhe=>by
   subst he;refine⟨[],⟨by simp,λj y t u m=>by simp at m⟩,λa d ha =>?_⟩
   cases a with
   |none=>
    obtain rfl:=ha rfl;refine(I W).mono ?_
    rintro e W' ⟨rfl,rfl⟩
    exact⟨_,rfl,⟨by simp,.inl ⟨rfl,rfl⟩⟩,.refl _ _⟩
   |some a=>exact E a 0 d [] W (by simp) (by simp) (by simp) (Qbv _) (by simp)
  rcases w4 with ⟨rfl,he⟩|⟨full,rfl⟩
  ·have⟨cells,B,G⟩:=empty he;cases hc;exact⟨cells,B,G none 0 λ_=>rfl⟩
  ·cases hc with
   |slnil=>have⟨cells,B,G⟩:=empty rfl;exact⟨cells,B,G none 0 λ_=>rfl⟩
   |sle _ _ a d hf=>have⟨cells,B,G⟩:=empty rfl;exact⟨cells,B,G (some a) d λh=>by cases h⟩
   |sl _ _ _ b o d c hb hz hg hf hs z N hr=>
    have get:∀q,q<ws.length * D.len τ->∃(j t:Nat) (y u:V),ws[j]? = some y∧y.cells[t]? = some u∧q=j * D.len τ+t∧t<D.len τ:=λq A=>by
     have m:q / D.len τ<ws.length:=Nat.div_lt_of_lt_mul (by rw[Nat.mul_comm];exact A);have F:q % D.len τ<D.len τ:=Nat.mod_lt _ C;have hy:=Qab m;have s:=w3 _ _ hy;have hu:=Qab (l:=(ws[q / D.len τ]).cells) (i:=q % D.len τ) (by rw[s];exact F);exact⟨q / D.len τ,q % D.len τ,_,_,hy,hu,by rw[Nat.mul_comm];exact(Nat.div_add_mod q (D.len τ)).symm,F⟩
    have K:∀q,q<ws.length * D.len τ->∃u,W.cell? ⟨b,o+q,none⟩=some u∧u.oneCell'=true:=λq A=>by
     have⟨j,t,y,u,L,Z,h3,_⟩:=get q A;exact⟨_,by rw[h3,<-Nat.add_assoc];exact z j y t u L Z,N j y t u L Z⟩
    let cells:List Value:=(List.range (ws.length * D.len τ)).map λq=>(W.cell? ⟨b,o+q,none⟩).getD undef
    have s:cells.length=ws.length * D.len τ:=by simp[cells]
    have O:∀q u,cells[q]? = some u->W.cell? ⟨b,o+q,none⟩=some u∧u.oneCell'=true:=λq u A=>by
     have p:q<ws.length * D.len τ:=by rw[<-s];exact(Qaa.1 A).1
     have⟨w,B,G⟩:=K q p;have:cells[q]? = some w:=by simp[cells,p,B]
     rw[A]at this;cases this
     exact⟨B,G⟩
    refine⟨cells,⟨s,λj y t u m F =>?_⟩,E ⟨b,o,none⟩ ws.length d cells W s (λq u A =>?_) (λu hu =>?_) h6 h8⟩
    ·have e:=z j y t u m F;have h7:=(Qaa.1 m).1;have hh:t<D.len τ:=by rw[<-w3 j y m];exact(Qaa.1 F).1
     have p:j * D.len τ+t<ws.length * D.len τ:=by
      have:(j+1) * D.len τ<=ws.length * D.len τ:=Qau _ h7;rw[Nat.add_mul]at this;omega
     refine⟨c j t,by simp[cells,p,<-Nat.add_assoc,e],N j y t u m F,hr j y t u m F⟩
    ·have e:(⟨b,o,none⟩:Addr).add q=⟨b,o+q,none⟩:=by simp[Addr.add]
     rw[e];exact(O q u A).1
    ·have⟨q,A⟩:=List.mem_iff_getElem?.1 hu;exact(O q u A).2
def ylq(P:Program)(f sz:Nat):Prop:=∀(blk g i j n:Nat) (d:Array Value) (ty:TypeId) (w:World),w.heap[blk]? = some (.cells d ty (0,0))->n<=g->g * sz<=d.size->g<=9223372036854775807->i<j->j<=n ->
 (∀t,t<n * sz->(d.getD t undef).oneCell'=true)->Calls P f #[.slice (some ⟨blk,0,none⟩) n g,.int .i64 i,.int .i64 j] w λe h=>e = .returned (.slice (some ⟨blk,0,none⟩) (n-(j-i)) g) ∧
  h.os=w.os∧h.tape=w.tape∧h.output=w.output∧h.heap.size=w.heap.size∧(∀b,b≠blk->h.heap[b]? = w.heap[b]?) ∧
  ∃a:Array Value,h.heap[blk]? = some (.cells a ty (0,0))∧a.size=d.size∧(∀t,t<i * sz->a[t]? = d[t]?)∧∀t,t<(n-j) * sz->a[i * sz+t]? = d[j * sz+t]?
def zvy{α:Type}(l:List α)(i j t:Nat)(d:i<=j)(x:α)(h:(l.take i++l.drop j)[t]? = some x):(t<i∧l[t]? = some x)∨(i<=t∧i<=l.length∧l[j+(t-i)]? = some x):=by
 rw[Qbe]at h;simp only[Qay]at h;split at h
 ·rename_i a;rw[Qaw]at h;split at h
  ·exact .inl ⟨‹_›,h⟩
  ·cases h
 ·rename_i a;rw[Qbf]at h;by_cases b:i<=l.length
  ·rw[show min i l.length=i by omega]at h;exact .inr ⟨by omega,b,h⟩
  ·have:=(Qaa.1 h).1;omega
def z018{P:Program}{f sz ty:Nat}(F:0<sz)(R:∀args W,(callFunc f args).run P W = .ok (.enter f args) W)(T:ylq P f sz)
  {lv k d n i j:Nat} {L:List (Option yz5)}{E:Nat->Nat->Option yz5}{ws:List V}{cp:Option Nat}(hL:L[k]? = some (some (.arr d ty sz ws cp))) (Y:n=ws.length) (h8:i<j) (hj:j<=n) :
  y0n P f [.hs lv k d 0 n false,.int .i64 i,.int .i64 j] ⟨lv,L,E⟩ λo H'=>o = .ret (.hs lv k (d+1) 0 (n-(j-i)) false)∧H'=⟨lv,L.set k (some (.arr (d+1) ty sz (ws.take i++ws.drop j) none)),E⟩:=by
 intro W g w hG hR;have Z:(⟨lv,L,E⟩:Heap).get lv k=some (.arr d ty sz ws cp):=by simp[Heap.get,hL]
 obtain⟨x,rfl,h0⟩:∃x,w = #[x,.int .i64 i,.int .i64 j]∧Rel W g ⟨lv,L,E⟩ (.hs lv k d 0 n false) x:=by
  have⟨y,q⟩:=hR;have hi:=q 0 _ rfl;have hh:=q 1 _ rfl;have hf:=q 2 _ rfl;have⟨l⟩:=w
  match l,y with
  |[a,b,c],_=>
   have D:Rel W g ⟨lv,L,E⟩ (.int .i64 i) b:=hh;have C:Rel W g ⟨lv,L,E⟩ (.int .i64 j) c:=hf;cases D;cases C;exact⟨a,rfl,hi⟩
 refine⟨R _ _,?_⟩
 cases h0 with
 |hs _ _ _ _ _ _ a m I hd hv ha=>
  obtain⟨rfl,rfl,⟨a1,a2,_⟩,a3⟩:=ha _ _ _ _ Z;have⟨s,k1,k2,k3,h4,k4,k5,B,k7,k8⟩:=hG.obj _ _ _ Z;rw[Nat.zero_mul];have U:I * sz<=s.size:=by rw[k3];exact Qau _ (by omega)
  have hb:g.ab lv k<W.heap.size:=(Qbn.1 k1).1
  have h9:I<=9223372036854775807:=by
   have:maxLen<=9223372036854775807:=by decide
   omega
  refine(T (g.ab lv k) I i j m s ty W k1 a1 U h9 h8 hj (λt p =>?_)).mono ?_
  ·have hq:t / sz<ws.length:=by rw[<-Y];exact(Nat.div_lt_iff_lt_mul F).2 p
   have hx:ws[t / sz]? = some (ws[t / sz]'hq):=Qab hq;have hl:=B _ _ hx;have hr:t % sz<(ws[t / sz]'hq).cells.length:=by rw[hl];exact Nat.mod_lt _ F
   have:=k7 _ _ (t % sz) _ hx (Qab hr);rw[show t / sz * sz+t % sz=t from Nat.div_add_mod' t sz]at this;exact this
  rintro e W' ⟨rfl,w1,w2,w3,w4,w5,r,w6,w7,w8,w9⟩
  have X:∀t,t<i * sz->r.getD t undef=s.getD t undef:=λt p=>by rw[Qae,Qae,w8 t p]
  have y3q:∀t,t<(m-j) * sz->r.getD (i * sz+t) undef=s.getD (j * sz+t) undef:=λt p=>by rw[Qae,Qae,w9 t p]
  have place:∀(t:Nat) (x:V) (u:Nat),(ws.take i++ws.drop j)[t]? = some x->u<sz->∃J,ws[J]? = some x∧r.getD (t * sz+u) undef=s.getD (J * sz+u) undef:=λt x u p K=>by
   rcases zvy ws i j t (by omega) x p with ⟨y,q⟩|⟨y,q,A⟩
   ·refine⟨t,q,X _ ?_⟩
    calc t * sz+u<t * sz+sz:=by omega
     _=(t+1) * sz:=by rw[Nat.succ_mul]
     _<=i * sz:=Qau _ y
   ·refine⟨_,A,?_⟩;have G:=(Qaa.1 A).1
    have:=y3q ((t-i) * sz+u) (by
     calc (t-i) * sz+u<(t-i) * sz+sz:=by omega
      _=(t-i+1) * sz:=by rw[Nat.succ_mul]
      _<=(m-j) * sz:=Qau _ (by omega))
    rw[show i * sz+((t-i) * sz+u)=t * sz+u by rw[<-Nat.add_assoc,<-Nat.add_mul];congr 2;omega,show j * sz+((t-i) * sz+u)=(j+(t-i)) * sz+u by rw[<-Nat.add_assoc,<-Nat.add_mul]]at this;exact this
  have hlen:(ws.take i++ws.drop j).length=m-(j-i):=by simp;omega
  have⟨q1,q2⟩:=zjs (W':=W') hG (o':=.arr (d+1) ty sz (ws.take i++ws.drop j) none) Z rfl w1 w2 w3 (by omega) (λb hm hc=>w5 b hc)
   (λhk M N zs O he=>by injection he with D C e3 e4 e5;subst D;subst C;subst e3;subst e4;exact⟨_,_,_,rfl,by omega,λe=>by omega⟩) (λh7=>by
   refine⟨r,w6,F,by rw[w7];exact k3,h4,by rw[hlen];omega,λn Y=>by(cases Y),λt x p =>?_,λt x u v p K =>?_,λt x u v p K =>?_⟩
   ·rcases zvy ws i j t (by omega) x p with ⟨y,q⟩|⟨y,q,A⟩
    ·exact B _ _ q
    ·exact B _ _ A
   ·have h5:x.cells.length=sz:=by
     rcases zvy ws i j t (by omega) x p with ⟨y,q⟩|⟨y,q,A⟩
     ·exact B _ _ q
     ·exact B _ _ A
    have h6:=(Qaa.1 K).1;have⟨J,D,C⟩:=place t x u p (by omega);rw[C];exact k7 J x u v D K
   ·have h5:x.cells.length=sz:=by
     rcases zvy ws i j t (by omega) x p with ⟨y,q⟩|⟨y,q,A⟩
     ·exact B _ _ q
     ·exact B _ _ A
    have h6:=(Qaa.1 K).1;have⟨J,D,C⟩:=place t x u p (by omega)
    rw[C];exact(k8 J x u v D K).mono h7)
  have Q:(⟨lv,L,E⟩:Heap).set lv k (.arr (d+1) ty sz (ws.take i++ws.drop j) none)=⟨lv,L.set k (some (.arr (d+1) ty sz (ws.take i++ws.drop j) none)),E⟩:=by simp only[Heap.set,Qbx]
  rw[Q]at q1 q2;have G:=(Qaa.1 hL).1;refine⟨.ret (.hs lv k (d+1) 0 (m-(j-i)) false),_,g,⟨rfl,rfl⟩,q1,q2,_,rfl,?_⟩;refine .hs _ _ _ _ _ _ _ _ _ hd (λv' M N H O z =>?_) λM N H O z =>?_
  ·simp[Heap.get,G]at z;omega
  ·simp only[Heap.get,if_true,Qaq G,Option.join_some,Qbu,yz5.arr.injEq]at z;obtain⟨_,_,rfl,rfl,rfl⟩:=z;exact⟨by rw[Nat.zero_mul],rfl,⟨by omega,by omega,λh=>by cases h⟩,by rw[hlen];omega⟩
def z02i(D:Dat)(f ty q:Nat)(go:Nat->List (D.T q)->Int->Int->Option (List (D.T q))):FI D :=
 {R:=List (D.T q),ent:=λn=>{f:=f,p:=0,args:=[.own 0,.d (.int .i64),.d (.int .i64)],aos:=[.deep ty q],outs:=[.own 0],ros:=[.deep ty q],pan:=.nilp,pos:=[.deep ty q],pure:=false,go:=λx k _=>(go n x.2.2.1 x.1 x.2.1).bind λr=>k (r,())},
   c:=.skip,K:=⟨λ_=>none,[],λ_=>none,λ_ _=>none⟩,p:=0,args:=[],aos:=[],nt:=0,z6m:=λ_=>[],go:=λ_ _=>none}
def z01d{P:Program}{D:Dat}{f ty q:Nat}(h6:0<D.len (.st q))(M:∀args W,(callFunc f args).run P W = .ok (.enter f args) W)(N:ylq P f (D.len (.st q)))
  (xs:List (D.T q)) (i j:Nat) (h9:i<j) (Z:j<=xs.length) (go:Nat->List (D.T q)->Int->Int->Option (List (D.T q))) (n:Nat) :
  ((z02i D f ty q go).ent n).Flat P (((i:Int),((j:Int),(xs,()))):HL D.T [.int .i64,.int .i64,.sl (.st q)]) (.inl ((xs.take i++xs.drop j,()):HL D.T [.sl (.st q)])):=λlv L E ρ0 vargs Y R k3 k4=>by
 have Y:ρ0.length=1:=Y;obtain⟨sl,rfl⟩:=List.length_eq_one_iff.1 Y;have R:VRL D [sl] lv [.own 0,.int .i64 i,.int .i64 j] vargs:=R;simp only[VRL,VR]at R;obtain⟨v,rr,rfl,⟨sl',e1,e2,e3⟩,v1,l,rfl,rfl,v2,O,rfl,rfl,rfl⟩:=R;obtain rfl:sl=sl':=by simpa using e1
 subst e2;have⟨sl',e4,e5⟩:=k3 0 (.deep ty q xs none) (Qak);obtain rfl:sl=sl':=by simpa using e4
 simp only[OR]at e5;have⟨o1,Q⟩:=e5
 cases A:sl.k with
 |none=>rw[A]at Q;rw[Q.1]at Z;simp at Z;omega
 |some a=>
 rw[A]at Q;have⟨r,cp,fps,q1,q2,q3,q4,q5,q6,q7⟩:=Q;have hh:=z018 (P:=P) (f:=f) (ty:=ty) h6 M N (lv:=lv) (E:=E) (n:=sl.ws.length) (i:=i) (j:=j) q2 rfl h9 (by rw[o1];exact Z);rw[<-q1]at hh;refine hh.mono λo H' ⟨e1,e2⟩ =>?_
 subst e1;subst e2;have ha:=(Qaa.1 q2).1
 have g:sl.fp.Perm (((fps.drop i).take (j-i)).flatten++(fps.take i++fps.drop j).flatten):=by
  rw[q4]
  have:fps=fps.take i++((fps.drop i).take (j-i)++fps.drop j):=by
   conv=>lhs;rw[<-List.take_append_drop i fps]
   congr 1
   conv=>lhs;rw[<-List.take_append_drop (j-i) (fps.drop i)]
   rw[List.drop_drop];congr 2;omega
  conv=>lhs;rw[this]
  rw[List.flatten_append,List.flatten_append,List.flatten_append,<-Qaz,<-Qaz];exact List.perm_append_comm.append_right _
 have z:∀x,x∈(fps.take i++fps.drop j).flatten->x∈sl.fp:=λx h=>g.mem_iff.2 (List.mem_append_right _ h)
 have h8:=(List.nodup_append.1 (g.nodup_iff.1 q5)).2.1;have K:∀x∈sl.fp,x≠a:=λx G e=>(k4.2 0 sl x rfl G).1 (by rw[A,e])
 let d:=sl.ws.take i++sl.ws.drop j
 let L':=L.set a (some (yz5.arr (r+1) ty (D.len (.st q)) d none))
 let sl':Slot:=⟨.hs lv a (r+1) 0 (sl.ws.length-(j-i)) false,some a,d,(fps.take i++fps.drop j).flatten⟩
 have h5:d.length=sl.ws.length-(j-i):=by simp[d];omega
 have I:∀x∈sl.fp,L'[x]? = L[x]? := λx G=>Qam (λe=>K x G e.symm)
 have J:∀x,sl'.has x->sl.has x:=λx h=>h.elim (λh=>.inl (by rw[A];exact h)) λh=>.inr (z x h)
 refine⟨L',[sl'],rfl,⟨rfl,λb o U =>?_,λs s' t t' x l O _ _ =>?_,λs t x l B =>?_,λx G h7 =>?_,λb t hb=>absurd hb (Nat.not_lt_zero _),λs t x l B =>?_⟩,λp hp=>(by cases hp),[.hs lv a (r+1) 0 (sl.ws.length-(j-i)) false],rfl,?_⟩
 ·have U:(b,o)∈[(0,(TO.deep ty q (xs.take i++xs.drop j) none:TO D.T))]:=U;simp only[Qbc,Qbz]at U;obtain⟨rfl,rfl⟩:=U;refine⟨sl',rfl,?_⟩;simp only[OR];refine⟨by simp[sl',d,o1],r+1,none,fps.take i++fps.drop j,by rw[h5],by simp[L',ha,sl'],by simp[q3],rfl,h8,λm x w c h1 H X =>?_,λ_ _ _ h=>by cases h⟩
  have h4:∃C:Nat,xs[C]? = some x∧sl.ws[C]? = some w∧fps[C]? = some c:=by
   rcases zvy xs i j m (by omega) x h1 with ⟨a1,a2⟩|⟨a1,he,a2⟩ <;> rcases zvy sl.ws i j m (by omega) w H with ⟨b1,b2⟩|⟨b1,hd,b2⟩ <;> rcases zvy fps i j m (by omega) c X with ⟨B,c2⟩|⟨B,hc,c2⟩ <;> first|omega|exact⟨_,a2,b2,c2⟩
  have⟨C,h1,H,X⟩:=h4;have:=EO.mono (L:=L) (L':=L') [] (q6 C x w c h1 H X) λy hy=>I y (by rw[q4];exact List.mem_flatten.2 ⟨c,Qax X,hy⟩)
  have⟨vs,cs,d1,d2,d3,d4,d5⟩:=this;exact⟨vs,cs,d1,d2,d3,d4,λf' p u b l O r3=>d5 f' p u b l O r3⟩
 ·have F:=(Qaa.1 l).1;have l2:=(Qaa.1 O).1;simp at F l2;omega
 ·have F:=(Qaa.1 l).1;have:s=0:=by simp at F;omega
  subst this;obtain rfl:sl'=t:=by simpa using l
  exact .inr ⟨0,sl,rfl,J x B⟩
 ·refine⟨by simp[L'];exact G,Qam λe=>h7 0 sl rfl (.inl (by rw[A,e]))⟩
 ·have F:=(Qaa.1 l).1;have:s=0:=by simp at F;omega
  subst this;obtain rfl:sl'=t:=by simpa using l
  have:=k4.2 0 sl x rfl (z x B);exact⟨by rw[A]at this;exact this.1,by rw[I x (z x B)];exact this.2⟩
 ·show VRL D [sl'] lv [.own 0] _;simp only[VRL,VR];exact⟨_,[],rfl,⟨sl',rfl,rfl,rfl⟩,rfl⟩
def yjo{α:Type}(xs:List α)(i j:Int):Option (List α):=if 0<=i∧i<j∧j<=xs.length then some (xs.take i.toNat++xs.drop j.toNat)else none
def z05s{P:Program}{D:Dat}{f ty q:Nat}(m:0<D.len (.st q))(b:∀args W,(callFunc f args).run P W = .ok (.enter f args) W)(d:ylq P f (D.len (.st q))):FOk P (z02i D f ty q λ_ xs i j=>yjo xs i j):=λn R x k s r h=>by
 have⟨i,j,xs,u⟩:=x;have h:((yjo xs i j).bind λr=>k (r,()))=some r:=h;have⟨r0,l,o⟩:=zrf h;unfold yjo at l;split at l
 ·rename_i a;cases l;obtain⟨g,rfl⟩:∃g:Nat,(i:Int)=(g:Int):=⟨Int.toNat i,(Int.toNat_of_nonneg a.1).symm⟩;have p:=a.2.1;obtain⟨e,rfl⟩:∃e:Nat,(j:Int)=(e:Int):=⟨Int.toNat j,(Int.toNat_of_nonneg (Int.le_trans a.1 (Int.le_of_lt a.2.1))).symm⟩;rw[Qbq,Qbq]at o
  exact .inl ⟨(xs.take g++xs.drop e,()),o,z01d m b d xs g e (Int.ofNat_lt.1 a.2.1) (Int.ofNat_le.1 a.2.2) _ n⟩
 ·cases l
end Go.Ab
namespace Go.Ab
open Go Go.RowKit Go.Sort Go.Proofs
def insert_perm{H:Type}(x:Lit×DataW H):∀l:List (Lit×DataW H),(DataW.insert x l).Perm (x::l)
 |[]=>.refl _
 |y::r=>by
  unfold DataW.insert;split
  ·exact .refl _
  ·exact((insert_perm x r).cons y).trans (.swap x y r)
def zvu{H:Type}:∀l:List (Lit×DataW H),(l.foldr DataW.insert []).Perm l
 |[]=>.refl _
 |x::r=>(insert_perm x _).trans ((zvu r).cons x)
def zvs{H:Type}:Value->Option (DataW H×List MemPlace):=λ_=>some (.nil,[])
def ytt(D:Dat)(f mt:Nat)(go:Nat->List B8->List Bool->Option (List B8×List B8×List Bool)):FI D :=
 {R:=List B8×List B8×List Bool,ent:=λn=>{f:=f,p:=1,args:=[.map 0],aos:=[.mp mt .bool],outs:=[.d (.sl .str)],ros:=[.mp mt .bool],pan:=.nilp,pos:=[.mp mt .bool],pure:=false,go:=λx k _=>(go n x.1 x.2.1).bind λr=>k (r.1,r.2.1,r.2.2,())},
   c:=.skip,K:=⟨λ_=>none,[],λ_=>none,λ_ _=>none⟩,p:=0,args:=[],aos:=[],nt:=0,z6m:=λ_=>[],go:=λ_ _=>none}
def yn7(P:Program)(f d:Nat):Prop:=∀(b:Nat) (es:Array MapEntry) (clock:Nat) (w:World),w.heap[b]? = some (.map es clock)->WideElems.Fit P d (zvs (H:=Unit)) es clock->es.size<=8388608 ->
 Calls P f #[.map (some b)] w λe g=>∃(v:Value) (a:List B8),e = .returned v∧a.Perm (strKeys (DataW.map ((es.toList.map (WideElems.rg P d (zvs (H:=Unit)))).foldr DataW.insert []))) ∧
  g.ownsRow w.heap.size d 1 v a.length ((a.mergeSort (λx y=>decide (x<=y))).map encStr)∧Below w.heap.size w g
def yxw{P:Program}{D:Dat}{f mt kt:Nat}(hkt:P.underlying kt=some .string)(hent:∀args W,(callFunc f args).run P W = .ok (.enter f args) W)(hcon:yn7 P f kt)
  (ks:List B8) (vs:List Bool) (hn:ks.Nodup) (hlv:ks.length=vs.length) (hlen:ks.length<=8388608) (hs:∀s∈ks,s.length<=8388608) (go:Nat->List B8->List Bool->Option (List B8×List B8×List Bool)) (n:Nat) :
  ((ytt D f mt go).ent n).Flat P ((ks,vs,()):HL D.T [.sl .str,.sl .bool]) (.inl ((z0e ks,ks,vs,()):HL D.T [.sl .str,.sl .str,.sl .bool])):=by
 intro lv L E ρ0 vargs k1 k2 k3 k4;have k1:ρ0.length=1:=k1;obtain⟨sl,rfl⟩:=List.length_eq_one_iff.1 k1;have k2:VRL D [sl] lv [.map 0] vargs:=k2;simp only[VRL,VR]at k2;obtain⟨v,rr,rfl,⟨sl',i,e1,e2,e3⟩,rfl⟩:=k2;obtain rfl:sl=sl':=by simpa using e1
 subst e3;obtain⟨sl',e4,e5⟩:=k3 0 (.mp mt .bool (List.zip ks vs)) (Qak);obtain rfl:sl=sl':=by simpa using e4
 have e5':=e5;simp only[OR]at e5;obtain⟨i',ms,o1,o2,o3,o4⟩:=e5
 rw[e2]at o1;injection o1 with o1;subst o1
 have hzl:(List.zip ks vs).map (·.1)=ks:=by rw[List.map_fst_zip];omega
 have hms:ms.map (·.1)=ks:=by
  have h1:List.map (λx:B8×DTy.S D.T .bool=>x.1) (List.zip ks vs)=List.map (λx=>x.1) (ms.map λp=>(p.1,p.2.1)):=congrArg _ o2;rw[List.map_map]at h1;exact(h1.symm.trans hzl)
 have hml:ms.length=ks.length:=by rw[<-hms,Qbd]
 have hlv':L[i]? = some (some (.map (ms.map λp=>(V.str p.1,p.2.2)))):=o4;intro W g cargs hG hA;obtain⟨c,rfl,hc⟩:=ymh hA
 cases hc with
 |map _ _ hd=>
 have hget:Heap.get ⟨lv,L,E⟩ lv i=some (.map (ms.map λp=>(V.str p.1,p.2.2))):=by unfold Heap.get;rw[Qbx rfl,hlv'];rfl
 obtain⟨en,clock,b1,b2,b3,b4,b5⟩:=hG.obj lv i _ hget;have hsz:en.size=ks.length:=by rw[b2,Qbd,hml]
 have key:∀(j:Nat) (s:B8),ks[j]? = some s->∃e,en[j]? = some e∧e.key = .string ⟨s.toArray⟩:=λj s hj=>by
  rw[<-hms,Qan,Qaf]at hj;obtain⟨p,hp,rfl⟩:=hj;obtain⟨e,h1,h2,_⟩:=b5 j (V.str p.1,p.2.2) (by rw[Qan,hp];rfl);refine⟨e,h1,?_⟩;generalize hk:e.key=q at h2;cases h2;rfl
 have keys:en.toList.map (·.key)=ks.map λs=>Value.string ⟨s.toArray⟩:=by
  refine List.ext_getElem? λj =>?_
  rw[Qan,Qan]
  cases hj:ks[j]? with
  |none=>
   rw[List.getElem?_eq_none_iff]at hj
   rw[Qcf (by rw[Array.length_toList];omega)];rfl
  |some s=>
   obtain⟨e,h1,h2⟩:=key j s hj;rw[Qbh,h1];simp[h2]
 have inj:Function.Injective λs:B8=>Value.string ⟨s.toArray⟩:=λa b h=>by
  injection h with h;injection h with h;injection h
 have ft:WideElems.Fit P kt (zvs (H:=Unit)) en clock:=by
  refine⟨by simp only[maxLen];omega,⟨λe he=>b3 e (by simpa using he),?_,?_⟩,λe he =>?_⟩
  ·rw[List.nodup_iff_pairwise_ne,List.pairwise_iff_getElem];intro j k hj hk hjk h;simp only[Qbd,Array.length_toList]at hj hk;have:=b4 j k en[j] en[k] (Qas hj) (Qas hk) (by simpa using h);omega
  ·rw[keys];exact List.pairwise_map.2 (List.Pairwise.imp (λ{a b} h e=>h (inj e)) hn)
  ·obtain⟨j,hj,e1⟩:=List.mem_iff_getElem.1 he;have hj':j<ks.length:=by rw[Array.length_toList]at hj;omega
   obtain⟨e',h1,h2⟩:=key j _ (Qab hj')
   have:e'=e:=by
    rw[Array.length_toList]at hj;rw[Qas hj]at h1;injection h1 with h1;rw[<-h1,<-e1];simp
   subst this;have hbs:=hs _ (Qad hj');refine⟨(.string (ks[j]'hj'),.nil),?_⟩;unfold WideElems.rd;rw[h2]
   have hk:keyOf P kt (.string ⟨(ks[j]'hj').toArray⟩)=some (.string (ks[j]'hj')):=by
    unfold keyOf;rw[hkt];show mapKey P kt _=_;unfold mapKey;rw[hkt];simp[ByteArray.size,maxLen];omega
   rw[hk];rfl
 have rgs:en.toList.map (WideElems.rg P kt (zvs (H:=Unit)))=ks.map λs=>(Lit.string s,DataW.nil):=by
  refine List.ext_getElem? λj =>?_
  rw[Qan,Qan]
  cases hj:ks[j]? with
  |none=>
   rw[List.getElem?_eq_none_iff]at hj
   rw[Qcf (by rw[Array.length_toList];omega)];rfl
  |some s=>
   obtain⟨e,h1,h2⟩:=key j s hj;rw[Qbh,h1];have hbs:=hs s (Qax hj)
   have hk:keyOf P kt (.string ⟨s.toArray⟩)=some (.string s):=by
    unfold keyOf;rw[hkt];show mapKey P kt _=_;unfold mapKey;rw[hkt];simp[ByteArray.size,maxLen];omega
   have:WideElems.rd P kt (zvs (H:=Unit)) e=some (.string s,.nil):=by
    unfold WideElems.rd;rw[h2,hk];rfl
   simp[WideElems.rg,this]
 refine⟨hent _ _,(hcon (g.blk lv i) en clock W b1 ft (by omega)).mono ?_⟩
 rintro e W' ⟨v',ss,rfl,hperm,⟨r0,hrow⟩,hb⟩
 have hgr:=zro hb
 have hpk:ss.Perm ks:=by
  refine hperm.trans ?_;rw[rgs];show(((ks.map λs=>(Lit.string s,(DataW.nil:DataW Unit))).foldr DataW.insert []).map λp=>strOf p.1).Perm ks;refine((zvu _).map _).trans ?_;rw[List.map_map]
  have:(ks.map ((λp:Lit×DataW Unit=>strOf p.1)∘λs=>(Lit.string s,DataW.nil)))=ks:=by
   conv=>rhs;rw[<-List.map_id ks]
   rfl
  rw[this]
 have hsort:ss.mergeSort (λx y=>decide (x<=y))=z0e ks:=by
  show z0e ss=z0e ks;exact zs8 (zvh (hpk.nodup_iff.2 hn)) (zvh hn) λx=>by rw[(zg6 ss).mem_iff,(zg6 ks).mem_iff,hpk.mem_iff]
 rw[hsort]at r0 hrow;have hsl:(z0e ks).length=ss.length:=by rw[(zg6 ks).length_eq,hpk.length_eq]
 have left:Left D lv L [sl] 1 L [sl] [.mp mt .bool] ((ks,vs,()):HL D.T [.sl .str,.sl .bool]):=by
  refine⟨rfl,λj o hm =>?_,k4.1,λs t j r1 c1=>.inr ⟨s,t,r1,c1⟩,λj hj _=>⟨hj,rfl⟩,λj t hj ht=>ht,k4.2⟩;have hm:(j,o)∈[(0,(TO.mp mt .bool (List.zip ks vs):TO D.T))]:=hm;simp only[Qbc,Qbz]at hm;obtain⟨rfl,rfl⟩:=hm;exact⟨sl,rfl,e5'⟩
 refine⟨.ret (.sl 1 ((z0e ks).map V.str) false),⟨lv,L,E⟩,g,⟨L,[sl],rfl,left,(λq hq=>by cases hq),[.sl 1 ((z0e ks).map V.str) false],rfl,?_⟩,hgr.step,hG.grow hgr,v',rfl,?_⟩
 ·show VRL D [sl] lv [.sl .str (z0e ks) 0] _;simp only[VRL,VR];exact⟨_,_,rfl,⟨DR.elsl .str _ λx=>.str x,λh=>(by omega),λh=>(by omega)⟩,rfl⟩
 ·rcases hrow with ⟨rfl,hn0⟩|⟨gb,cap,cur,rfl,hbase,hgb,hnc,hcap,hcs,htk⟩
  ·have:z0e ks=[]:=Qao (by omega);rw[this];exact .slnil 1 false
  ·have hown:¬Own g ⟨lv,L,E⟩ gb:=by
    rintro ⟨l',i',o',h1,h2⟩
    have:=hG.lt l' i' o' h1;omega
   rw[show ss.length=((z0e ks).map V.str).length by rw[Qbd,hsl]]
   have cell:∀(j:Nat) (s:B8),(z0e ks)[j]? = some s->W'.cell? ⟨gb,0+j * 1+0,none⟩=some (.string ⟨s.toArray⟩):=λj s hj=>by
    have h1:((z0e ks).map encStr)[j]? = some (.string ⟨s.toArray⟩):=by rw[Qan,hj];rfl
    rw[<-htk,Qaw]at h1;split at h1
    ·rw[Qbh]at h1;unfold World.cell?;simp only[hgb];simpa using h1
    ·cases h1
   refine .sl 1 _ false gb 0 cap (λj _=>.string ⟨((z0e ks)[j]?.getD []).toArray⟩) hown (by omega) (by rw[Qbd,hsl];exact hnc) (λh=>by cases h) (λj x hj =>?_) (λj x t u hj ht =>?_) (λj x t u hj ht =>?_) λj x t u hj ht =>?_
   all_goals rw[Qan,Qaf]at hj;obtain⟨s,hs1,rfl⟩:=hj
   ·rfl
   ·have ht0:t=0:=by
     have:=(Qaa.1 ht).1;simp[V.cells]at this;exact this
    subst ht0;rw[hs1];exact cell j s hs1
   ·rw[hs1];rfl
   ·have ht0:t=0:=by
     have:=(Qaa.1 ht).1;simp[V.cells]at this;exact this
    subst ht0;simp only[V.cells,Qcd,Qbu]at ht;subst ht;rw[hs1];exact .str s
def z04h{P:Program}{D:Dat}{f mt i:Nat}(g:P.underlying i=some .string)(b:∀args W,(callFunc f args).run P W = .ok (.enter f args) W)(d:yn7 P f i) :
  FOk P (ytt D f mt λ_ a vs=>if a.Nodup∧a.length=vs.length∧a.length<=8388608∧(∀s∈a,s.length<=8388608)then some (z0e a,a,vs)else none):=λn R x k w r h=>by
 have⟨a,vs,u⟩:=x;change List B8 at a;change List Bool at vs;have h:((if a.Nodup∧a.length=vs.length∧a.length<=8388608∧(∀s∈a,s.length<=8388608)then some (z0e a,a,vs)else none).bind λr=>k (r.1,r.2.1,r.2.2,()))=some r:=h;have⟨r0,e,l⟩:=zrf h;split at e
 case isFalse=>cases e
 rename_i j;have⟨q,p,o,m⟩:=j;cases e;exact .inl ⟨(z0e a,a,vs,()),l,yxw g b d a vs q p o m _ n⟩
end Go.Ab
