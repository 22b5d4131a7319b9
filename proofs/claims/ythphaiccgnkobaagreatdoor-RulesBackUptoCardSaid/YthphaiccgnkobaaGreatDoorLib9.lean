/-
  slices.Sort OF STRINGS ON A SLICE OF OURS, out of a y7z of the kit's kind.
-/
import Derived.Test.YthphaiccgnkobaaGreatDoorLib8
import Derived.Shelf.Sort.Plain
import Derived.Lib.SlicesCompact
import Derived.Sort.Walk0
import Derived.Laws.AppendOwn
set_option linter.defProp false
set_option linter.unusedSimpArgs false
set_option linter.unusedVariables false
namespace Go.Ab
open Go Go.RowKit Go.Sort Go.Proofs
def z90(a:List B8):List B8:=a.mergeSort λx y=>decide (x<=y)
theorem zqc(a):(z90 a).Perm a:=List.mergeSort_perm _ _
def z089{P:Program}{f ty:Nat}(K:∀args W,(callFunc f args).run P W = .ok (.enter f args) W)
  (M:∀(blk C:Nat) (N:List B8) (w:World),Holds encStr w blk 0 N.toArray->blk<w.heap.size->N.length<4611686018427387904 ->
   Calls P f #[.slice (some ⟨blk,0,none⟩) N.length C] w λe w'=>e = .returned (.tuple #[])∧∃n D,w'=grow (putRow encStr (Sort.ahead w n) blk 0 (N.mergeSort λx y=>decide (x<=y)).toArray) D)
  {lv k d n:Nat} {L:List (Option yzm)}{E:Nat->Nat->Option yzm}{xs:List B8}{Q:Option Nat}(hL:L[k]? = some (some (.arr d ty 1 (xs.map V.str) Q))) (hlen:xs.length<4611686018427387904) (hn:n=xs.length) :
  zqp P f [.hs lv k d 0 n false] ⟨lv,L,E⟩ λo H'=>o = .ret (.tup [])∧H'=⟨lv,L.set k (some (.arr d ty 1 ((z90 xs).map V.str) Q)),E⟩:=by
 intro W g l hG hR;have X:(⟨lv,L,E⟩:Heap).get lv k=some (.arr d ty 1 (xs.map V.str) Q):=by simp[Heap.get,hL]
 obtain⟨x,rfl,h0⟩:∃x,l = #[x]∧Rel W g ⟨lv,L,E⟩ (.hs lv k d 0 n false) x:=by
  have⟨H,Z⟩:=hR;have h4:l.toList.length=1:=by simpa using H
  have⟨c,Y⟩:=List.length_eq_one_iff.1 h4;have h6:l = #[c]:=by rw[<-Array.toList_inj,Y]
  subst h6;exact⟨c,rfl,by simpa using Z 0 _ rfl⟩
 refine⟨K _ _,?_⟩
 cases h0 with
 |hs _ _ _ _ _ _ a m C hd hv ha=>
  obtain⟨rfl,rfl,⟨a1,a2,_⟩,a3⟩:=ha _ _ _ _ X;have⟨z,O,k2,T,h3,k4,k5,k6,k7,k8⟩:=hG.obj _ _ _ X;rw[List.length_map]at k4
  have hH:Holds encStr W (g.ab lv k) 0 xs.toArray:=λj p=>by
   have u:j<xs.length:=by simpa using p
   have e1:(xs.map V.str)[j]? = some (.str xs[j]):=by rw[Qan,Qab u];rfl
   have F:=k8 j _ 0 (.str xs[j]) e1 rfl;have I:j<z.size:=by rw[T];omega
   refine⟨?_,by simp[World.frozen?,O]⟩;rw[getElem!_pos xs.toArray j p]
   cases q:z.getD (j * 1+0) undef with
   |string s=>
    rw[q]at F;cases F;rw[Qae]at q;rw[show j * 1+0=j by omega,Qas I]at q;simp only[Option.getD_some]at q
    simp[World.cell?,O,I,q,encStr]
   |_=>rw[q]at F;cases F
  have hb:g.ab lv k<W.heap.size:=(Qbh.1 O).1;have Y:=M (g.ab lv k) C xs W hH hb hlen;have h5:=zqc xs;have G:(z90 xs).length=xs.length:=h5.length_eq;subst hn;refine Y.mono ?_
  rintro e W' ⟨rfl,R,D,rfl⟩
  have i:(grow (putRow encStr (Sort.ahead W R) (g.ab lv k) 0 (z90 xs).toArray) D).heap=W.heap.modify (g.ab lv k) (onCells (Go.Sort.putCells encStr 0 (z90 xs).toArray))++D:=rfl
  have h9:(grow (putRow encStr (Sort.ahead W R) (g.ab lv k) 0 (z90 xs).toArray) D).heap[g.ab lv k]? = some (.cells (Go.Sort.putCells encStr 0 (z90 xs).toArray z) ty (0,0)):=by
   rw[i,Array.getElem?_append_left (by simpa using hb),Qbx,Qbq rfl,O];rfl
  have A:∀j (p:j<(z90 xs).length),(Go.Sort.putCells encStr 0 (z90 xs).toArray z).getD (j * 1+0) undef = .string ⟨((z90 xs)[j]).toArray⟩:=λj p=>by
   have J:j * 1+0<z.size:=by rw[T];omega
   rw[Qae,Go.Sort.putCells,Array.getElem?_mapIdx,Qas J];simp only[Qbk,Option.getD_some,Nat.sub_zero];rw[Qbq ⟨Qbo _,by simp;omega⟩,getElem!_pos (z90 xs).toArray _ (by simp;omega)];simp[encStr]
  have B:∀(j:Nat) (x:V),((z90 xs).map V.str)[j]? = some x->∃p:j<(z90 xs).length,x = .str (z90 xs)[j]:=λj x p=>by
   rw[Qan,Qaf]at p;obtain⟨y,hy,rfl⟩:=p;have⟨H,Z⟩:=Qaa.1 hy;exact⟨H,by rw[Z]⟩
  have⟨q1,q2⟩:=zgk (W':=grow (putRow encStr (Sort.ahead W R) (g.ab lv k) 0 (z90 xs).toArray) D) hG (o':=.arr d ty 1 ((z90 xs).map V.str) Q) X rfl rfl rfl rfl (by rw[i];simp) (λb h8 h7=>by
    rw[i,Array.getElem?_append_left (by simpa using h8),Qbx,Qbr (λh=>h7 h.symm)])
   (λd ty sz zs hh he=>by injection he with e1 F e3 e4 e5;subst e1;subst F;subst e3;subst e4;exact⟨_,_,_,rfl,Qbp _,λ_=>by simp[G]⟩) (λhf=>by
   refine⟨_,h9,by decide,by rw[Go.Sort.putCells,Array.size_mapIdx];exact T,h3,by rw[List.length_map,G];exact k4,k5,λj x p =>?_,λj x t v p r =>?_,λj x t v p r =>?_⟩;obtain⟨_,rfl⟩:=B j x p;rfl;obtain⟨u,rfl⟩:=B j x p
   have U:t=0:=by
    cases t with
    |zero=>rfl
    |succ t=>simp[V.cells]at r
   subst U;rw[A j u];rfl;obtain⟨u,rfl⟩:=B j x p
   have U:t=0:=by
    cases t with
    |zero=>rfl
    |succ t=>simp[V.cells]at r
   subst U;simp[V.cells]at r;subst r;rw[A j u]
   exact .str _)
  refine⟨.ret (.tup []),_,g,⟨rfl,rfl⟩,?_,?_,_,rfl,.tup [] #[] rfl (by simp)⟩;have:=q1;simp only[Heap.set,Qbq]at this;exact this;have:=q2;simp only[Heap.set,Qbq]at this;exact this
def yyj(D)(f ty:Nat)(go:Nat->List B8->Option (List B8)):FI D :=
 {R:=List B8,ent:=λn=>{f:=f,p:=0,args:=[.own 0],aos:=[.acc ty .str true],outs:=[],ros:=[.acc ty .str true],pan:=.nilp,pos:=[.acc ty .str true],pure:=false,go:=λx k _=>(go n x.1).bind λr=>k (r,()),ren:=[(0,0)]},
   c:=.skip,K:=⟨λ_=>none,[],λ_=>none,λ_ _=>none⟩,p:=0,args:=[],aos:=[],nt:=0,z2k:=λ_=>[],go:=λ_ _=>none}
def z02v{D}{xs:List B8}{ws}(g:ws.length=xs.length)(h:∀(j:Nat) (x:B8) (v:V),xs[j]? = some x->ws[j]? = some v->DR D .str x v):ws=xs.map V.str:=by
 refine List.ext_getElem? λj =>?_
 rw[Qan]
 cases a:xs[j]? with
 |none=>
  grind
 |some x=>
  have e:=(Qaa.1 a).1;have b:ws[j]? = some ws[j]:=Qab (by omega);have:=h j x _ a b;rw[b]
  cases d:ws[j]with
  |str s=>rw[d]at this;cases this;rfl
  |_=>rw[d]at this;cases this
def z05w{P:Program}{D:Dat}{f ty:Nat}(A:∀args W,(callFunc f args).run P W = .ok (.enter f args) W)
  (R:∀(blk h:Nat) (U:List B8) (w:World),Holds encStr w blk 0 U.toArray->blk<w.heap.size->U.length<4611686018427387904 ->
   Calls P f #[.slice (some ⟨blk,0,none⟩) U.length h] w λe w'=>e = .returned (.tuple #[])∧∃n os,w'=grow (putRow encStr (Sort.ahead w n) blk 0 (U.mergeSort λx y=>decide (x<=y)).toArray) os)
  (I:∀(p:Option Addr) (h:Nat) (w:World),Calls P f #[.slice p 0 h] w λe w'=>e = .returned (.tuple #[])∧w'=w)
  (xs:List B8) (hlen:xs.length<4611686018427387904) (go:Nat->List B8->Option (List B8)) (n:Nat):((yyj D f ty go).ent n).Flat P ((xs,()):HL D.T [.sl .str]) (.inl ((z90 xs,()):HL D.T [.sl .str])):=λlv L E ρ0 G k1 X k3 k4 _=>by
 have k1:ρ0.length=1:=k1;obtain⟨sl,rfl⟩:=List.length_eq_one_iff.1 k1;have X:VRL D [sl] lv [.own 0] G:=X;simp only[VRL,VR]at X;obtain⟨v,rr,rfl,⟨sl',e1,e2,e3⟩,rfl⟩:=X;obtain rfl:sl=sl':=by simpa using e1
 subst e2;have⟨sl',e4,e5⟩:=k3 0 (.acc ty .str xs true) (Qak);obtain rfl:sl=sl':=by simpa using e4
 simp only[OR]at e5;have⟨o1,o2,M⟩:=e5;have o1:sl.ws.length=xs.length:=o1;have o2:∀(j:Nat) (x:B8) (v:V),xs[j]? = some x->sl.ws[j]? = some v->DR D .str x v:=o2;have l:=z02v o1 o2;have Q:(z90 xs).length=xs.length:=(zqc xs).length_eq
 have left:∀(L':List (Option yzm)) (sl':Slot),sl'.v=sl.v->sl'.k=sl.k->sl'.fp=[]->sl'.ws=(z90 xs).map V.str->(∀i,(∀j,sl.k=some j->j≠i)->L'[i]? = L[i]?)->L'.length=L.length ->
   (match sl'.k with
   |none=>(sl'.v = .nils∧sl'.ws=[])∨((sl'.v = .sl (D.len .str) sl'.ws true∧DTy.str ≠ .int .u8)∧(True->sl'.ws=[]))
   |some i=>∃m H,sl'.v = .hs lv i m 0 sl'.ws.length false∧L'[i]? = some (some (.arr m ty (D.len .str) sl'.ws H))) ->
   Left D lv L [sl] 0 L' [sl'] [.acc ty .str true] ((z90 xs,()):HL D.T [.sl .str])∧((∀q∈[((0:Nat),(0:Nat))],∀B,[sl][q.1]? = some B->∃K,[sl'][q.2]? = some K∧K.v=B.v)∧yd8 L L' [sl] []):=λL' sl' a1 a2 a0 a3 a4 a5 a6=>by
  refine⟨⟨rfl,λj o Y =>?_,λs s' t t' i C r2 _ _ =>?_,λs t i C c1 =>?_,λi hi h5 =>?_,λj t O=>absurd O (Nat.not_lt_zero _),λs t i C c1 =>?_⟩,λq hq B h4 =>?_,.nil⟩;have Y:(j,o)∈[(0,(TO.acc ty .str (z90 xs) true:TO D.T))]:=Y;simp only[List.mem_singleton,Qbs]at Y;obtain⟨rfl,rfl⟩:=Y;refine⟨sl',rfl,?_⟩;simp only[OR];refine⟨by rw[a3];exact List.length_map _,λj y v hy hv =>?_,a6⟩
  have hy:(z90 xs)[j]? = some y:=hy;rw[a3,Qan,hy]at hv;cases hv;exact .str _;have r:=(Qaa.1 C).1;have N:=(Qaa.1 r2).1;simp at r N;omega;have r:=(Qaa.1 C).1;have:s=0:=by simp at r;omega
  subst this;obtain rfl:sl'=t:=by simpa using C
  exact .inr ⟨0,sl,rfl,.inl (by rw[<-a2];exact Slot.y85 a0 c1)⟩;refine⟨by rw[a5];exact hi,a4 i λj O h6=>h5 0 sl rfl (.inl (by rw[O,h6]))⟩;have r:=(Qaa.1 C).1;have:s=0:=by simp at r;omega
  subst this;obtain rfl:sl'=t:=by simpa using C
  rw[a0]at c1;cases c1;simp only[List.mem_singleton]at hq;subst hq;obtain rfl:sl=B:=by simpa using h4
  exact⟨sl',rfl,a1⟩
 have nothing:xs=[]->(∀W g d,zmy W g ⟨lv,L,E⟩ [sl.v] d->∃p h,d = #[.slice p 0 h])->zqp P f [sl.v] ⟨lv,L,E⟩ λout H'=>∃L' ρ',H'=⟨lv,L',E⟩∧(Left D lv L [sl] 0 L' ρ' [.acc ty .str true] ((z90 xs,()):HL D.T [.sl .str])∧((∀q∈[((0:Nat),(0:Nat))],∀B,[sl][q.1]? = some B->∃K,ρ'[q.2]? = some K∧K.v=B.v)∧yd8 L L' [sl] [])∧∃vs,out = .ret (zbp vs)∧VRL D ρ' lv [] vs):=λhx u W g d hG F=>by
  obtain⟨p,h,rfl⟩:=u W g d F;refine⟨A _ _,(I p h W).mono ?_⟩
  rintro e W' ⟨rfl,rfl⟩
  have hs:z90 xs=[]:=Qao (by rw[Q,hx];rfl);have⟨r,N⟩:=left L ⟨sl.v,sl.k,sl.ws,[]⟩ rfl rfl rfl (by show sl.ws=_;rw[hs,l,hx]) (λ_ _=>rfl) rfl M;exact⟨.ret (.tup []),⟨lv,L,E⟩,g,⟨L,[⟨sl.v,sl.k,sl.ws,[]⟩],rfl,r,N,[],rfl,(by simp only[VRL]:VRL D [⟨sl.v,sl.k,sl.ws,[]⟩] lv [] [])⟩,.refl _ _ _,hG,_,rfl,.tup [] #[] rfl (by simp)⟩
 have one:∀{W:World}{g:Gh}{d:Array Value},zmy W g ⟨lv,L,E⟩ [sl.v] d->∃c,d = #[c]∧Rel W g ⟨lv,L,E⟩ sl.v c:=λ{W g d} F=>by
  have⟨h1,h2⟩:=F;have h3:d.toList.length=1:=by simpa using h1
  have⟨c,u⟩:=List.length_eq_one_iff.1 h3;have h7:d = #[c]:=by rw[<-Array.toList_inj,u]
  subst h7;exact⟨c,rfl,by simpa using h2 0 _ rfl⟩
 cases Z:sl.k with
 |none=>
  rw[Z]at M
  rcases M with ⟨J,z⟩|⟨J,z⟩
  refine nothing (by rw[l]at z;simpa using z) λW g d F =>?_
  obtain⟨c,rfl,u⟩:=one F;rw[J]at u;cases u;exact⟨_,_,rfl⟩;have v3:=z trivial;refine nothing (by rw[l]at v3;simpa using v3) λW g d F =>?_
  obtain⟨c,rfl,u⟩:=one F;rw[J.1,v3]at u
  cases u with
  |slnil=>exact⟨_,_,rfl⟩
  |sle _ _ a h hf=>exact⟨_,_,rfl⟩
  |sl _ _ _ b o h c=>exact⟨_,_,rfl⟩
 |some i=>
  rw[Z]at M;have⟨m,H,J,z⟩:=M;have hi:=(Qaa.1 z).1;rw[l]at z;have hh:=z089 (P:=P) (f:=f) (ty:=ty) A R (lv:=lv) (E:=E) (n:=sl.ws.length) z hlen (by rw[l];simp);rw[<-J]at hh;refine hh.mono λo H' ⟨e1,e2⟩ =>?_
  subst e1;subst e2
  have⟨r,N⟩:=left (L.set i (some (.arr m ty 1 ((z90 xs).map V.str) H))) ⟨sl.v,sl.k,(z90 xs).map V.str,[]⟩ rfl rfl rfl rfl (λj O=>Qam (O i Z)) (by simp) (by
   simp only[Z]
   exact⟨m,H,by rw[J,l];simp[Q],by simp[hi,Dat.len]⟩)
  exact⟨_,[⟨sl.v,sl.k,(z90 xs).map V.str,[]⟩],rfl,r,N,[],rfl,(by simp only[VRL]:VRL D [⟨sl.v,sl.k,(z90 xs).map V.str,[]⟩] lv [] [])⟩
def z0cj{P D}{f ty:Nat}(d:∀args W,(callFunc f args).run P W = .ok (.enter f args) W)
  (g:∀(blk a:Nat) (i:List B8) (w:World),Holds encStr w blk 0 i.toArray->blk<w.heap.size->i.length<4611686018427387904 ->
   Calls P f #[.slice (some ⟨blk,0,none⟩) i.length a] w λe j=>e = .returned (.tuple #[])∧∃n m,j=grow (putRow encStr (Sort.ahead w n) blk 0 (i.mergeSort λx y=>decide (x<=y)).toArray) m)
  (b:∀(p:Option Addr) (a:Nat) (w:World),Calls P f #[.slice p 0 a] w λe j=>e = .returned (.tuple #[])∧j=w) :
  FOk P (yyj D f ty λ_ xs=>if xs.length<4611686018427387904 then some (z90 xs)else none):=λn R x k q r h=>by
 have h:((if x.1.length<4611686018427387904 then some (z90 x.1)else none).bind λr=>k (r,()))=some r:=h;have⟨r0,l,o⟩:=ztc h;split at l;rename_i hlen;cases l;exact .inl ⟨(z90 x.1,()),o,z05w d g b x.1 hlen _ n⟩;cases l
end Go.Ab
namespace Go.Ab
open Go
def insC(x:B8):List B8->List B8
 |[]=>[x]
 |y::l=>if decide (x<=y)=true then x::y::l else y::insC x l
def yx9:List B8->List B8
 |[]=>[]
 |x::l=>insC x (yx9 l)
def yab(x):∀l,(insC x l).Perm (x::l)
 |[]=>.refl _
 |y::l=>by
  unfold insC;split;exact .refl _
  ·exact((yab x l).cons y).trans (.swap x y l)
def ygv:∀l,(yx9 l).Perm l
 |[]=>.refl _
 |x::l=>(yab x _).trans ((ygv l).cons x)
def z07w(x y:B8):(decide (x<=y)||decide (y<=x))=true:=by
 grind
def yx7(x):∀l,l.Pairwise (λx y=>decide (x<=y)=true)->(insC x l).Pairwise λx y=>decide (x<=y)=true
 |[],_=>by simp[insC]
 |y::l,h=>by
  have b:=yx7 x l (List.pairwise_cons.1 h).2;unfold insC;split;rename_i a;refine List.pairwise_cons.2 ⟨λz hz =>?_,h⟩
  rcases Qbf.1 hz with rfl|hz
  exact a;have:=(List.pairwise_cons.1 h).1 z hz;exact Qbm (List.le_trans (Qac a) (Qac this));refine List.pairwise_cons.2 ⟨λz hz =>?_,b⟩
  rcases Qbf.1 ((yab x l).mem_iff.1 hz)with rfl|hz
  have:=z07w z y;rw[Bool.or_eq_true]at this
  grind
  simp_all
def yoy:∀l,(yx9 l).Pairwise λx y=>decide (x<=y)=true
 |[]=>.nil
 |x::l=>yx7 x _ (yoy l)
theorem yxv(l):yx9 l=z90 l:=by
 refine List.Perm.eq_of_pairwise (le:=λx y=>decide (x<=y)=true) (λa b _ _ e d=>List.le_antisymm (Qac e) (Qac d)) (yoy l) ?_ ((ygv l).trans (zqc l).symm);exact List.pairwise_mergeSort (le:=λx y=>decide (x<=y)) (λa b c e d=>Qbm (List.le_trans (Qac e) (Qac d))) z07w l
end Go.Ab
namespace Go.Ab
open Go Go.RowKit Go.Sort Go.Proofs
def ycw(xs:List B8):(Lib.compact xs).length<=xs.length:=by
 grind[Lib.compact,Lib.compactUpTo]
def Heap.yx5{lv k}{L:List (Option yzm)}{E o o'}(h:L[k]? = some (some o)):Heap.get ⟨lv,L.set k (some o'),E⟩ lv k=some o':=by
 grind[Heap.get]
def ywu{P:Program}{f ty:Nat}(Q:∀args W,(callFunc f args).run P W = .ok (.enter f args) W)
  (R:∀(blk D:Nat) (zs:List B8) (w:World),Holds encStr w blk 0 zs.toArray->zs.length<=9223372036854775807->zs.length<=D ->
   Calls P f #[.slice (some ⟨blk,0,none⟩) zs.length D] w λe w'=>e = .returned (.slice (some ⟨blk,0,none⟩) (Lib.compact zs).length D)∧∃q,w'=putRow encStr (Sort.ahead w q) blk 0 (Lib.compact zs++List.replicate (zs.length-(Lib.compact zs).length) []).toArray)
  {lv k i n:Nat} {L:List (Option yzm)}{E:Nat->Nat->Option yzm}{xs:List B8}{U:Option Nat}(hL:L[k]? = some (some (.arr i ty 1 (xs.map V.str) U))) (hlen:xs.length<=9223372036854775807) (hn:n=xs.length) :
  zqp P f [.hs lv k i 0 n false] ⟨lv,L,E⟩ λo H'=>o = .ret (.hs lv k (i+1) 0 (Lib.compact xs).length false)∧H'=⟨lv,L.set k (some (.arr (i+1) ty 1 ((Lib.compact xs).map V.str) U)),E⟩:=by
 intro W g u hG hR;have H:(⟨lv,L,E⟩:Heap).get lv k=some (.arr i ty 1 (xs.map V.str) U):=by simp[Heap.get,hL]
 obtain⟨x,rfl,h0⟩:∃x,u = #[x]∧Rel W g ⟨lv,L,E⟩ (.hs lv k i 0 n false) x:=by
  have⟨h1,h2⟩:=hR;have h4:u.toList.length=1:=by simpa using h1
  have⟨c,hc⟩:=List.length_eq_one_iff.1 h4;have h5:u = #[c]:=by rw[<-Array.toList_inj,hc]
  subst h5;exact⟨c,rfl,by simpa using h2 0 _ rfl⟩
 refine⟨Q _ _,?_⟩
 cases h0 with
 |hs _ _ _ _ _ _ a m D hd hv ha=>
  obtain⟨rfl,rfl,⟨a1,a2,_⟩,a3⟩:=ha _ _ _ _ H;have⟨C,T,k2,Y,h3,k4,k5,k6,k7,k8⟩:=hG.obj _ _ _ H;rw[List.length_map]at k4
  have hH:Holds encStr W (g.ab lv k) 0 xs.toArray:=λj p=>by
   have B:j<xs.length:=by simpa using p
   have K:(xs.map V.str)[j]? = some (.str xs[j]):=by rw[Qan,Qab B];rfl
   have I:=k8 j _ 0 (.str xs[j]) K rfl;have M:j<C.size:=by rw[Y];omega
   refine⟨?_,by simp[World.frozen?,T]⟩;rw[getElem!_pos xs.toArray j p]
   cases z:C.getD (j * 1+0) undef with
   |string s=>
    rw[z]at I;cases I;rw[Qae]at z;rw[show j * 1+0=j by omega,Qas M]at z;simp only[Option.getD_some]at z
    simp[World.cell?,T,M,z,encStr]
   |_=>rw[z]at I;cases I
  have hb:g.ab lv k<W.heap.size:=(Qbh.1 T).1;have hk:=ycw xs;have hc:=R (g.ab lv k) D xs W hH hlen (by omega);subst hn;refine hc.mono ?_
  rintro e W' ⟨rfl,X,rfl⟩
  generalize F:Lib.compact xs++List.replicate (xs.length-(Lib.compact xs).length) []=l;have hi:l.length=xs.length:=by rw[<-F];simp;omega
  have r:(putRow encStr (Sort.ahead W X) (g.ab lv k) 0 l.toArray).heap=W.heap.modify (g.ab lv k) (onCells (Go.Sort.putCells encStr 0 l.toArray)):=rfl
  have h7:(putRow encStr (Sort.ahead W X) (g.ab lv k) 0 l.toArray).heap[g.ab lv k]? = some (.cells (Go.Sort.putCells encStr 0 l.toArray C) ty (0,0)):=by
   rw[r,Qbx,Qbq rfl,T];rfl
  have G:∀j (p:j<(Lib.compact xs).length),(Go.Sort.putCells encStr 0 l.toArray C).getD (j * 1+0) undef = .string ⟨((Lib.compact xs)[j]).toArray⟩:=λj p=>by
   have O:j * 1+0<C.size:=by rw[Y];omega
   rw[Qae,Go.Sort.putCells,Array.getElem?_mapIdx,Qas O];simp only[Qbk,Option.getD_some,Nat.sub_zero];rw[Qbq ⟨Qbo _,by simp;omega⟩,getElem!_pos l.toArray _ (by simp;omega)];simp[encStr,<-F,List.getElem_append_left p]
  have J:∀(j:Nat) (x:V),((Lib.compact xs).map V.str)[j]? = some x->∃p:j<(Lib.compact xs).length,x = .str (Lib.compact xs)[j]:=λj x p=>by
   rw[Qan,Qaf]at p;obtain⟨y,hy,rfl⟩:=p;have⟨h1,h2⟩:=Qaa.1 hy;exact⟨h1,by rw[h2]⟩
  have⟨q1,q2⟩:=zgk (W':=putRow encStr (Sort.ahead W X) (g.ab lv k) 0 l.toArray) hG (o':=.arr (i+1) ty 1 ((Lib.compact xs).map V.str) U) H rfl rfl rfl rfl (by rw[r];simp) (λb hl h6=>by
    rw[r,Qbx,Qbr (λh=>h6 h.symm)])
   (λh8 h9 hf zs N he=>by injection he with K I e3 e4 e5;subst K;subst I;subst e3;subst e4;exact⟨_,_,_,rfl,Nat.le_succ _,λh=>by omega⟩) (λhh=>by
   refine⟨_,h7,by decide,by rw[Go.Sort.putCells,Array.size_mapIdx];exact Y,h3,by rw[List.length_map];omega,k5,λj x p =>?_,λj x t v p A =>?_,λj x t v p A =>?_⟩;obtain⟨_,rfl⟩:=J j x p;rfl;obtain⟨B,rfl⟩:=J j x p
   have Z:t=0:=by
    cases t with
    |zero=>rfl
    |succ t=>simp[V.cells]at A
   subst Z;rw[G j B];rfl;obtain⟨B,rfl⟩:=J j x p
   have Z:t=0:=by
    cases t with
    |zero=>rfl
    |succ t=>simp[V.cells]at A
   subst Z;simp[V.cells]at A;subst A;rw[G j B]
   exact .str _)
  simp only[Heap.set,Qbq]at q1 q2;refine⟨.ret (.hs lv k (i+1) 0 (Lib.compact xs).length false),_,g,⟨rfl,rfl⟩,q1,q2,_,rfl,.hs _ _ _ _ _ _ _ _ _ hd (λv ty sz ys N d =>?_) λty sz ys N d =>?_⟩;rw[Heap.yx5 hL]at d;injection d with d;injection d with K;omega;rw[Heap.yx5 hL]at d;injection d with d;injection d with K I e3 e4 e5;subst e3;subst e4
  exact⟨rfl,rfl,⟨by omega,a2,λh=>by cases h⟩,by simp⟩
abbrev y20(xs:List B8):List B8:=Lib.compact xs
def ybt(D)(f ty:Nat)(go:Nat->List B8->Option (List B8)):FI D :=
 {R:=List B8,ent:=λn=>{f:=f,p:=0,args:=[.own 0],aos:=[.acc ty .str true],outs:=[.own 0],ros:=[.acc ty .str true],pan:=.nilp,pos:=[.acc ty .str true],pure:=false,go:=λx k _=>(go n x.1).bind λr=>k (r,())},
   c:=.skip,K:=⟨λ_=>none,[],λ_=>none,λ_ _=>none⟩,p:=0,args:=[],aos:=[],nt:=0,z2k:=λ_=>[],go:=λ_ _=>none}
def ysp{P:Program}{D:Dat}{f ty:Nat}(B:∀args W,(callFunc f args).run P W = .ok (.enter f args) W)
  (N:∀(blk h:Nat) (zs:List B8) (w:World),Holds encStr w blk 0 zs.toArray->zs.length<=9223372036854775807->zs.length<=h ->
   Calls P f #[.slice (some ⟨blk,0,none⟩) zs.length h] w λe Y=>e = .returned (.slice (some ⟨blk,0,none⟩) (Lib.compact zs).length h)∧∃q,Y=putRow encStr (Sort.ahead w q) blk 0 (Lib.compact zs++List.replicate (zs.length-(Lib.compact zs).length) []).toArray)
  (G:∀(p:Option Addr) (h:Nat) (w:World),Calls P f #[.slice p 0 h] w λe Y=>e = .returned (.slice p 0 h)∧Y=w)
  (xs:List B8) (hlen:xs.length<=9223372036854775807) (go:Nat->List B8->Option (List B8)) (n:Nat):((ybt D f ty go).ent n).Flat P ((xs,()):HL D.T [.sl .str]) (.inl ((y20 xs,()):HL D.T [.sl .str])):=λlv L E ρ0 F k1 O k3 k4 _=>by
 have k1:ρ0.length=1:=k1;obtain⟨sl,rfl⟩:=List.length_eq_one_iff.1 k1;have O:VRL D [sl] lv [.own 0] F:=O;simp only[VRL,VR]at O;obtain⟨v,rr,rfl,⟨sl',e1,e2,e3⟩,rfl⟩:=O;obtain rfl:sl=sl':=by simpa using e1
 subst e2;have⟨sl',e4,e5⟩:=k3 0 (.acc ty .str xs true) (Qak);obtain rfl:sl=sl':=by simpa using e4
 simp only[OR]at e5;have⟨o1,H,J⟩:=e5;have o1:sl.ws.length=xs.length:=o1;have H:∀(j:Nat) (x:B8) (v:V),xs[j]? = some x->sl.ws[j]? = some v->DR D .str x v:=H;have m:=z02v o1 H;have M:=ycw xs
 have left:∀(L':List (Option yzm)) (sl':Slot),sl'.k=sl.k->sl'.fp=[]->sl'.ws=(y20 xs).map V.str->(∀i,(∀j,sl.k=some j->j≠i)->L'[i]? = L[i]?)->L'.length=L.length ->
   (match sl'.k with
   |none=>(sl'.v = .nils∧sl'.ws=[])∨((sl'.v = .sl (D.len .str) sl'.ws true∧DTy.str ≠ .int .u8)∧(True->sl'.ws=[]))
   |some i=>∃l U,sl'.v = .hs lv i l 0 sl'.ws.length false∧L'[i]? = some (some (.arr l ty (D.len .str) sl'.ws U))) ->
   Left D lv L [sl] 0 L' [sl'] [.acc ty .str true] ((y20 xs,()):HL D.T [.sl .str]):=λL' sl' a2 a0 a3 a4 a5 a6=>by
  refine⟨rfl,λj o Q =>?_,λs s' t t' i C r2 _ _ =>?_,λs t i C X =>?_,λi hi h4 =>?_,λj t K=>absurd K (Nat.not_lt_zero _),λs t i C X =>?_⟩;have Q:(j,o)∈[(0,(TO.acc ty .str (y20 xs) true:TO D.T))]:=Q;simp only[List.mem_singleton,Qbs]at Q;obtain⟨rfl,rfl⟩:=Q;refine⟨sl',rfl,?_⟩;simp only[OR];refine⟨by rw[a3];exact List.length_map _,λj y v hy hv =>?_,a6⟩;have hy:(y20 xs)[j]? = some y:=hy
  rw[a3,Qan,hy]at hv;cases hv;exact .str _;have r:=(Qaa.1 C).1;have l2:=(Qaa.1 r2).1;simp at r l2;omega;have r:=(Qaa.1 C).1;have:s=0:=by simp at r;omega
  subst this;obtain rfl:sl'=t:=by simpa using C
  exact .inr ⟨0,sl,rfl,.inl (by rw[<-a2];exact Slot.y85 a0 X)⟩;refine⟨by rw[a5];exact hi,a4 i λj K h5=>h4 0 sl rfl (.inl (by rw[K,h5]))⟩;have r:=(Qaa.1 C).1;have:s=0:=by simp at r;omega
  subst this;obtain rfl:sl'=t:=by simpa using C
  rw[a0]at X;cases X
 have one:∀{W:World}{g:Gh}{d:Array Value},zmy W g ⟨lv,L,E⟩ [sl.v] d->∃c,d = #[c]∧Rel W g ⟨lv,L,E⟩ sl.v c:=λ{W g d} A=>by
  have⟨h1,h2⟩:=A;have h3:d.toList.length=1:=by simpa using h1
  have⟨c,u⟩:=List.length_eq_one_iff.1 h3;have h8:d = #[c]:=by rw[<-Array.toList_inj,u]
  subst h8;exact⟨c,rfl,by simpa using h2 0 _ rfl⟩
 have nothing:xs=[]->(∀W g d,zmy W g ⟨lv,L,E⟩ [sl.v] d->∃p h,d = #[.slice p 0 h])->zqp P f [sl.v] ⟨lv,L,E⟩ λout H'=>∃L' ρ',H'=⟨lv,L',E⟩∧(Left D lv L [sl] 0 L' ρ' [.acc ty .str true] ((y20 xs,()):HL D.T [.sl .str])∧((∀q∈([]:List (Nat×Nat)),∀s0,[sl][q.1]? = some s0->∃s1,ρ'[q.2]? = some s1∧s1.v=s0.v)∧yd8 L L' [sl] [])∧∃vs,out = .ret (zbp vs)∧VRL D ρ' lv [.own 0] vs):=λhx u W g d hG A=>by
  obtain⟨p,h,rfl⟩:=u W g d A;have⟨c,h7,h6⟩:=one A;refine⟨B _ _,(G p h W).mono ?_⟩
  rintro e W' ⟨rfl,rfl⟩
  have hs:y20 xs=[]:=Qao (by rw[hx]at M ⊢;simpa using M);have r:=left L ⟨sl.v,sl.k,sl.ws,[]⟩ rfl rfl (by show sl.ws=_;rw[hs,m,hx]) (λ_ _=>rfl) rfl J;refine⟨.ret sl.v,⟨lv,L,E⟩,g,⟨L,[⟨sl.v,sl.k,sl.ws,[]⟩],rfl,r,⟨(λq hq=>by cases hq),.nil⟩,[sl.v],rfl,?_⟩,.refl _ _ _,hG,_,rfl,?_⟩;simp only[VRL,VR];exact⟨sl.v,[],rfl,⟨_,rfl,rfl,e3⟩,rfl⟩
  have:(#[Value.slice p 0 h]:Array Value) = #[c]:=h7;rw[show Value.slice p 0 h=c by simpa using this];exact h6
 cases R:sl.k with
 |none=>
  rw[R]at J
  rcases J with ⟨I,z⟩|⟨I,z⟩
  refine nothing (by rw[m]at z;simpa using z) λW g d A =>?_
  obtain⟨c,rfl,u⟩:=one A;rw[I]at u;cases u;exact⟨_,_,rfl⟩;have Z:=z trivial;refine nothing (by rw[m]at Z;simpa using Z) λW g d A =>?_
  obtain⟨c,rfl,u⟩:=one A;rw[I.1,Z]at u
  cases u with
  |slnil=>exact⟨_,_,rfl⟩
  |sle _ _ a h hf=>exact⟨_,_,rfl⟩
  |sl _ _ _ b o h c=>exact⟨_,_,rfl⟩
 |some i=>
  rw[R]at J;have⟨l,U,I,z⟩:=J;have hi:=(Qaa.1 z).1;rw[m]at z;have hh:=ywu (P:=P) (f:=f) (ty:=ty) B N (lv:=lv) (E:=E) (n:=sl.ws.length) z hlen (by rw[m];simp);rw[<-I]at hh;refine hh.mono λo H' ⟨e1,e2⟩ =>?_
  subst e1;subst e2;have r:=left (L.set i (some (.arr (l+1) ty 1 ((y20 xs).map V.str) U))) ⟨.hs lv i (l+1) 0 (y20 xs).length false,some i,(y20 xs).map V.str,[]⟩ R.symm rfl rfl (λj K=>Qam (K i R)) (by simp) ⟨l+1,U,by simp,by simp[hi,Dat.len]⟩
  refine⟨_,[⟨.hs lv i (l+1) 0 (y20 xs).length false,some i,(y20 xs).map V.str,[]⟩],rfl,r,⟨(λq hq=>by cases hq),.nil⟩,[.hs lv i (l+1) 0 (y20 xs).length false],rfl,?_⟩;show VRL D _ lv [.own 0] _;simp only[VRL,VR];exact⟨_,[],rfl,⟨_,rfl,rfl,rfl⟩,rfl⟩
def z007{P D}{f ty:Nat}(d:∀args W,(callFunc f args).run P W = .ok (.enter f args) W)
  (g:∀(blk a:Nat) (zs:List B8) (w:World),Holds encStr w blk 0 zs.toArray->zs.length<=9223372036854775807->zs.length<=a ->
   Calls P f #[.slice (some ⟨blk,0,none⟩) zs.length a] w λe i=>e = .returned (.slice (some ⟨blk,0,none⟩) (Lib.compact zs).length a)∧∃q,i=putRow encStr (Sort.ahead w q) blk 0 (Lib.compact zs++List.replicate (zs.length-(Lib.compact zs).length) []).toArray)
  (b:∀(p:Option Addr) (a:Nat) (w:World),Calls P f #[.slice p 0 a] w λe i=>e = .returned (.slice p 0 a)∧i=w) :
  FOk P (ybt D f ty λ_ xs=>if xs.length<=9223372036854775807 then some (y20 xs)else none):=λn R x k m r h=>by
 have h:((if x.1.length<=9223372036854775807 then some (y20 x.1)else none).bind λr=>k (r,()))=some r:=h;have⟨r0,j,l⟩:=ztc h;split at j;rename_i hlen;cases j;exact .inl ⟨(y20 x.1,()),l,ysp d g b x.1 hlen _ n⟩;cases j
end Go.Ab
namespace Go.Ab
open Go
theorem y3h:∀a:B8,Op.bytesLess a a=false
 |[]=>rfl
 |x::a=>by simp[Op.bytesLess,y3h a]
theorem yhm:∀{a b c},Op.bytesLess a b=true->Op.bytesLess b c=true->Op.bytesLess a c=true
 |_,[],_,h,_=>by simp[Op.bytesLess]at h
 |_,_::_,[],_,h=>by simp[Op.bytesLess]at h
 |[],_::_,_::_,_,_=>by simp[Op.bytesLess]
 |x::a,y::b,z::c,e,d=>by
  simp[Op.bytesLess,Qbg]at e d ⊢
  rcases e with e|⟨rfl,e⟩
  rcases d with d|⟨rfl,d⟩
  grind
  exact .inl e
  rcases d with d|⟨rfl,d⟩
  exact .inl d;exact .inr ⟨rfl,yhm e d⟩
theorem yjw:∀{a b},Op.bytesLess a b=false->Op.bytesLess b a=false->a=b
 |[],[],_,_=>rfl
 |[],_::_,h,_=>by simp[Op.bytesLess]at h
 |_::_,[],_,h=>by simp[Op.bytesLess]at h
 |x::a,y::b,g,e=>by
  simp[Op.bytesLess,beq_eq_false_iff_ne]at g e;have d:x=y:=UInt8.toNat_inj.1 (by grind);subst d;have j:Op.bytesLess a b=false:=by grind
  have i:Op.bytesLess b a=false:=by grind
  rw[yjw j i]
theorem z0ae{a b}(h:Op.bytesLess a b=true):Op.bytesLess b a=false:=by
 grind[yhm,y3h]
theorem le_bl(x y):decide (x<=y) = !Op.bytesLess y x:=by
 grind[Go.Proofs.bytesLess_eq]
def zng(l:List B8):Prop:=l.Pairwise λx y=>Op.bytesLess x y=true
theorem y4w:∀{l m},zng l->zng m->(∀x,x∈l↔x∈m)->l=m
 |[],[],_,_,_=>rfl
 |[],y::m,_,_,h=>by grind[Qak]
 |x::l,[],_,_,h=>by grind[Qak]
 |x::l,y::m,e,d,h=>by
  have i:=List.pairwise_cons.1 e;have g:=List.pairwise_cons.1 d
  have a:x=y:=by
   grind[Qak,z0ae]
  subst a;refine congrArg (x :: ·) (y4w i.2 g.2 λz=>⟨λb =>?_,λb =>?_⟩)
  grind[y3h]
  grind[y3h]
theorem ypx{l}(h:l.Nodup):zng (z90 l):=by
 grind[z90,List.pairwise_mergeSort,le_bl,zqc,zng,List.Pairwise.imp₂,yjw]
def ins:List B8->B8->List B8
 |[],s=>[s]
 |x::l,s=>if Op.bytesLess x s then x::ins l s else if x=s then x::l else s::x::l
theorem yfz(s):∀(l) (z),z∈ins l s↔z∈l∨z=s
 |[],z=>by simp[ins]
 |x::l,z=>by
  rw[ins];split;rw[Qbf,Qbf,yfz s l z,or_assoc];split;rename_i h;subst h;constructor;exact .inl
  rintro (h|rfl)
  exact h
  grind
  grind
theorem y6h{s}:∀{l},zng l->zng (ins l s)
 |[],_=>by simp[ins,zng]
 |x::l,h=>by
  have a:=List.pairwise_cons.1 h;rw[ins];split;rename_i d;refine List.pairwise_cons.2 ⟨λz hz =>?_,y6h a.2⟩
  rcases(yfz s l z).1 hz with hz|rfl
  exact a.1 z hz;exact d;split;exact h
  have b:Op.bytesLess s x=true:=by
   grind[yjw]
  refine List.pairwise_cons.2 ⟨λz hz =>?_,h⟩
  rcases Qbf.1 hz with rfl|hz
  exact b;exact yhm b (a.1 z hz)
theorem y8w(s):∀l:List B8,(ins l s).length<=l.length+1
 |[]=>by simp[ins]
 |x::l=>by
  have:=y8w s l
  grind[ins]
def z08u(s):∀l:List B8,ins l s=if (l.dropWhile (λx=>Op.bytesLess x s)).head?=some s then l else l.takeWhile (λx=>Op.bytesLess x s)++s::l.dropWhile (λx=>Op.bytesLess x s)
 |[]=>by simp[ins]
 |x::l=>by
  rw[ins];cases h:Op.bytesLess x s
  grind[List.dropWhile_cons_of_neg,List.takeWhile_cons_of_neg]
  rw[List.dropWhile_cons_of_pos (by simp[h]),List.takeWhile_cons_of_pos (by simp[h]),Qbq rfl,z08u s l];split <;> rfl
end Go.Ab
namespace Go.Ab
open Go Go.RowKit
end Go.Ab
