/-
  MORE OPERATIONS: what strings.Builder does with its own address and its bytes; make([]T, n).
-/
import Derived.Test.YthlmhmebajjkbaaGreatDoorLib2
import Derived.Lib.Builder
import Derived.Lib.UnsafeStr
import Derived.Laws.MakeOwn
import Derived.Laws.IdiomStrings
import Derived.Recover
import Derived.Maps.RangeRun
set_option linter.defProp false
set_option linter.unusedSimpArgs false
set_option linter.unusedVariables false
namespace Go.Ab
open Go
section
variable {W:World}{g:Gh}{H:Heap}{P:Program}
def Rel.z05y(l i:Nat){W':World}{g':Gh}{H':Heap}{ty sz:Nat}{xs:List V}{a:Option Nat}(b:g'.dom l i)(d:H'.get l i=some (.arr 0 ty sz xs a)):Rel W' g' H' (.ap l i 0 0 0) (.pointer (some ⟨g'.ab l i,0,none⟩)):=by
 refine .ap l i 0 0 0 _ b (λ_ _ _ _ _ _=>Qbv _) λty sz xs a _ =>?_
 simp
def z05m(P:Program)(t:Nat):Bool:=match P.info? t with
 |some i=>match i.desc with
  |.named n _=>n == "strings.Builder"
  |_=>false
 |none=>false
def yb9(P:Program)(H:Heap)(t:Nat):Option (V×Heap):=match zeroV P t,P.info? t with
 |some z,some i=>if z.kzl&&z.cells.length==i.size&&Nat.blt 0 i.size then some (.ap H.lv H.L.length 0 0 0,H.push (.arr 0 t i.size [z] (some 1)))else none
 |_,_=>none
def z030{W':World}{g':Gh}{H':Heap}{l i:Nat}{m ty sz:Nat}{z:V}{c:Array Value}(b:g'.cap l i=1)(h:W'.heap[g'.ab l i]? = some (.cells c ty (0,0)))(o:0<sz)(p:z.cells.length=sz)(e:zy3 W' g' H' z.cells c):zif W' g' H' l i (.arr m ty sz [z] (some 1)):=by
 have one:∀{j:Nat}{x:V},[z][j]? = some x->j=0∧x=z:=λ{j x} a=>by
  cases j with
  |zero=>simp at a;exact⟨rfl,a.symm⟩
  |succ j=>simp at a
 refine⟨c,h,o,by rw[e.1,p,b,Nat.one_mul],by rw[b];decide,by rw[b];simp,λn k=>by injection k with k;rw[b,k],λj x a =>?_,λj x t v a d =>?_,λj x t v a d =>?_⟩
 ·obtain⟨_,rfl⟩:=one a;exact p
 ·obtain⟨rfl,rfl⟩:=one a;rw[Nat.zero_mul,Nat.zero_add];exact e.2.1 t v d
 ·obtain⟨rfl,rfl⟩:=one a;rw[Nat.zero_mul,Nat.zero_add];exact e.2.2 t v d
def ynd(q:Good W g H){t:Nat}{v:V}{H':Heap}(h:yb9 P H t=some (v,H')):z9v P W g H (do pure (.value (<-Instr.alloc t true (.tuple #[])))) v H':=by
 unfold yb9 at h;split at h
 ·rename_i z i m y;split at h
  ·rename_i l;simp only[Qag,Qbm,Nat.blt_eq]at l;have⟨⟨x,w⟩,u⟩:=l;cases h;have⟨a,d,b⟩:=zta (W:=W) (g:=g) (H:=H) m;have n:=zgl x b
   have⟨s,r⟩:=zit q (O:=.cells a.cells t) (o:=.arr 0 t i.size [z] (some 1)) 1 (λW' g' H' p k A e=>by
    refine z030 (c:=a.cells) (by rw[k];simp[Gh.add]) ?_ u w (n.mono e);rw[p,k];simp only[Gh.add,and_self,if_true]
    exact z2h _ _)
   refine⟨.pointer (some ⟨W.heap.size,0,none⟩),_,_,.inl (by simp[Instr.alloc,d,newVar,newRow]),s,r,?_⟩;have j:(H.push (.arr 0 t i.size [z] (some 1))).get H.lv H.L.length=some (.arr 0 t i.size [z] (some 1)):=by rw[Heap.z9q,Qbx ⟨rfl,rfl⟩]
   have:=Rel.z05y (W':=W.alloc (.cells a.cells t)) (g':=g.add H.lv H.L.length W.heap.size 1) H.lv H.L.length (.inr ⟨rfl,rfl⟩) j;simpa[Gh.add]using this
  ·cases h
 ·cases h
def yxn(H:Heap):V->Option (Nat×Nat×Nat×Nat)
 |.ap l i e b a=>match H.get l i with
  |some (.arr d ty sz xs h)=>match Nat.beq d e&&Nat.blt (Nat.add (Nat.mul b sz) a) (Nat.mul xs.length sz)with
   |true=>some (ty,sz,xs.length,Nat.add (Nat.mul b sz) a)
   |false=>none
  |_=>none
 |_=>none
def y06(y:Good W g H){x:V}{c:Value}{ty sz n o:Nat}(h:yxn H x=some (ty,sz,n,o))(u:Rel W g H x c):∃b q cells,c = .pointer (some ⟨b,o,none⟩)∧W.heap[b]? = some (.cells cells ty (0,0))∧cells.size=q * sz∧n<=q∧0<sz∧o<n * sz:=by
 unfold yxn at h;split at h
 ·rename_i l i j M K;split at h
  ·rename_i d I J xs Y k;split at h
   ·rename_i e;simp only[Qag]at e;have z:d=j:=Qaj e.1;subst z;injection h with h;injection h with F h;injection h with E h;injection h with C B;subst F;subst E;subst C;subst B
    cases u with
    |ap _ _ _ _ _ a X U w=>
     obtain rfl:=w _ _ _ _ k;have⟨A,s,r,p,L,m,R,Q,O,N⟩:=y.obj _ _ _ k;exact⟨_,g.cap l i,A,rfl,s,p,m,r,by have:=e.2;rw[Nat.blt_eq]at this;exact this⟩
   ·cases h
  ·cases h
 ·cases h
def ytx:V->V->Bool
 |.ap l i v x o,.ap d e b a o'=>Nat.beq l d&&Nat.beq i e&&Nat.beq v b&&Nat.beq x a&&Nat.beq o o'
 |_,_=>false
def yx9{x y:V}(h:ytx x y=true):x=y:=by
 unfold ytx at h;split at h
 ·simp only[Qag]at h;have⟨⟨⟨⟨i,e⟩,d⟩,b⟩,a⟩:=h;rw[Qaj i,Qaj e,Qaj d,Qaj b,Qaj a]
 ·cases h
def z02l(P:Program)(H:Heap)(op:BinOp)(t:Nat)(x y:V):Option V :=
 match ytx x y,yxn H x,P.underlying t with
 |true,some _,some (.pointer e)=>match (P.info? e).isSome,op with
  |true,.eql=>some (.bool true)
  |true,.neq=>some (.bool false)
  |_,_=>none
 |_,_,_=>none
def y9c{b i:TypeId}{j:TypeInfo}(a:Addr)(k:P.underlying b=some (.pointer i))(e:P.info? i=some j) :
  (binOp .eql b (.pointer (some a)) (.pointer (some a))).run P W = .ok (.bool true) W:=by
 have h:∀d:Nat,(Op.equalIn (d+1) b (.pointer (some a)) (.pointer (some a))).run P W = .ok true W:=λd=>by
  simp[Op.equalIn,run_underlying k,sizeOf,typeInfo,e,run_sameAddr_same]
 simp only[binOp];simp[Op.equal,Op.maxDepth,h 9999]
def yt6(m:Good W g H){op:BinOp}{t:Nat}{x y:V}{v:V}{a b:Value}(K J:Operand)(h:z02l P H op t x y=some v)(B:Rel W g H x a)(A:Rel W g H y b) :
  z9v P W g H (do pure (.value (<-(do eqGuard op t K J a b;binOp op t a b)))) v H:=by
 unfold z02l at h;split at h
 ·rename_i p e N d F;obtain rfl:=yx9 N;have⟨ty,sz,n,o⟩:=p;obtain⟨blk,q,cells,rfl,k1,k2,k3,k4,k5⟩:=y06 m d B
  have L:b = .pointer (some ⟨blk,o,none⟩):=by
   obtain⟨I,Z,r,rfl,m1,m2,m3,m4,m5⟩:=y06 m d A;unfold yxn at d;split at d
   ·rename_i l i w Y X;split at d
    ·rename_i k R U xs cp C;split at d
     ·rename_i E;simp only[Qag]at E;obtain rfl:k=w:=Qaj E.1
      cases B with
      |ap _ _ _ _ _ _ _ _ M=>
       have Q:=M _ _ _ _ C
       cases A with
       |ap _ _ _ _ _ _ _ _ z=>
        have O:=z _ _ _ _ C;rw[Q,O]
     ·cases d
    ·cases d
   ·cases d
  subst L;split at h
  ·rename_i u;have⟨j,s⟩:=Option.isSome_iff_exists.1 u;cases h;exact⟨_,W,g,.inl (by simp[eqGuard,y9c _ F s]),.refl _ _ _,m,.bool _⟩
  ·rename_i u;have⟨j,s⟩:=Option.isSome_iff_exists.1 u;cases h;exact⟨_,W,g,.inl (by simp[eqGuard,Lib.run_neq_ptr_same _ _ F s]),.refl _ _ _,m,.bool _⟩
  ·cases h
 ·cases h
def z02n(H:Heap):V->Bool
 |.ap l i _ _ _=>match H.get l i with
  |some (.arr _ _ _ _ (some 1))=>true
  |_=>false
 |_=>false
def yyq(P:Program)(H:Heap)(s d:Nat)(x:V):Option V :=
 match P.underlying s,P.underlying d,yxn H x with
 |some (.pointer t),some .unsafePointer,some _=>match P.info? t with
  |some j=>match Nat.blt 0 j.size with
   |true=>some x
   |false=>none
  |none=>none
 |some .unsafePointer,some (.pointer u),some (ty,sz,n,o)=>match P.info? u with
  |some _=>match Nat.beq (P.cellsOf ty) sz&&Nat.beq n 1&&z02n H x&&liesAt P P.depth ty 1 o u 1 with
   |true=>some x
   |false=>none
  |none=>none
 |_,_,_=>none
def yt3(y:Good W g H){s d:Nat}{x v:V}{c:Value}(h:yyq P H s d x=some v)(w:Rel W g H x c):z9v P W g H (do pure (.value (<-convert s d c))) v H:=by
 unfold yyq at h;split at h
 ·rename_i t p C I b;have⟨ty,sz,n,o⟩:=p;obtain⟨blk,q,cells,rfl,A,Q,O,N,M⟩:=y06 y b w;split at h
  ·rename_i j E;split at h
   ·rename_i B;rw[Nat.blt_eq]at B;cases h;have K:o<cells.size:=by rw[Q];exact Qbj M (Qau _ O)
    exact⟨_,W,g,.inl (by simp[Lib.run_to_unsafe W ⟨blk,o,none⟩ C I E (by omega) (show W.shape? blk=some (ty,cells.size) by simp[World.shape?,A]) K]),.refl _ _ _,y,w⟩
   ·cases h
  ·cases h
 ·rename_i u ty sz n o C I b;obtain⟨blk,q,cells,rfl,A,Q,O,N,M⟩:=y06 y b w;split at h
  ·rename_i j E;split at h
   ·rename_i B;simp only[Qag]at B;have⟨⟨⟨X,z2⟩,r⟩,U⟩:=B;have e1:P.cellsOf ty=sz:=Qaj X;cases h
    have k:cells.size=sz:=by
     unfold z02n at r;split at r
     ·rename_i l i J h5 h3;split at r
      ·rename_i z h1 h2 xs F
       cases w with
       |ap _ _ _ _ _ a _ _ ha=>
        simp only[yxn,F]at b;split at b
        ·rename_i R;simp only[Qag]at R;obtain rfl:z=J:=Qaj R.1;injection b with b;injection b with a1 b;injection b with a2 b;injection b with a3 a4;have:=ha _ _ _ _ F;injection this with L h6;have⟨cc,m,m2,Z,h4,m4,Y,_⟩:=y.obj _ _ _ F;rw[<-L,A]at m;injection m with m;injection m with m _ _;rw[m,Z,Y 1 rfl,Nat.one_mul,a2]
        ·cases b
      ·cases r
     ·cases r
    have hq:cells.size / P.cellsOf ty=1:=by rw[k,e1];exact Nat.div_self N
    exact⟨_,W,g,.inl (by simp[Lib.run_from_unsafe W (e:=ty) (cells:=cells.size) ⟨blk,o,none⟩ C I E (by simp[World.shape?,A]) (by rw[hq];exact U)]),.refl _ _ _,y,w⟩
   ·cases h
  ·cases h
 ·cases h
def y3k(H:Heap)(x:V):Option V:=match x with
 |.nils=>some .nilp
 |.hs l i a d n full=>match H.get l i with
  |some (.arr b _ _ _ _)=>match Nat.beq b a&&Nat.blt 0 n with
   |true=>some (.ap l i a d 0)
   |false=>none
  |_=>none
 |_=>none
def ya4(q:Good W g H){x v:V}{c:Value}{ts:Array TypeId}{ty:TypeId}(h:y3k H x=some v)(o:Rel W g H x c):z9v P W g H (do pure (.value (<-Builtin.unsafeSliceData_ ts ty #[c]))) v H:=by
 unfold y3k at h;split at h
 ·cases h
  cases o with
  |nils=>exact⟨_,W,g,.inl (by simp[Lib.run_unsafeSliceData_nil]),.refl _ _ _,q,.nilp⟩
 ·rename_i l i e j n full;split at h
  ·rename_i b B sz xs M u;split at h
   ·rename_i d;simp only[Qag]at d;obtain rfl:b=e:=Qaj d.1;have F:0<n:=by have:=d.2;rwa[Nat.blt_eq]at this
    cases h
    cases o with
    |hs _ _ _ _ _ _ a m k w s p=>
     obtain⟨rfl,rfl,⟨L,K,J⟩,I⟩:=p _ _ _ _ u;refine⟨_,W,g,.inl (by rw[Qca,Lib.run_unsafeSliceData_row W ts ty _ _ k (by omega)];rfl),.refl _ _ _,q,?_⟩;refine .ap l i b j 0 _ w s λA C z E y =>?_
     have⟨r,_⟩:=p _ _ _ _ y;injection r
   ·cases h
  ·cases h
 ·cases h
def zx4:List V->Option B8
 |[]=>some []
 |v::r=>match v,zx4 r with
  |.int .u8 (.ofNat m),some s=>match Nat.ble m 255 with
   |true=>some (m.toUInt8::s)
   |false=>none
  |_,_=>none
def zy8:∀{vs:List V}{s:B8},zx4 vs=some s->s.length=vs.length∧∀(j:Nat) (x:UInt8),s[j]? = some x->vs[j]? = some (.int .u8 x.toNat)
 |[],s,h=>by simp only[zx4,Qbu]at h;subst h;exact⟨rfl,by simp⟩
 |v::r,s,h=>by
  simp only[zx4]at h;split at h
  ·rename_i m k i;split at h
   ·rename_i b;cases h;have⟨e,d⟩:=zy8 i;refine⟨by simp[e],λj x a =>?_⟩
    cases j with
    |zero=>
     simp only[Qcd,Qbu]at a ⊢;subst a;have b:=Nat.le_of_ble_eq_true b
     have:(m.toUInt8).toNat=m:=by
      simp only[Nat.toUInt8,UInt8.toNat_ofNat'];omega
     rw[this];rfl
    |succ j=>simpa using d j x (by simpa using a)
   ·cases h
  ·cases h
def yta(P:Program)(H:Heap)(pt:Nat)(p n:V):Option (V×Heap) :=
 match p,n with
 |.nilp,.int .i64 (.ofNat 0)=>some (.str [],H)
 |.ap l i b 0 0,.int .i64 (.ofNat m)=>match H.get l i,P.underlying pt with
  |some (.arr a ty sz xs d),some (.pointer e)=>match Nat.beq a b&&Nat.beq sz 1&&Nat.beq l H.lv&&Nat.beq e ty&&Nat.beq (P.cellsOf ty) 1&&Nat.blt 0 m&&Nat.ble m xs.length&&Nat.ble m zin with
   |true=>match zx4 (xs.take m)with
    |some s=>some (.str s,H.y6z i)
    |none=>none
   |false=>none
  |_,_=>none
 |_,_=>none
def yqs(y:Good W g H){pt it ty:Nat}{p n v:V}{H':Heap}{cp cn:Value}(h:yta P H pt p n=some (v,H'))(hp:Rel W g H p cp)(hn:Rel W g H n cn) :
  z9v P W g H (do pure (.value (<-Builtin.unsafeString_ #[pt,it] ty #[cp,cn]))) v H':=by
 unfold yta at h;split at h
 ·cases h;cases hp;cases hn;exact⟨_,W,g,.inl (by rw[Qca,show Int.ofNat 0=(0:Int)from rfl,Lib.run_unsafeString_none W pt it ty none];rfl),.refl _ _ _,y,.str []⟩
 ·rename_i l i R m;split at h
  ·rename_i J U sz xs h6 e C X;split at h
   ·rename_i hc;simp only[Qag]at hc;have⟨⟨⟨⟨⟨⟨⟨c1,c2⟩,c3⟩,c4⟩,Q⟩,c6⟩,c7⟩,O⟩:=hc;obtain rfl:J=R:=Qaj c1;obtain rfl:sz=1:=Qaj c2;obtain rfl:l=H.lv:=Qaj c3;obtain rfl:e=U:=Qaj c4;have Q:P.cellsOf e=1:=Qaj Q;rw[Nat.blt_eq]at c6;have c7:=Nat.le_of_ble_eq_true c7;have O:=Nat.le_of_ble_eq_true O
    unfold zin at O;split at h
    ·rename_i s hs;cases h;have⟨b1,b2⟩:=zy8 hs;have d:s.length=m:=by rw[b1,Qay];omega
     cases hn
     cases hp with
     |ap _ _ _ _ _ a hd hv ha=>
      obtain rfl:=ha _ _ _ _ C;have⟨N,k1,k2,k3,h4,k4,k5,k6,k7,k8⟩:=y.obj _ _ _ C;have h5:=y.lt _ _ _ C
      have w:=Lib.run_unsafeString_row (P:=P) W pt it ty e X Q (g.ab H.lv i) N.size (by simp[World.shape?,k1]) s (by intro hh;rw[hh]at d;simp at d;omega) (by rw[d,k3];omega) (by omega) (λj x hj=>by
       have F:=b2 j x hj;have h2:j<m:=by rw[<-d];exact(Qaa.1 hj).1
       rw[Qaw,Qbx h2]at F;have r:=k8 j _ 0 _ F rfl;have L:(⟨g.ab H.lv i,0,none⟩:Addr).add j=⟨g.ab H.lv i,j,none⟩:=by unfold Addr.add;split <;> simp_all
       have h3:j<N.size:=by rw[k3];omega
       rw[L,cell_of k1 h3];rw[Nat.mul_one,Nat.add_zero]at r;generalize N.getD j undef=q at r
       cases r;rfl)
      rw[d]at w;have⟨M,E,g3,g4⟩:=ywh y C
      have I:∀k,k≠g.ab H.lv i->(W.freeze ⟨g.ab H.lv i,0,none⟩ m).heap[k]? = W.heap[k]? := λk hk=>by
       unfold World.freeze;split
       ·rfl
       ·simp only[Array.getElem?_modify];rw[Qby (λe=>hk e.symm)]
      have u:(W.freeze ⟨g.ab H.lv i,0,none⟩ m).heap.size=W.heap.size:=by unfold World.freeze;split <;> simp
      have A:(W.freeze ⟨g.ab H.lv i,0,none⟩ m).os=W.os∧(W.freeze ⟨g.ab H.lv i,0,none⟩ m).tape=W.tape∧(W.freeze ⟨g.ab H.lv i,0,none⟩ m).output=W.output:=by unfold World.freeze;split <;> exact⟨rfl,rfl,rfl⟩
      have Y:Own g H (g.ab H.lv i):=⟨_,_,_,C,rfl⟩
      have z:Step W g H (W.freeze ⟨g.ab H.lv i,0,none⟩ m) g (H.y6z i) :=
       ⟨A.1,A.2.1,A.2.2,Nat.le_of_eq u.symm,λb hb h1=>I b (λe=>h1 (by rw[e];exact Y)),E.own,E.dom,E.new,E.blk,E.arr,E.lv⟩
      have K:∀l k o,(H.y6z i).get l k=some o->o.blk g l k≠g.ab H.lv i:=λl k o B e=>by
       have⟨q1,q2⟩:=Heap.zhq B;exact q2 (y.inj _ _ _ _ _ _ q1 C e)
      refine⟨.string ⟨s.toArray⟩,_,g,.inl (by rw[Qca,show Int.ofNat m=((m:Nat):Int)from rfl,w];rfl),z,⟨M.dom,λl k o B=>by rw[u];exact M.lt l k o B,M.inj,M.fresh,λl k o B =>?_,y.y3r.step z⟩,.str s⟩;have Z:=y.obj l k o (Heap.zhq B).1;exact Z.mono z (I _ (K l k o B)) rfl rfl rfl
    ·cases h
   ·cases h
  ·cases h
 ·cases h
def y2o(P:Program)(H:Heap)(t:Nat)(n c:V):Option (V×Heap) :=
 match n,c with
 |.int _ (.ofNat n),.int _ (.ofNat c)=>match P.underlying t with
  |some (.slice e)=>match P.info? e,zeroV P e with
   |some i,some z=>match z.kzl&&Nat.beq z.cells.length i.size&&Nat.blt 0 i.size&&Nat.ble n c&&Nat.ble c 1000000&&Nat.ble i.bytes 100000 with
    |true=>some (.hs H.lv H.L.length 0 0 n false,H.push (.arr 0 e i.size (List.replicate n z) none))
    |false=>none
   |_,_=>none
  |_=>none
 |_,_=>none
def y9f(hG:Good W g H){t:Nat}{n c v:V}{H':Heap}{M N:Value}(h:y2o P H t n c=some (v,H'))(hn:Rel W g H n M)(E:Rel W g H c N):z9v P W g H (do pure (.value (<-Instr.makeSlice t M N))) v H':=by
 unfold y2o at h;split at h
 ·rename_i k1 n Z c;split at h
  ·rename_i e ht;split at h
   ·rename_i i z I F;split at h
    ·rename_i K;simp only[Qag]at K;have⟨⟨⟨⟨⟨c1,q⟩,Q⟩,r⟩,w⟩,s⟩:=K;have q:=Qaj q;rw[Nat.blt_eq]at Q;have r:=Nat.le_of_ble_eq_true r;have w:=Nat.le_of_ble_eq_true w;have s:=Nat.le_of_ble_eq_true s;cases h;cases hn;cases E
     obtain⟨b,A,y⟩:∃b,i.zero=some b∧Rel W g H z b:=by
      simp only[zeroV,I,Option.bind_some,Qaf]at F;obtain⟨b,Y,rfl⟩:=F;exact⟨b,Y,zph b⟩
     have⟨X,U,R⟩:=zgl c1 y;have hb:i.bytes * c<=100000 * 1000000:=Nat.mul_le_mul s w;have l:=run_make (P:=P) W t e i b ht I A k1 Z (Int.ofNat n) (Int.ofNat c) (Int.natCast_nonneg n) (by show((n:Nat):Int)<=(c:Nat);omega) (by show((i.bytes:Nat):Int) * ((c:Nat):Int)<=_;rw[<-Int.natCast_mul];omega) (by show((c:Nat):Int)<=_;omega);simp only[Int.toNat,Int.ofNat_eq_natCast]at l
     have⟨h1,h2⟩:=zit hG (O:=.cells (madeCells b.cells (c * i.size)) e) (o:=.arr 0 e i.size (List.replicate n z) none) c (λW' g' H' hW J hH C=>by
      have a:g'.cap H.lv H.L.length=c:=by rw[J];simp[Gh.add]
      refine⟨madeCells b.cells (c * i.size),?_,Q,by rw[a,size_madeCells],by rw[a];unfold maxLen;omega,by rw[a];simpa using r,by simp,λj x m =>?_,λj x p u m d =>?_,λj x p u m d =>?_⟩
      ·rw[hW,J];simp only[Gh.add,and_self,if_true];exact z2h _ _
      all_goals
       rw[Qbo]at m;split at m
       ·rename_i h6;cases m
        first
        |exact q
        |(have B:p<i.size:=by rw[<-q];exact(Qaa.1 d).1
          rw[y1w b.cells c j p i.size (by rw[X,q]) B (by omega)]
          first|exact U p u d|exact(R p u d).mono C)
       ·cases m)
     refine⟨.slice (some ⟨W.heap.size,0,none⟩) n c,_,_,.inl (by rw[Qca,show Int.ofNat n=((n:Nat):Int)from rfl,show Int.ofNat c=((c:Nat):Int)from rfl,l];rfl),h1,h2,?_⟩;refine .hs H.lv H.L.length 0 0 n false _ n c (.inr ⟨rfl,rfl⟩) (λ_ _ _ _ _ _=>Qbv _) λh4 h5 h3 h7 k =>?_
     rw[Heap.z9q,Qbx ⟨rfl,rfl⟩]at k;injection k with k;injection k with _ _ _ e4 _;refine⟨by simp[Gh.add],rfl,⟨r,by simp[Gh.add],λhh=>by cases hh⟩,by rw[<-e4];simp⟩
    ·cases h
   ·cases h
  ·cases h
 ·cases h
def yfl(b:Good W g H){t:Nat}{n c v:V}{d e:Value}(h:zl0 P t n c=some v)(i:Rel W g H n d)(a:Rel W g H c e):z9v P W g H (do pure (.value (<-Instr.makeSlice t d e))) v H :=
 (ypn b h i a).op.turns b
def isC:Operand->Bool
 |.const _=>true
 |_=>false
def y6e(P:Program)(op:BinOp)(t:Nat)(b a:Operand)(x y:V):Option V:=match x,y,isC b||isC a,P.underlying t with
 |.nili,.nili,true,some (.interface _)=>match op with
  |.eql=>some (.bool true)
  |.neq=>some (.bool false)
  |_=>none
 |_,_,_,_=>none
def yqa(l:Good W g H){op:BinOp}{t:Nat}{j i:Operand}{x y v:V}{a b:Value}(h:y6e P op t j i x y=some v)(n:Rel W g H x a)(m:Rel W g H y b) :
  z9v P W g H (do pure (.value (<-(do eqGuard op t j i a b;binOp op t a b)))) v H:=by
 unfold y6e at h;split at h
 ·rename_i ms q o;cases n;cases m
  have k:(eqGuard op t j i .nilIface .nilIface).run P W = .ok () W:=by
   cases j <;> cases i <;> first|(simp[isC]at q;done)|(cases op <;> simp[eqGuard])
  have p:∀d:Nat,(Op.equalIn (d+1) t .nilIface .nilIface).run P W = .ok true W:=λd=>by
   simp[Op.equalIn,kz3 o]
  have e:(Op.equal t .nilIface .nilIface).run P W = .ok true W:=p 9999;split at h
  ·cases h;exact⟨_,W,g,.inl (by simp[k,binOp_eql (a:=.nilIface) rfl,e]),.refl _ _ _,l,.bool _⟩
  ·cases h;exact⟨_,W,g,.inl (by simp[k,binOp_neq (a:=.nilIface) rfl,e]),.refl _ _ _,l,.bool _⟩
  ·cases h
 ·cases h
def hEq2(P:Program)(H:Heap)(op:BinOp)(t:Nat)(b a:Operand)(x y:V):Option V:=match y6e P op t b a x y with
 |some v=>some v
 |none=>z02l P H op t x y
def yx7(k:Good W g H){op:BinOp}{t:Nat}{e d:Operand}{x y v:V}{a b:Value}(h:hEq2 P H op t e d x y=some v)(j:Rel W g H x a)(i:Rel W g H y b) :
  z9v P W g H (do pure (.value (<-(do eqGuard op t e d a b;binOp op t a b)))) v H:=by
 unfold hEq2 at h;split at h
 ·rename_i u l;cases h;exact yqa k l j i
 ·exact yt6 k e d h j i
def hStr(P:Program)(s d:Nat)(x:V):Option V:=match P.underlying s,P.underlying d with
 |some (.slice e),some .string=>match P.underlying e with
  |some (.int .u8)=>match x with
   |.nils=>some (.str [])
   |.sl 1 ws _=>(zx4 ws).map .str
   |_=>none
  |_=>none
 |_,_=>none
def y3l{s d e:Nat}(a:Option Addr)(c:Nat)(b:P.underlying s=some (.slice e))(h:P.underlying e=some (.int .u8))(i:P.underlying d=some .string):(convert s d (.slice a 0 c)).run P W = .ok (.string ⟨#[]⟩) W:=by
 rw[run_convert_bytes_string W s d e _ 0 c b h i];cases a <;> simp[Conv.bytesToString,loadCells]
 all_goals rfl
def ydz(r:Good W g H){s d:Nat}{x v:V}{c:Value}(h:hStr P s d x=some v)(u:Rel W g H x c):z9v P W g H (do pure (.value (<-convert s d c))) v H:=by
 unfold hStr at h;split at h
 ·rename_i e m p;split at h
  ·rename_i n;split at h
   ·cases h;cases u;exact⟨_,W,g,.inl (by simp[y3l none 0 m n p]),.refl _ _ _,r,.str []⟩
   ·rename_i ws U;rw[Qaf]at h;obtain⟨l,E,rfl⟩:=h;have⟨A,L⟩:=zy8 E;have nil:ws=[]->l=[]:=λe=>Qao (by rw[A,e];rfl)
    cases u with
    |slnil=>
     obtain rfl:=nil rfl
     exact⟨_,W,g,.inl (by simp[y3l none 0 m n p]),.refl _ _ _,r,.str []⟩
    |sle _ _ a k I=>
     obtain rfl:=nil rfl
     exact⟨_,W,g,.inl (by simp[y3l (some a) k m n p]),.refl _ _ _,r,.str []⟩
    |sl _ _ _ b o k K Q N B I M J R C=>
     have i:=run_convert_bytes_back (P:=P) W s d e ⟨b,o,none⟩ k l m n p λj F=>by
      have z:ws[j]? = some (.int .u8 l[j].toNat):=L j _ (Qab F);have y:=J j _ 0 (.int .u8 l[j].toNat) z rfl;have w:=C j _ 0 (.int .u8 l[j].toNat) z rfl;generalize O:K j 0=q at y w;cases w;rw[<-y]
      congr 1
      unfold Addr.add;split <;> simp_all
     rw[A]at i;exact⟨_,W,g,.inl (by simp[i]),.refl _ _ _,r,.str l⟩
   ·cases h
  ·cases h
 ·cases h
def yua(P:Program)(H:Heap)(s d:Nat)(x:V):Option V:=match yyq P H s d x with
 |some v=>some v
 |none=>hStr P s d x
def yq8(b:Good W g H){s d:Nat}{x v:V}{c:Value}(h:yua P H s d x=some v)(a:Rel W g H x c):z9v P W g H (do pure (.value (<-convert s d c))) v H:=by
 unfold yua at h;split at h
 ·rename_i u e;cases h;exact yt3 b e a
 ·exact ydz b h a
def zsg(P:Program)(H:Heap)(ρ:Operand->V)(op:Op):Option (V×Heap):=match op with
 |.alloc t=>match z05m P t with
  |true=>yb9 P H t
  |false=>none
 |.makeSlice t n c=>y2o P H t (ρ n) (ρ c)
 |.convert s d x=>(yua P H s d (ρ x)).map λv=>(v,H)
 |.binOp op t x y _=>(hEq2 P H op t x y (ρ x) (ρ y)).map λv=>(v,H)
 |.call c=>match c.callee with
  |.builtin .unsafeSliceData=>match c.args.toList with
   |[x]=>(y3k H (ρ x)).map λv=>(v,H)
   |_=>none
  |.builtin .unsafeString=>match c.args.toList,c.argTypes.toList with
   |[p,n],[pt,_]=>yta P H pt (ρ p) (ρ n)
   |_,_=>none
  |_=>none
 |_=>none
def zw0{ρ:Operand->V}{r:Operand->Value}{o:Oper}{v:V}{H':Heap}(k:Good W g H)(i:∀x,Rel W g H (ρ x) (r x))(h:zsg P H ρ o.op=some (v,H')):z9v P W g H (execOp r o) v H':=by
 have pure':∀{q:Option V},(q.map λv=>(v,H))=some (v,H')->q=some v∧H'=H:=λ{q} h=>by
  simp only[Qaf]at h;have⟨u,A,a⟩:=h;injection a with e l;exact⟨by rw[A,e],l.symm⟩
 unfold zsg at h;split at h
 ·rename_i t a;split at h
  ·unfold execOp;rw[a];exact ynd k h
  ·cases h
 ·rename_i t n c a;unfold execOp;rw[a];exact y9f k h (i n) (i c)
 ·rename_i s d x a;obtain⟨h,rfl⟩:=pure' h;unfold execOp;rw[a];exact yq8 k h (i x)
 ·rename_i op t x y _ a;obtain⟨h,rfl⟩:=pure' h;unfold execOp;rw[a];exact yx7 k h (i x) (i y)
 ·rename_i c a;unfold execOp;rw[a];have⟨callee,args,argTypes⟩:=c;simp only at h;split at h
  ·split at h
   ·rename_i x b;obtain⟨h,rfl⟩:=pure' h;obtain rfl:=z0w b;have:=ya4 (P:=P) (ts:=argTypes) (ty:=o.type) k h (i x);have⟨c,W',g',e,l,z,w⟩:=this;refine⟨c,W',g',?_,l,z,w⟩
    rcases e with e|⟨e,j⟩
    ·left;rw[<-e];simp[resolve,invoke,builtin]
    ·right;refine⟨?_,j⟩;rw[<-e];simp[resolve,invoke,builtin]
   ·cases h
  ·split at h
   ·rename_i p n pt it b m;obtain rfl:=z0w b;obtain rfl:=z0w m;have:=yqs (P:=P) (it:=it) (ty:=o.type) k h (i p) (i n);have⟨c,W',g',e,l,z,w⟩:=this;refine⟨c,W',g',?_,l,z,w⟩
    rcases e with e|⟨e,j⟩
    ·left;rw[<-e];simp[resolve,invoke,builtin]
    ·right;refine⟨?_,j⟩;rw[<-e];simp[resolve,invoke,builtin]
   ·cases h
  ·cases h
 ·cases h
end
section
variable {W:World}{g:Gh}{H:Heap}{P:Program}
def yeb:Heap:=⟨0,[],λ_ _=>none⟩
def yrx{sz:Nat}{x:V}{a:List V}(h:zmk yeb sz x=some a)(H:Heap):zmk H sz x=some a:=by
 have b:∀l i,yeb.get l i=none:=λl i=>by unfold Heap.get yeb;split <;> simp
 cases x <;> simp_all[zmk,zdp]
def zwq(P:Program)(t u:Nat)(s x:V):Option V :=
 match s with
 |.sl sz xs true=>match P.underlying t,P.underlying u with
  |some (.slice e),some b=>match P.info? e with
   |some i=>match i.zero,zmk yeb i.size x with
    |some z,some a=>match zx9 b&&decide (0<i.size)&&decide (i.bytes<=524288)&&z.cells.size==i.size&&Nat.beq sz i.size&&Nat.ble (xs.length+a.length) zin with
     |true=>some (.sl sz (xs++a) false)
     |false=>none
    |_,_=>none
   |none=>none
  |_,_=>none
 |_=>none
def ytk{sz:Nat}{xs:List V}{c:Value}(h:Rel W g H (.sl sz xs true) c):Rel W g H (.sl sz xs false) c:=by
 cases h with
 |slnil=>exact .slnil _ _
 |sle _ _ a d l=>exact .sle _ _ a d (λh=>by cases h)
 |sl _ _ _ b o d c n i e l j m p k=>exact .sl _ _ _ b o d c n i e (λh=>by cases h) j m p k
def yjf(I:Good W g H){t u ty:TypeId}{s x v:V}{cs cx:Value}(h:zwq P t u s x=some v)(O:Rel W g H s cs)(hx:Rel W g H x cx) :
  z9v P W g H (do pure (.value (<-Builtin.append_ #[t,u] ty #[cs,cx]))) v H:=by
 unfold zwq at h;split at h
 case h_2=>cases h
 rename_i sz xs;split at h
 case h_2=>cases h
 rename_i e du ht K;split at h
 case h_2=>cases h
 rename_i i hi;split at h
 case h_2=>cases h
 rename_i z ys hz Y;split at h
 case h_2=>cases h
 rename_i hc;cases h;simp only[Qag,Qar,Qbm]at hc;have⟨⟨⟨⟨⟨c1,U⟩,c3⟩,c4⟩,R⟩,c6⟩:=hc;have R:=Qaj R;have E:=Nat.le_of_ble_eq_true c6;subst R;have J:∀k,du ≠ .int k:=λk hk=>by subst hk;simp[zx9]at c1
 have⟨hlen,news,N,n2,n3,n4⟩:=yk6 (P:=P) I U (yrx Y H) hx;obtain⟨a,n,C,rfl,rfl,o2,m,M,o4,o5,o6⟩:=zps (P:=P) I U (show zdp H i.size (.sl i.size xs true)=some xs by simp[zdp]) O
 have h2:C=xs.length:=by
  cases O with
  |slnil=>rfl
  |sle _ _ _ _ Q=>exact Q rfl
  |sl _ _ _ _ _ _ _ _ _ _ Q=>exact Q rfl
 cases ys with
 |nil=>
  have X:news = #[]:=by simpa using N
  have:=zw8 (P:=P) (W:=W) (ty:=ty) (base:=a) ht K J hi hlen (n4 W.drawn) X o2;refine⟨.slice a xs.length C,W,g,.inl (by rw[Qca,this];rfl),.refl _ _ _,I,?_⟩
  rw[List.append_nil];exact ytk O
 |cons y r=>
  have hb:xs.length+(y::r).length<=268435456:=E
  have w:(xs.length+(y::r).length) * i.bytes<=140737488355328:=by
   calc (xs.length+(y::r).length) * i.bytes<=268435456 * 524288:=Nat.mul_le_mul hb c3
    _=_:=by decide
  have A:C<xs.length+(y::r).length:=by simp;omega
  have⟨b,d,k1,k2,k3⟩:=zyp (P:=P) (W:=W) (ty:=ty) (base:=a) ht K J hi hz hlen o6 n4 A (by omega) (growslice_fits A w)
  have Z:(m++news++Builtin.zeroCells z.cells (b-(xs.length+(y::r).length))).size=b * i.size:=by
   rw[Array.size_append,Array.size_append,size_zeroCells,M,N,c4,<-Nat.add_mul,<-Nat.add_mul]
   congr 1;omega
  have hF:zyn W g H i.size (xs++y::r) (m++news++Builtin.zeroCells z.cells (b-(xs.length+(y::r).length))):=by
   refine o5.append n3 (λj F =>?_) (λj F =>?_)
   ·rw[Array.append_assoc,z4i (by rw[M];exact F)]
   ·rw[Array.append_assoc,<-M,zjw,z4i (by rw[N];exact F)]
  have B:=(Grow.drawn W d).trans (Grow.alloc {W with drawn:=d} (.cells (m++news++Builtin.zeroCells z.cells (b-(xs.length+(y::r).length))) e));have q:=hF.mono (B.step (g:=g) (H:=H));have p:xs.length+(y::r).length=(xs++y::r).length:=by simp
  refine⟨.slice (some ⟨W.heap.size,0,none⟩) (xs.length+(y::r).length) b,_,g,.inl (by rw[Qca,k3];rfl),B.step,I.grow B,?_⟩;rw[show Value.slice (some ⟨W.heap.size,0,none⟩) (xs.length+(y::r).length) b=Value.slice (some ⟨W.heap.size,0,none⟩) (xs++y::r).length b by rw[p]]
  refine Rel.sl i.size (xs++y::r) false W.heap.size 0 b (λj L=>(m++news++Builtin.zeroCells z.cells (b-(xs.length+(y::r).length))).getD (j * i.size+L) undef) (λhn=>by
   have⟨l,k,o,ho,hb⟩:=hn;have:=I.lt l k o ho
   omega) U (by rw[<-p];exact k1) (λh=>by cases h) q.1 (λj x L u F K =>?_) q.2.1 q.2.2
  have hl:=q.1 j x F;have h4:=(Qaa.1 F).1;have h3:=(Qaa.1 K).1
  have h1:j * i.size+L<b * i.size:=by
   have:(j+1) * i.size<=b * i.size:=Qau _ (by omega);rw[Nat.succ_mul]at this;omega
  rw[Nat.zero_add];show World.cell? (({W with drawn:=d}:World).alloc _) ⟨({W with drawn:=d}:World).heap.size,_,none⟩=_;rw[World.cell?_alloc_new,Qae,Qas (by rw[Z];exact h1)];rfl
end
section
variable {P:Program}{ops:Array Oper}{md:Region.Mode}
structure Info where
 eff:Bool
 K:Nat->Prop
 W:Nat->Prop
 call:Bool:=false
def y0l(K:Nat->Prop)(H H':Heap):Prop:=∀i,K i->H'.L[i]? = H.L[i]?
def y0l.refl(K:Nat->Prop)(H:Heap):y0l K H H:=λ_ _=>rfl
def y0l.trans{K:Nat->Prop}{A B C:Heap}(h:y0l K A B)(k:y0l K B C):y0l K A C:=λi a=>(k i a).trans (h i a)
def y0l.symm{K:Nat->Prop}{A B:Heap}(h:y0l K A B):y0l K B A:=λi a=>(h i a).symm
def yu5(op:Op):Bool:=match op with
 |.alloc _| .box _ _| .store _ _ _=>true
 |.call c=>(match c.callee with
  |.builtin .append=>true
  |.builtin .unsafeString=>true
  |_=>false)
 |_=>false
def y8q{H:Heap}{ρ ρ':Operand->V}{o:Op}(h:∀x∈o.operands,ρ x=ρ' x):zsg P H ρ o=zsg P H ρ' o:=by
 cases o
 case makeSlice t n c=>simp only[zsg,h n (by simp[Op.operands]),h c (by simp[Op.operands])]
 case convert s d x=>simp only[zsg,h x (by simp[Op.operands])]
 case binOp op t x y _=>simp only[zsg,h x (by simp[Op.operands]),h y (by simp[Op.operands])]
 case call c=>
  simp only[zsg];split
  ·split
   ·rename_i x a;rw[h x (by simp[Op.operands,Call.operands];right;rw[<-Array.mem_toList_iff,a];simp)]
   ·rfl
  ·split
   ·rename_i p n pt it a b;rw[h p (by simp[Op.operands,Call.operands];right;rw[<-Array.mem_toList_iff,a];simp),h n (by simp[Op.operands,Call.operands];right;rw[<-Array.mem_toList_iff,a];simp)]
   ·rfl
  ·rfl
 all_goals rfl
def QP(P:Program)(H:Heap)(ρ:Operand->V)(o:Oper)(v:V):Prop:=pv P H ρ o.op=some v∨(∃c f args,o.op = .call c∧target ρ c=some (f,args)∧y4b P f args H v H)∨zsg P H ρ o.op=some (v,H)∨(∃t n c,o.op = .makeSlice t n c∧zl0 P t (ρ n) (ρ c)=some v)∨∃c s x t u,o.op = .call c∧c.callee = .builtin .append∧c.args.toList=[s,x]∧c.argTypes.toList=[t,u]∧zwq P t u (ρ s) (ρ x)=some v
def zoi{H:Heap}{ρ ρ':Operand->V}{o:Oper}{v:V}(h:∀x∈o.op.operands,ρ x=ρ' x)(hq:QP P H ρ o v):QP P H ρ' o v:=by
 rcases hq with hq|⟨c,f,args,a,d,b⟩|hq|⟨t,n,c,a,d⟩|⟨c,s,x,t,u,a,d,b,j,i⟩
 ·exact .inl (by rw[<-yr3 h];exact hq)
 ·exact .inr (.inl ⟨c,f,args,a,by rw[<-zne (ρ:=ρ) (λx e=>h x (by rw[a];exact e))];exact d,b⟩)
 ·exact .inr (.inr (.inl (by rw[<-y8q h];exact hq)))
 ·exact .inr (.inr (.inr (.inl ⟨t,n,c,a,by rw[<-h n (by rw[a];simp[Op.operands]),<-h c (by rw[a];simp[Op.operands])];exact d⟩)))
 ·exact .inr (.inr (.inr (.inr ⟨c,s,x,t,u,a,d,b,j,by
   rw[<-h s (by rw[a];simp[Op.operands,Call.operands];right;rw[<-Array.mem_toList_iff,b];simp),<-h x (by rw[a];simp[Op.operands,Call.operands];right;rw[<-Array.mem_toList_iff,b];simp)];exact i⟩)))
def Eff2(P:Program)(H:Heap)(ρ:Operand->V)(op:Op)(v:V)(H':Heap):Prop:=ox P H ρ op=some (v,H')∨zsg P H ρ op=some (v,H')
def z003{H:Heap}{ρ ρ':Operand->V}{o:Op}(b:yu5 o=true)(h:∀x∈o.operands,ρ x=ρ' x):ox P H ρ o=ox P H ρ' o:=by
 cases o
 case alloc t=>rfl
 case box t x=>simp only[ox,h x (by simp[Op.operands])]
 case store t a x=>simp only[ox,h x (by simp[Op.operands]),h a (by simp[Op.operands])]
 case call c=>
  simp only[yu5]at b;split at b
  ·rename_i d;simp only[ox,d];split
   ·rename_i s x t u e i;rw[h s (by simp[Op.operands,Call.operands];right;rw[<-Array.mem_toList_iff,e];simp),h x (by simp[Op.operands,Call.operands];right;rw[<-Array.mem_toList_iff,e];simp)]
   ·rfl
  ·rename_i d;simp only[ox,d,pv,zcx]
  ·cases b
 all_goals cases b
def zvc{H H':Heap}{ρ ρ':Operand->V}{o:Op}{v:V}(b:yu5 o=true)(h:∀x∈o.operands,ρ x=ρ' x)(a:Eff2 P H ρ o v H'):Eff2 P H ρ' o v H' :=
 a.imp (λq=>by rw[<-z003 b h];exact q) (λq=>by rw[<-y8q h];exact q)
def MV(P:Program)(ops:Array Oper)(S:Heap->Prop)(c:Info)(σ:St)(o:Oper)(v:V)(H':Heap):Prop :=
 (z08 ops σ o=some false∧v = .tup []∧H'=σ.H) ∨
 (z08 ops σ o=some true∧S σ.H ∧
  ((c.eff=false∧H'=σ.H∧∀a,S a->y0l c.K σ.H a->QP P a σ.ev o v) ∨
   (c.eff=true∧yu5 o.op=true∧Eff2 P σ.H σ.ev o.op v H'∧S H'∧∀i,¬c.W i->H'.L[i]? = σ.H.L[i]?)))
def z8j(σ:St)(o:Oper)(v:V)(H':Heap):St:=({σ with H:=H'}:St).put o.dst v
def y5a{σ:St}{o:Oper}{v:V}{H':Heap}{x:Operand}(h:∀d,o.dst=some d->x ≠ .tmp d):(z8j σ o v H').ev x=σ.ev x :=
 (z00k (σ:={σ with H:=H'}) h).trans (by cases x <;> rfl)
def y02{σ:St}{o:Oper}{v:V}{H':Heap}:(z8j σ o v H').H=H':=z01v
def zna{σ:St}{o a:Oper}{v:V}{H':Heap}(h:∀d,o.dst=some d->d∉a.looksAt ops):z08 ops (z8j σ o v H') a=z08 ops σ a :=
 (y8d (σ:={σ with H:=H'}) h).trans rfl
def yfb{σ:St}{b a:Oper}{v u:V}{A B C:Heap}(h:∀d,b.dst=some d->a.dst≠some d):z8j (z8j σ b v A) a u C=z8j (z8j σ a u B) b v C:=by
 have e:∀(o:Oper) (w:V) (H:Heap),({z8j σ o w H with H:=C}:St)=({σ with H:=C}:St).put o.dst w:=λo w H=>by unfold z8j;cases o.dst <;> rfl
 unfold z8j at e ⊢;rw[e,e];exact put_comm v u h
def z054{S:Heap->Prop}{q o:Info}{l k:Oper}(I:l.apart ops k=true)(F:¬(q.eff=true∧o.eff=true))(E:q.eff=false->o.eff=true->∀x,q.K x->¬o.W x)(C:o.eff=false->q.eff=true->∀x,o.K x->¬q.W x)
  {σ:St} {v u:V}{Q y:Heap}(J:MV P ops S q σ l v Q) (s:MV P ops S o (z8j σ l v Q) k u y) :
  ∃z,MV P ops S o σ k u z∧MV P ops S q (z8j σ k u z) l v y:=by
 have⟨O,Y,N⟩:=Oper.apart_spec I;have i:∀{w:V}{H:Heap},∀x∈k.op.operands,(z8j σ l w H).ev x=σ.ev x:=λ{w H} x b=>y5a λd A=>zga (O d A) x b
 have j:∀{w:V}{H:Heap},∀x∈l.op.operands,(z8j σ k w H).ev x=σ.ev x:=λ{w H} x b=>y5a λd A=>zga (N d A) x b
 have R:∀{w:V}{H:Heap},z08 ops (z8j σ l w H) k=z08 ops σ k:=zna O;have U:∀{w:V}{H:Heap},z08 ops (z8j σ k w H) l=z08 ops σ l:=zna N;unfold MV at J s ⊢;rw[R,y02]at s;simp only[U,y02]
 rcases J with ⟨n,rfl,rfl⟩|⟨n,bs,⟨m,rfl,p⟩|⟨m,p,M,L,B⟩⟩
 ·rcases s with ⟨d1,rfl,rfl⟩|⟨d1,r,⟨d2,rfl,d3⟩|⟨d2,d3,d4,d5,d6⟩⟩
  ·exact⟨σ.H,.inl ⟨d1,rfl,rfl⟩,.inl ⟨n,rfl,rfl⟩⟩
  ·exact⟨σ.H,.inr ⟨d1,r,.inl ⟨d2,rfl,λa h e=>zoi i (d3 a h e)⟩⟩,.inl ⟨n,rfl,rfl⟩⟩
  ·exact⟨y,.inr ⟨d1,r,.inr ⟨d2,d3,zvc d3 i d4,d5,d6⟩⟩,.inl ⟨n,rfl,rfl⟩⟩
 ·rcases s with ⟨d1,rfl,rfl⟩|⟨d1,r,⟨d2,rfl,d3⟩|⟨d2,d3,d4,d5,d6⟩⟩
  ·exact⟨σ.H,.inl ⟨d1,rfl,rfl⟩,.inr ⟨n,bs,.inl ⟨m,rfl,λa h e=>zoi (λx b=>(j x b).symm) (p a h e)⟩⟩⟩
  ·exact⟨σ.H,.inr ⟨d1,r,.inl ⟨d2,rfl,λa h e=>zoi i (d3 a h e)⟩⟩,.inr ⟨n,bs,.inl ⟨m,rfl,λa h e=>zoi (λx b=>(j x b).symm) (p a h e)⟩⟩⟩
  ·refine⟨y,.inr ⟨d1,r,.inr ⟨d2,d3,zvc d3 i d4,d5,d6⟩⟩,.inr ⟨n,d5,.inl ⟨m,rfl,λa h e=>zoi (λx b=>(j x b).symm) (p a h (y0l.trans (λx b=>d6 x (E m d2 x b)) e))⟩⟩⟩
 ·rcases s with ⟨d1,rfl,rfl⟩|⟨d1,r,⟨d2,rfl,d3⟩|⟨d2,d3,d4,d5,d6⟩⟩
  ·exact⟨σ.H,.inl ⟨d1,rfl,rfl⟩,.inr ⟨n,bs,.inr ⟨m,p,zvc p (λx b=>(j x b).symm) M,L,B⟩⟩⟩
  ·have X:y0l o.K σ.H y:=λx b=>B x (C d2 m x b)
   exact⟨σ.H,.inr ⟨d1,bs,.inl ⟨d2,rfl,λa h e=>zoi i (d3 a h (X.symm.trans e))⟩⟩,.inr ⟨n,bs,.inr ⟨m,p,zvc p (λx b=>(j x b).symm) M,L,B⟩⟩⟩
  ·exact(F ⟨m,d2⟩).elim
def MC(P:Program)(ops:Array Oper)(S:Heap->Prop)(c:Info)(σ:St)(o:Oper)(K:V->Heap->Prop)(Kp:V->St->Prop):Prop :=
 c.eff=true∧c.call=true∧z08 ops σ o=some true∧∃cl f args a,o.op = .call cl∧target σ.ev cl=some (f,args)∧y0n P f args σ.H a ∧
  (∀v H',a (.ret v) H'->S H'∧(∀i,¬c.W i->H'.L[i]? = σ.H.L[i]?)∧K v H')∧∀v H',a (.pan v) H'->Kp v {σ with H:=H'}
def MC.imp{S:Heap->Prop}{c:Info}{σ:St}{o:Oper}{K e:V->Heap->Prop}{Kp:V->St->Prop}(h:MC P ops S c σ o K Kp)(k:∀v H',S H'->(∀i,¬c.W i->H'.L[i]? = σ.H.L[i]?)->K v H'->e v H'):MC P ops S c σ o e Kp:=by
 have⟨u,s,r,cl,f,args,d,q,p,n,m,l⟩:=h;exact⟨u,s,r,cl,f,args,d,q,p,n,λv H' j=>by have⟨a,b,c⟩:=m v H' j;exact⟨a,b,k v H' a b c⟩,l⟩
inductive Dep (md:Region.Mode) (ops:Array Oper) (a:Nat):Nat->Prop where
 |one (b:Nat) (o:Oper) (e:Edge) (ho:ops[b]? = some o) (he:e∈o.after) (hb:Region.binds md e=true) (hon:e.on=a):Dep md ops a b
 |more (b:Nat) (o:Oper) (e:Edge) (ho:ops[b]? = some o) (he:e∈o.after) (hb:Region.binds md e=true) (h:Dep md ops a e.on):Dep md ops a b
def Free(md:Region.Mode)(ops:Array Oper)(i j:Nat):Prop:=¬Dep md ops i j∧¬Dep md ops j i
def Down(md:Region.Mode)(ops:Array Oper)(listed:Array Bool):Prop:=∀b o,ops[b]? = some o->listed.getD b false=true->∀e∈o.after,Region.binds md e=true->listed.getD e.on false=true
def Down.dep{listed:Array Bool}(h:Down md ops listed){a b:Nat}(n:Dep md ops a b):listed.getD b false=true->listed.getD a false=true:=by
 induction n with
 |one b o e d j k l=>intro i;subst l;exact h b o d i e j k
 |more b o e d j k _ m=>intro i;exact m (h b o d i e j k)
def Down.ready{listed:Array Bool}(h:Down md ops listed){a b:Nat}(j:b∈Region.ready md ops listed)(m:Dep md ops a b):listed.getD a false=true:=by
 have⟨_,o',k,d⟩:=mem_ready.1 j
 cases m with
 |one _ o e i l j n=>rw[k]at i;cases i;subst n;exact d e l j
 |more _ o e i l j m=>rw[k]at i;cases i;exact h.dep m (d e l j)
def Down.set{listed:Array Bool}(h:Down md ops listed){k:Nat}(w:k∈Region.ready md ops listed):Down md ops (listed.setIfInBounds k true):=λb o l n e r s=>by
 have⟨_,o',m,i⟩:=mem_ready.1 w
 have u:∀j,listed.getD j false=true->(listed.setIfInBounds k true).getD j false=true:=λj p=>by
  by_cases a:k=j
  ·subst a
   rcases Nat.lt_or_ge k listed.size with q|q
   ·simp[Qae,q]
   ·simp[Qae,Array.getElem?_eq_none q]at p
  ·rw[getD_set_ne false a];exact p
 refine u _ ?_;by_cases d:k=b
 ·subst d
  rw[m]at l;cases l
  exact i e r s
 ·rw[getD_set_ne false d]at n;exact h b o l n e r s
def z01j(md:Region.Mode)(ops:Array Oper)(i j:Nat)(b a:Info):Prop:=Free md ops i j->(¬(b.eff=true∧a.eff=true))∧(b.eff=false->a.eff=true->∀x,b.K x->¬a.W x)∧(a.eff=false->b.eff=true->∀x,a.K x->¬b.W x)
def GP(md:Region.Mode)(ops:Array Oper)(prev:List (Nat×Info))(j:Nat)(c:Info):Prop:=∀p∈prev,z01j md ops p.1 j p.2 c
section
variable (P ops)(md)(S:Heap → Prop)(G:Nat → Info → Prop)(Kp:V → St → Prop)
def GoA(i:Nat)(K:St->Prop)(σ:St):Prop :=
 match ops[i]? with
 |none=>K σ
 |some o=>∃c,G i c∧((∃v H',c.call=false∧MV P ops S c σ o v H'∧K (z8j σ o v H'))∨MC P ops S c σ o (λv H'=>K (z8j σ o v H')) Kp)
def AM(R:St->Prop):Nat->Array Bool->St->Prop
 |0,listed,σ=>Region.ready md ops listed=[]∧R σ
 |fuel+1,listed,σ=>(Region.ready md ops listed=[]->R σ)∧∀i∈Region.ready md ops listed,GoA P ops S G Kp i (AM R fuel (listed.setIfInBounds i true)) σ
end
variable {S:Heap → Prop}{G G':Nat → Info → Prop}{Kp:V → St → Prop}
def MV.goA{i:Nat}{o:Oper}{v:V}{σ:St}{c:Info}{H':Heap}(d:ops[i]? = some o)(e:G i c)(a:c.call=false)(b:MV P ops S c σ o v H'){K:St->Prop}(h:K (z8j σ o v H')):GoA P ops S G Kp i K σ:=by
 unfold GoA;simp only[d];exact⟨c,e,.inl ⟨v,H',a,b,h⟩⟩
def AM.mono(a:∀j c,G' j c->G j c){R:St->Prop}:∀(fuel:Nat) (listed:Array Bool) (σ:St),AM P ops md S G' Kp R fuel listed σ->AM P ops md S G Kp R fuel listed σ
 |0,_,_,h=>h
 |fuel+1,listed,σ,h=>⟨h.1,λi l=>by
  have b:=h.2 i l;unfold GoA at b ⊢;split
  ·rename_i d;simp only[d]at b;exact AM.mono a fuel _ _ b
  ·rename_i o d;simp only[d]at b;obtain⟨c,e,⟨v,H',m,p,n⟩|hm⟩:=b
   ·exact⟨c,a _ _ e,.inl ⟨v,H',m,p,AM.mono a fuel _ _ n⟩⟩
   ·exact⟨c,a _ _ e,.inr (hm.imp λv H' _ _ k=>AM.mono a fuel _ _ k)⟩⟩
def ypk{W0:World}{g0:Gh}{H0:Heap}{i:Nat}{σ:St}{K:St->Prop}{K':Act->World->Prop}{Q':Exit->Act->World->Prop}
  (hk:∀W a g σ,K σ->(σ.e0=H0.E∧Step W0 g0 H0 W g σ.H)->kzu W a g σ->K' a W) (h5:∀W a g σ v c,Kp v σ->(σ.e0=H0.E∧Step W0 g0 H0 W g σ.H)->kzu W a g σ->Rel W g σ.H v c->Q' (.panic [{v:=c,recovered:=false}]) a W)
  {W:World} {a:Act}{g:Gh}(C:GoA P ops S G Kp i K σ) (F:σ.e0=H0.E∧Step W0 g0 H0 W g σ.H) (b:kzu W a g σ):wpOp P ops Q' i K' a W:=by
 unfold GoA at C;unfold wpOp;split
 ·rename_i ho;simp only[ho]at C;exact hk W a g σ C F b
 ·rename_i o ho;simp only[ho]at C;have⟨c0,_,C⟩:=C;have O:∀{v:V}{H':Heap},(z8j σ o v H').e0=σ.e0:=λ{v H'}=>by unfold z8j;cases o.dst <;> rfl
  rcases C with ⟨v,H',_,hy,h6⟩|⟨_,_,J,cl,f,args,h8,l,ht,hc,Q,R⟩
  ·have h:∀c W' g',Step W g σ.H W' g' H'->Good W' g' H'->Rel W' g' H' v c->K' (a.put o.dst c) W':=λc W' g' s1 X U=>
    hk W' _ g' _ h6 (by rw[y02,O];exact⟨F.1,F.2.trans s1⟩) (b.next s1 X U o.dst)
   rcases hy with ⟨J,rfl,rfl⟩|⟨J,hs,⟨_,rfl,hv⟩|⟨_,_,hv,_,_⟩⟩
   ·rw[z0z b J,Qby (by simp)];exact h undef W g (.refl _ _ _) b.good (.tup [] #[] rfl (by simp))
   ·rw[z0z b J,Qbx rfl];left;unfold Oper.wp
    rcases hv σ.H hs (.refl _ _)with hv|⟨c,f,args,l,ht,h7⟩|hv|⟨t,n,cz,l,hv⟩|⟨cc,s,x,t,u,l,B,z,A,hv⟩
    ·have⟨c,W',d,p,w⟩:=y4k (P:=P) b.good (r:=a.eval) b.ev hv;rw[d];exact h c W' g p.step (b.good.grow p) w
    ·have⟨j,Z,Y⟩:=zgh (P:=P) (ty:=o.type) b.ev ht
     have k:(execOp a.eval o).run P W=(callFunc f j).run P W:=by
      rw[<-Y W];unfold execOp;rw[l]
     rcases h7 W g j b.good Z with ⟨N,M⟩|⟨c,W',g',N,M,e3,e4⟩
     ·rw[k,N];refine M.mono λe W' ⟨c,g',L,s1,X,U⟩ =>?_
      subst L;exact h c W' g' s1 X U
     ·rw[k,N];exact h c W' g' M e3 e4
    ·have⟨c,W',g',d,p,w,y⟩:=zw0 (P:=P) b.good b.ev hv
     rcases d with d|⟨d,m⟩
     ·rw[d];exact h c W' g' p w y
     ·rw[d];subst m;exact h _ W' g' p w y
    ·have⟨c,W',g',d,p,w,y⟩:=yfl (P:=P) b.good hv (b.ev n) (b.ev cz);have k:(execOp a.eval o).run P W=(do pure (.value (<-Instr.makeSlice t (a.eval n) (a.eval cz))):Sem Next).run P W:=by unfold execOp;rw[l]
     rw[k]
     rcases d with d|⟨d,m⟩
     ·rw[d];exact h c W' g' p w y
     ·rw[d];subst m;exact h _ W' g' p w y
    ·have⟨c,W',g',d,p,w,y⟩:=yjf (P:=P) (ty:=o.type) b.good hv (b.ev s) (b.ev x)
     have k:(execOp a.eval o).run P W=(do pure (.value (<-Builtin.append_ #[t,u] o.type #[a.eval s,a.eval x])):Sem Next).run P W:=by
      have⟨callee,args,argTypes⟩:=cc;simp only at B z A;subst B;obtain rfl:=z0w z;obtain rfl:=z0w A;unfold execOp;rw[l];simp[resolve,invoke,builtin]
     rw[k]
     rcases d with d|⟨d,m⟩
     ·rw[d];exact h c W' g' p w y
     ·rw[d];subst m;exact h _ W' g' p w y
   ·rw[z0z b J,Qbx rfl];left;unfold Oper.wp;have⟨c,W',g',d,p,w,y⟩:=hv.elim (λq=>ybf (P:=P) b.good b.ev q) (λq=>zw0 (P:=P) b.good b.ev q)
    rcases d with d|⟨d,m⟩
    ·rw[d];exact h c W' g' p w y
    ·rw[d];subst m;exact h _ W' g' p w y
  ·rw[z0z b J,Qbx rfl];left;unfold Oper.wp;have⟨j,Z,Y⟩:=zgh (P:=P) (ty:=o.type) b.ev ht
   have k:(execOp a.eval o).run P W=(callFunc f j).run P W:=by
    rw[<-Y W];unfold execOp;rw[l]
   have⟨N,M⟩:=hc W g j b.good Z;rw[k,N];refine M.mono λe W' ⟨o',H',g',p1,p2,p3,p4⟩ =>?_
   cases o' with
   |ret r=>
    have⟨c',L,I⟩:=p4;subst L
    exact hk W' (a.put o.dst c') g' _ (Q r H' p1).2.2 (by rw[y02,O];exact⟨F.1,F.2.trans p2⟩) (b.next p2 p3 I o.dst)
   |pan v=>
    have⟨c',L,I⟩:=p4;subst L;have hn:=b.next p2 p3 (.any undef) none;exact h5 W' a g' {σ with H:=H'} v c' (R v H' p1) ⟨F.1,F.2.trans p2⟩ hn I
def y8s{W0:World}{g0:Gh}{H0:Heap}{R:St->Prop}{Q':Exit->Act->World->Prop}(j:∀W a g σ,R σ->(σ.e0=H0.E∧Step W0 g0 H0 W g σ.H)->kzu W a g σ->Q' .normal a W)
  (e:∀W a g σ v c,Kp v σ->(σ.e0=H0.E∧Step W0 g0 H0 W g σ.H)->kzu W a g σ->Rel W g σ.H v c->Q' (.panic [{v:=c,recovered:=false}]) a W) :
  ∀(fuel:Nat) (listed:Array Bool) (σ:St) (W:World) (a:Act) (g:Gh),AM P ops md S G Kp R fuel listed σ->(σ.e0=H0.E∧Step W0 g0 H0 W g σ.H)->kzu W a g σ->wpAny P md ops Q' fuel listed a W
 |0,_,σ,W,a,g,h,b,d=>⟨h.1,j W a g σ h.2 b d⟩
 |fuel+1,listed,σ,W,a,g,h,b,d=>⟨λm=>j W a g σ (h.1 m) b d,λi l=>ypk (λW a g σ' k b d=>y8s j e fuel _ σ' W a g k b d) e (h.2 i l) b d⟩
def z047{l q:Info}{a i:Oper}(y:a.apart ops i=true)(j:l.eff=false)(s:∀x,l.K x->¬q.W x)(r:∀v (σ:St) C,Kp v σ->C.length=σ.t.length->Kp v {σ with t:=C})
  {σ:St} {v:V}{m:Heap}(p:MV P ops S l σ a v m) {K:V->Heap->Prop}(Y:MC P ops S q (z8j σ a v m) i K Kp):m=σ.H ∧
  MC P ops S q σ i (λu H'=>MV P ops S l (z8j σ i u H') a v H'∧K u H') Kp:=by
 have⟨Q,a2,O⟩:=Oper.apart_spec y;have z:∀{w:V}{H:Heap},∀x∈i.op.operands,(z8j σ a w H).ev x=σ.ev x:=λ{w H} x b=>y5a λd o=>zga (Q d o) x b
 have A:∀{w:V}{H:Heap},∀x∈a.op.operands,(z8j σ i w H).ev x=σ.ev x:=λ{w H} x b=>y5a λd o=>zga (O d o) x b
 have X:m=σ.H:=by
  rcases p with ⟨_,_,h⟩|⟨_,_,⟨_,h,_⟩|⟨h,_⟩⟩
  ·exact h
  ·exact h
  ·rw[j]at h;cases h
 subst X;refine⟨rfl,?_⟩;have⟨b1,b2,N,cl,f,args,k,M,L,J,I,b8⟩:=Y;rw[zna Q]at N;rw[zne (ρ':=σ.ev) (λx b=>z x (by rw[M];exact b))]at L;rw[y02]at J I;refine⟨b1,b2,N,cl,f,args,k,M,L,J,λu H' n =>?_,λu H' n =>?_⟩
 ·have⟨F,E,Z⟩:=I u H' n;refine⟨F,E,?_,Z⟩;unfold MV at p ⊢;rw[zna O,y02]
  rcases p with ⟨d1,d2,_⟩|⟨d1,d2,⟨d3,_,d4⟩|⟨h,_⟩⟩
  ·exact .inl ⟨d1,d2,rfl⟩
  ·exact .inr ⟨d1,F,.inl ⟨d3,rfl,λB U R=>zoi (λx b=>(A x b).symm) (d4 B U (y0l.trans (λx b=>E x (s x b)) R))⟩⟩
  ·rw[j]at h;cases h
 ·have:=r u _ σ.t (b8 u H' n) (by unfold z8j;cases a.dst <;> simp[St.put]);have e:({({z8j σ a v σ.H with H:=H'}:St)with t:=σ.t}:St)={σ with H:=H'}:=by unfold z8j;cases a.dst <;> rfl
  rw[e]at this;exact this
def z039(h4:∀v (σ:St) t',Kp v σ->t'.length=σ.t.length->Kp v {σ with t:=t'}){R:St->Prop}{i:Nat}{F:Oper}{I:Info}(hi:ops[i]? = some F)(U:G i I)(X:I.call=false)(hg:∀j c,G' j c->G j c∧z01j md ops i j I c) :
  ∀(fuel:Nat) (listed:Array Bool) (σ:St),Down md ops listed ->
   (∀j E,ops[j]? = some E->j≠i->listed.getD j true=false->(∀e∈E.after,Region.binds md e=true->e.on≠i)->F.apart ops E=true) ->
   i∈Region.ready md ops listed->∀v H',MV P ops S I σ F v H'->AM P ops md S G' Kp R fuel (listed.setIfInBounds i true) (z8j σ F v H')->AM P ops md S G Kp R (fuel+1) listed σ:=by
 intro fuel
 induction fuel with
 |zero=>
  intro listed σ _ _ r v H' J H;refine⟨λh=>(by rw[h]at r;cases r),λj y =>?_⟩;by_cases a:j=i
  ·subst a;exact J.goA hi U X (AM.mono (λj c h=>(hg j c h).1) _ _ _ H)
  ·have:=ready_mono y a;rw[H.1]at this
   cases this
 |succ fuel ih=>
  intro listed σ b p r v H' J H;refine⟨λh=>(by rw[h]at r;cases r),λj y =>?_⟩;by_cases a:j=i
  ·subst a;exact J.goA hi U X (AM.mono (λj c h=>(hg j c h).1) _ _ _ H)
  ·have s:=H.2 j (ready_mono y a);have⟨m,E,L,h2⟩:=mem_ready.1 y;have⟨o,h8,l,C⟩:=mem_ready.1 r
   rw[hi]at l;injection l with l;subst l
   have Z:∀e∈E.after,Region.binds md e=true->e.on≠i:=λe K hb A=>by
    have s:=h2 e K hb;rw[A,getD_both o]at s;cases s
   have h7:∀e∈F.after,Region.binds md e=true->e.on≠j:=λe K hb A=>by
    have s:=C e K hb;rw[A,getD_both m]at s;cases s
   have O:Free md ops i j:=⟨λhd=>(by have:=b.ready y hd;rw[getD_both o]at this;cases this),λhd=>(by have:=b.ready r hd;rw[getD_both m]at this;cases this)⟩;have w:=p j E L a m Z
   have n:∀k ok,ops[k]? = some ok->k≠i->(listed.setIfInBounds j true).getD k true=false ->
     (∀e∈ok.after,Region.binds md e=true->e.on≠i)->F.apart ops ok=true:=λk ok x h5 o h3=>by
    refine p k ok x h5 ?_ h3;by_cases M:j=k
    ·subst M;exact m
    ·rw[getD_set_ne true M]at o;exact o
   unfold GoA at s ⊢;simp only[L]at s ⊢;obtain⟨cj,Q,⟨u,H2,h6,hm,x⟩|hm⟩:=s
   ·have⟨z,d⟩:=hg j cj Q;have⟨p1,p2,p3⟩:=d O;have⟨Y,q1,q2⟩:=z054 w p1 p2 p3 J hm;refine⟨cj,z,.inl ⟨u,Y,h6,q1,ih (listed.setIfInBounds j true) _ (b.set y) n (ready_mono r (Ne.symm a)) v H2 q2 ?_⟩⟩;rw[Array.setIfInBounds_comm _ _ a];rw[yfb (B:=Y) (Oper.apart_spec w).2.1]at x;exact x
   ·have⟨z,d⟩:=hg j cj Q;have⟨p1,p2,p3⟩:=d O
    have N:I.eff=false:=by
     cases K:I.eff with
     |false=>rfl
     |true=>exact(p1 ⟨K,hm.1⟩).elim
    obtain⟨rfl,q⟩:=z047 (Kp:=Kp) w N (p2 N hm.1) h4 J hm;refine⟨cj,z,.inr (q.imp λu H2 _ _ ⟨q2,x⟩=>ih (listed.setIfInBounds j true) _ (b.set y) n (ready_mono r (Ne.symm a)) v H2 q2 ?_)⟩;rw[Array.setIfInBounds_comm _ _ a];rw[yfb (B:=H2) (Oper.apart_spec w).2.1]at x;exact x
def y6a(md:Region.Mode)(ops:Array Oper):List Nat->Array Bool->Bool
 |[],listed=>(Region.ready md ops listed).isEmpty
 |k::r,listed=>(Region.ready md ops listed).contains k&&Region.free md ops listed k&&y6a md ops r (listed.setIfInBounds k true)
def zrz(P:Program)(ops:Array Oper)(md:Region.Mode)(S:Heap->Prop)(Kp:V->St->Prop)(R:St->Prop):List Nat->List (Nat×Info)->St->Prop
 |[],_,σ=>R σ
 |k::a,prev,σ=>∃o c,ops[k]? = some o∧GP md ops prev k c∧((∃v H',c.call=false∧MV P ops S c σ o v H'∧zrz P ops md S Kp R a ((k,c)::prev) (z8j σ o v H')) ∨
  ((∀j∈a,¬Free md ops k j)∧MC P ops S c σ o (λv H'=>zrz P ops md S Kp R a ((k,c)::prev) (z8j σ o v H')) Kp))
def z02w(w:∀v (σ:St) J,Kp v σ->J.length=σ.t.length->Kp v {σ with t:=J}){R:St->Prop}:∀(l:List Nat) (prev:List (Nat×Info)) (listed:Array Bool) (σ:St),Down md ops listed->(∀j,listed.getD j true=false->j∈l) ->
  y6a md ops l listed=true->zrz P ops md S Kp R l prev σ->AM P ops md S (GP md ops prev) Kp R l.length listed σ
 |[],_,listed,σ,_,_,y,h=>⟨by simpa[y6a]using y,h⟩
 |k::l,prev,listed,σ,a,m,y,h=>by
  have⟨o,c,C,x,h⟩:=h;simp only[y6a,Qag]at y;have⟨⟨i,Q⟩,F⟩:=y;have i:k∈Region.ready md ops listed:=by simpa using i
  have r:∀j,(listed.setIfInBounds k true).getD j true=false->j∈l:=λj q=>by
   by_cases d:k=j
   ·subst d;by_cases u:k<listed.size
    ·simp[Qae,u]at q
    ·simp[Qae,Array.getElem?_eq_none (Nat.le_of_not_lt u)]at q
   ·rw[getD_set_ne true d]at q
    rcases Qbl.1 (m j q)with e|e
    ·exact(d e.symm).elim
    ·exact e
  have rest:∀σ',zrz P ops md S Kp R l ((k,c)::prev) σ'->AM P ops md S (GP md ops ((k,c)::prev)) Kp R l.length (listed.setIfInBounds k true) σ':=λσ' b=>
   z02w w l _ _ _ (a.set i) r F b
  rcases h with ⟨v,H',U,M,b⟩|⟨s,N⟩
  ·exact z039 (G:=GP md ops prev) (G':=GP md ops ((k,c)::prev)) w C x U (λj X z=>⟨λp A=>z p (Qai _ A),z _ Qak⟩) l.length listed σ a (Region.free_spec C Q) i v H' M (rest _ b)
  ·refine⟨λh=>(by rw[h]at i;cases i),λj q =>?_⟩;by_cases d:j=k
   ·subst d;unfold GoA;simp only[C];exact⟨c,x,.inr (N.imp λv H' _ _ O=>AM.mono (λj' X z p A=>z p (Qai _ A)) _ _ _ (rest _ O))⟩
   ·exfalso
    have⟨n,oj,Z,L⟩:=mem_ready.1 q;have⟨E,Y,K,I⟩:=mem_ready.1 i;refine s j ?_ ⟨λB=>(by have:=a.ready q B;rw[getD_both E]at this;cases this),λB=>(by have:=a.ready i B;rw[getD_both n]at this;cases this)⟩
    rcases Qbl.1 (m j n)with e|e
    ·exact(d e).elim
    ·exact e
def z023{id:Nat}{σ:St}{Q:kze->St->Prop}(z:P.follows .mixedOrders=true)(l:List Nat)(C:y6a .any ops l (Array.replicate ops.size false)=true)(A:l.length=ops.size)(m:∀j,j<ops.size->j∈l)
  (h:zrz P ops .any S (λv σ=>∀n,n.length=σ.t.length->Q (.panic v) {σ with t:=n}) (Q .normal) l [] σ) :
  Sat P (.region id ops true) σ Q:=λW0 g0 H0 W a g _ d e=>by
 refine zjq zwo z ?_;have u:=e.drawn (W.drawn+1);have s:σ.e0=H0.E∧Step W0 g0 H0 {W with drawn:=W.drawn+1} g σ.H:=⟨d.1,d.2.trans (Grow.drawn W _).step⟩
 have:=z02w (P:=P) (md:=.any) (R:=Q .normal) (λv σ n h x=>λr k=>h r (k.trans x)) l [] (Array.replicate ops.size false) σ (λb o _ w=>by rw[getD_replicate_false]at w;cases w) (λj B=>by
  rcases Nat.lt_or_ge j ops.size with q|q
  ·exact m j q
  ·simp[Qae,Array.getElem?_eq_none (xs:=Array.replicate ops.size false) (i:=j) (by simpa using q)]at B) C h
 rw[A]at this;exact y8s (Q':=yjl W0 g0 H0 Q) (λW a g τ p d e=>⟨g,τ,.normal,.normal,d,e,p⟩) (λW a g τ v c p d e y=>⟨g,τ,.panic v,.panic v c y,d,e,p τ.t rfl⟩) _ _ σ _ a g this s u
def ye4{H H':Heap}{t l i a:Nat}(h:H'.get l i=H.get l i):ze4 P H' t (.ptr l i a)=ze4 P H t (.ptr l i a):=by simp only[ze4,h]
def zxs{H H':Heap}{t:Nat}{cs:List V}{a:Nat}:ze4 P H' t (.ref cs a)=ze4 P H t (.ref cs a):=rfl
def yhu{H H':Heap}{t l i a d b:Nat}(h:H'.get l i=H.get l i):ze4 P H' t (.ap l i a d b)=ze4 P H t (.ap l i a d b):=by simp only[ze4,y1a,h]
def y2k{H H':Heap}{t l i a b n:Nat}{full:Bool}{y:V}(h:H'.get l i=H.get l i):kzs P H' t (.hs l i a b n full) y=kzs P H t (.hs l i a b n full) y:=by simp only[kzs,h]
def yoj{H H':Heap}{t l i a b n:Nat}{full:Bool}(h:H'.get l i=H.get l i):zrn P H' t (.hs l i a b n full)=zrn P H t (.hs l i a b n full):=by simp only[zrn,h]
def V.plain:V->Bool
 |.hs .. | .map .. => false
 |_=>true
def yus{H H':Heap}{t:Nat}{x:V}(h:x.plain=true):zrn P H' t x=zrn P H t x:=by cases x <;> first|rfl|cases h
def y6g{H H':Heap}{t:Nat}{x y:V}(h:x.plain=true):kzs P H' t x y=kzs P H t x y:=by cases x <;> first|rfl|cases h
def ylm{H H':Heap}{t:Nat}{x:V}{a b c:Option V}(h:x.plain=true):zjb P H' t x a b c=zjb P H t x a b c:=by cases x <;> first|rfl|cases h
end
def yvu(all:List Oper)(i j:Nat):Bool:=match all[j]? with
 |some o=>o.after.toList.any λe=>Region.binds .any e&&Nat.beq e.on i
 |none=>false
def depB(all:List Oper):Nat->Nat->Nat->Bool
 |0,i,j=>yvu all i j
 |n+1,i,j=>yvu all i j||(match all[j]? with
  |some o=>o.after.toList.any λe=>Region.binds .any e&&depB all n i e.on
  |none=>false)
def yoo(all:List Oper)(i j:Nat):Bool:=depB all 8 i j||depB all 8 j i
def ypb{ops:Array Oper}:∀(n:Nat) {i j:Nat},depB ops.toList n i j=true->Dep .any ops i j:=λn=>by
 have a:∀{i j:Nat},yvu ops.toList i j=true->Dep .any ops i j:=λ{i j} h=>by
  unfold yvu at h;split at h
  ·rename_i o d;rw[List.any_eq_true]at h;have⟨e,k,b⟩:=h;simp only[Qag]at b;exact .one j o e (by simpa using d) (by simpa using k) b.1 (Qaj b.2)
  ·cases h
 induction n with
 |zero=>intro i j h;exact a h
 |succ n l=>
  intro i j h;simp only[depB,Bool.or_eq_true]at h
  rcases h with h|h
  ·exact a h
  ·split at h
   ·rename_i o d;rw[List.any_eq_true]at h;have⟨e,k,b⟩:=h;simp only[Qag]at b;exact .more j o e (by simpa using d) (by simpa using k) b.1 (l b.2)
   ·cases h
def znk{ops:Array Oper}{i j:Nat}(h:yoo ops.toList i j=true):¬Free .any ops i j:=λa=>by
 unfold yoo at h;rw[Bool.or_eq_true]at h
 rcases h with h|h
 ·exact a.1 (ypb 8 h)
 ·exact a.2 (ypb 8 h)
inductive zt8 where
 |ret
 |pan (v:V) (recovered:Bool)
def zt8.value:zt8->V
 |.pan v false=>v
 |_=>.nili
def LetsOut.mono{Q Q':Exit->Act->World->Prop}(b:∀e a w,Q e a w->Q' e a w)(h:LetsOut Q):LetsOut Q':=by
 have⟨a,w,h⟩:=h;exact⟨a,w,b _ _ _ h⟩
def yo2(W:World)(g:Gh)(H:Heap):zt8->FrameMode->Prop
 |.ret,u=>u = .returning
 |.pan v r,u=>∃c,u = .panicking [{v:=c,recovered:=r}]∧Rel W g H v c
def yo2.mono{W:World}{g:Gh}{H:Heap}{m:zt8}{u:FrameMode}(h:yo2 W g H m u){W':World}{g':Gh}{H':Heap}(s:Step W g H W' g' H'):yo2 W' g' H' m u:=by
 cases m with
 |ret=>exact h
 |pan v r=>have⟨c,b,a⟩:=h;exact⟨c,b,a.mono s⟩
def yo2.run{W:World}{g:Gh}{H:Heap}{m:zt8}{u:FrameMode}(h:yo2 W g H m u):u ≠ .run:=by
 cases m with
 |ret=>subst h;simp
 |pan v r=>have⟨c,a,b⟩:=h;subst a;simp
def z05e(W0:World)(g0:Gh)(H0:Heap)(j:Frame)(cs:List Frame)(Q:kze->St->Prop)(i:zt8)(e:Exit)(a:Act)(b:List Frame)(W:World):Prop :=
 ∃g σ h d,yy2 W g σ.H e h∧(σ.e0=H0.E∧Step W0 g0 H0 W g σ.H)∧kzu W a g σ∧b={j with mode:=d}::cs∧yo2 W g σ.H i d∧Q h σ
def z05e.out{W0:World}{g0:Gh}{H0:Heap}{e:Frame}{cs:List Frame}{Q:kze->St->Prop}{d:zt8}{a:Act}{b:List Frame}{W:World}:¬z05e W0 g0 H0 e cs Q d .outgrown a b W:=λ⟨_,_,_,_,h,_⟩=>by cases h
section
variable {P:Program}
def yth{n:Nat}{W:World}{g:Gh}{H:Heap}{args:List V}{a:Array Value}(h:Good W g H)(d:zlt W g H args a):kzu W {tmps:=a++Array.replicate (n-a.size) undef,defers:=[]} g ⟨args++List.replicate (n-args.length) .any,H,[],H.E⟩:=by
 refine⟨h,by simp[d.1],λj v b =>?_,rfl,by simp⟩;rw[Qbe]at b;split at b
 ·rename_i e;rw[z4i (by rw[d.1];exact e)];exact d.2 j v b
 ·rw[Qbo]at b;split at b
  ·cases b;exact .any _
  ·cases b
end
def PV.v:PV->V
 |.bool b=>.bool b
 |.int k n=>.int k n
 |.str s=>.str s
def PV.rel{W:World}{g:Gh}{H:Heap}:∀p:PV,Rel W g H p.v p.c
 |.bool b=>.bool b
 |.int k n=>.int k n
 |.str s=>.str s
def PV.of{W:World}{g:Gh}{H:Heap}:∀{p:PV}{c:Value},Rel W g H p.v c->c=p.c
 |.bool b,c,h=>by cases h;rfl
 |.int k n,c,h=>by cases h;rfl
 |.str s,c,h=>by cases h;rfl
section
variable {P:Program}{W:World}{g:Gh}{H:Heap}
def z02k{H':Heap}{i:Nat}{es:List (PV×PV)}(u:Good W g H)(a:H.get H.lv i=some (.map (es.map λp=>(p.1.v,p.2.v))))(b:¬Own g H' (g.blk H.lv i)){c:Value}(h:Rel W g H (.map H.lv i) c):Rel W g H' (.mapc es) c:=by
 have⟨w,clock,q,o,n,m,l⟩:=u.obj _ _ _ a
 cases h with
 |map _ _ x=>
  refine .mapc es _ w clock b q ⟨by simpa using o,n,m,λj p r =>?_⟩;have⟨e,s,k,d⟩:=l j (p.1.v,p.2.v) (by rw[Qan,r];rfl);exact⟨e,s,PV.of k,PV.of d⟩
def yqh(s:Good W g H){t j i:Nat}{es:List (PV×PV)}{c:Value}(l:P.underlying t=some (.map j i))(k:Rel W g H (.mapc es) c):z9v P W g H (do pure (.value (<-Instr.range t c))) (.ptr H.lv H.L.length 0) (H.push (.mit es [])):=by
 cases k with
 |mapc _ b x clock h e p=>
  have⟨w,u⟩:=zit s (O:=.mapIter (some b) clock #[] clock) (o:=.mit es []) 0 (λW' g' H' r n y a=>by
   refine⟨x,clock,b,?_,?_,?_,p⟩
   ·rw[r,n];simp only[Gh.add,and_self,if_true];exact z2h _ _
   ·intro m;have d:b<W.heap.size:=(Qbn.1 e).1;exact(a.own _ m).elim h (λq=>by omega)
   ·have d:b<W.heap.size:=(Qbn.1 e).1
    rw[a.block _ d h];exact e)
  refine⟨.pointer (some ⟨W.heap.size,0,none⟩),_,_,.inl ?_,w,u,?_⟩
  ·simp[Instr.range,kz3 l,getObj,Sem.run,e,newObj]
  ·have:=Rel.ptr (W:=W.alloc (.mapIter (some b) clock #[] clock)) (g:=g.add H.lv H.L.length W.heap.size 0) (H:=H.push (.mit es [])) H.lv H.L.length 0 (.inr ⟨rfl,rfl⟩);simpa[Gh.add]using this
def yfd{t len e0 sz:Nat}{s:List (Nat×V)}{ws:List V}{u:Array (Nat×Value)}(hG:Good W g H)(h:zg9 P t len s=some (.sl sz ws true))(E:len≠0)(m:P.underlying t=some (.slice e0))(hl:u.size=s.length)
  (Z:∀(j i:Nat) (x:V),s[j]? = some (i,x)->∃c,u[j]? = some (i,c)∧Rel W g H x c):z9v P W g H (do pure (.value (<-Instr.buildSlice t len u))) (.hs H.lv H.L.length 0 0 ws.length false) (H.push (.arr 0 e0 sz ws (some ws.length))):=by
 unfold zg9 at h;split at h
 ·rename_i e hu;split at h
  ·rename_i z hz;split at h
   ·rename_i hc;simp only[Qag,Qbm,Qar,Qat]at hc;have⟨⟨⟨⟨⟨⟨⟨c1,c2⟩,c3⟩,c4⟩,c5⟩,c6⟩,c7⟩,c8⟩:=hc;injection h with h;have⟨k2,hi⟩:=Option.isSome_iff_exists.1 c4;have hd:(sizeOf e).run P W = .ok (P.cellsOf e) W:=by simp[sizeOf,typeInfo,hi,Program.cellsOf]
    have⟨r,h9,h8⟩:=zta (W:=W) (g:=g) (H:=H) hz;have⟨I,h1,h6⟩:=zgl c1 h8;have R:¬(len * P.cellsOf e>2 ^ 24):=by omega
    by_cases h0:len=0
    ·exact(E h0).elim
    ·try rw[Qby h0]at h
     injection h with Q hb _;subst Q;subst hb
     have hq:e0=e:=by rw[hu]at m;injection m with m;injection m with m;exact m.symm
     rw[hq]
     have hh:¬(len * P.cellsOf e=0):=by
      intro F
      rcases Nat.mul_eq_zero.1 F with q|q <;> omega
     let a:Array Value:=(Array.range (len * P.cellsOf e)).map (r.cells[· % r.cells.size]!)
     let A:List V:=(List.range (len * P.cellsOf e)).map λi=>z.cells.getD (i % z.cells.length) .any
     have C:zy3 W g H A a:=by
      have h7:∀j v,A[j]? = some v->∃k,z.cells[k]? = some v∧a.getD j undef=r.cells.getD k undef:=λj v b=>by
       have M:j<len * P.cellsOf e:=by
        have:=(Qaa.1 b).1;simpa[A]using this
       simp only[A,Qan,List.getElem?_range M,Qbr,Qbu]at b;have F:j % z.cells.length<z.cells.length:=Nat.mod_lt _ (by omega)
       have hv:z.cells[j % z.cells.length]? = some v:=by
        rw[Qba,Qab F]at b;simp only[Option.getD_some]at b;rw[Qab F,b]
       have J:j % r.cells.size<r.cells.size:=by rw[I];exact F
       refine⟨_,hv,?_⟩;have Z:(Array.range (len * P.cellsOf e))[j]? = some j:=by simp[M]
       simp only[a,Qae,Array.getElem?_map,Z,Qbr,Option.getD_some];rw[getElem!_pos r.cells (j % r.cells.size) J]
       have ha:(r.cells)[j % z.cells.length]? = some (r.cells[j % r.cells.size]):=by
        rw[<-I];exact Qas J
       rw[ha];rfl
      refine⟨by simp[A,a],λj v b =>?_,λj v b =>?_⟩
      all_goals
       have⟨k,K,hk⟩:=h7 j v b;rw[hk]
       first|exact h1 _ _ K|exact h6 _ _ K
     have N:=zxv s 0 A c6 c7 (by simp[A,c5]);simp only[Nat.zero_mul,List.take_zero,List.nil_append]at N;have⟨U,e1,e2⟩:=zoz s u.toList A a _ N C (by simpa using hl) (λj i x b=>by simpa using Z j i x b)
     have w:∀x∈s.map (·.2),x.cells.length=P.cellsOf e:=λx X=>by
      obtain⟨p,hp,rfl⟩:=Qbg.1 X;exact(c7 p hp).2
     have hlen:(s.map (·.2)).length=len:=by simp[c5]
     have hf:U.size=len * P.cellsOf e:=by
      rw[e2.1]
      have:∀l:List V,(∀x∈l,x.cells.length=P.cellsOf e)->(l.flatMap V.cells).length=l.length * P.cellsOf e:=by
       intro l
       induction l with
       |nil=>intro _;simp
       |cons x l ih=>
        intro X;rw[List.flatMap_cons,Qap,ih λy hy=>X y (by simp[hy]),X x (by simp),List.length_cons,Nat.succ_mul,Nat.add_comm]
      rw[this _ w,hlen]
     have hw:len<=2 ^ 24:=Qbk (Nat.le_mul_of_pos_right _ c3) c8
     have⟨g1,g2⟩:=zit hG (O:=.cells U e) (o:=.arr 0 e (P.cellsOf e) (s.map (·.2)) (some (s.map (·.2)).length)) len (λW' g' H' hW B hH he=>by
      have d:g'.cap H.lv H.L.length=len:=by rw[B];simp[Gh.add]
      refine⟨U,?_,c3,by rw[d,hf],by rw[d];exact Qbk hw (by decide),by rw[d,hlen];exact Qbw _,λn hn=>by injection hn with hn;rw[d,<-hn,hlen],λj x b=>w x (Qax b),λj x t v b Y=>e2.2.1 _ _ (zth _ w j t x v b Y),λj x t v b Y=>(e2.2.2 _ _ (zth _ w j t x v b Y)).mono he⟩;rw[hW,B];simp only[Gh.add,and_self,if_true]
      exact z2h _ _)
     refine⟨.slice (some ⟨W.heap.size,0,none⟩) len len,_,_,.inl ?_,g1,g2,?_⟩
     ·have k1:Instr.fill (λi=>some (i * P.cellsOf e,P.cellsOf e)) (Array.map (λx=>r.cells[x % r.cells.size]!) (Array.range (len * P.cellsOf e))) u.toList=some U:=e1;simp only[Instr.buildSlice,Qca,kz3 hu,Qcb,hd,Sem.run_ite,R,hh,if_false,Sem.run_pure,h9];simp[k1,newRow]
     ·rw[hlen];refine .hs _ _ _ _ _ _ _ _ _ (.inr ⟨rfl,rfl⟩) (λv ty sz xs cp B=>Qbv _) λty sz xs cp B =>?_
      have ho:(H.push (.arr 0 e (P.cellsOf e) (s.map (·.2)) (some len))).get H.lv H.L.length=some (.arr 0 e (P.cellsOf e) (s.map (·.2)) (some len)):=by
       unfold Heap.get Heap.push;simp
      rw[ho]at B;injection B with B;injection B with _ h2 h3 h4 h5;subst h4;refine⟨by simp[Gh.add],rfl,⟨Qbw _,by simp[Gh.add],λh=>by cases h⟩,by rw[hlen];omega⟩
   ·cases h
  ·cases h
 ·cases h
def ysa{es:List (PV×PV)}{b:Array MapEntry}{clock:Nat}(l:yuk es b clock):(b.toList.map (·.born)).Nodup:=by
 rw[List.Nodup,List.pairwise_iff_getElem];intro q i k e j h;have d:q<b.size:=by simpa using k
 have a:i<b.size:=by simpa using e
 have:=l.2.2.1 q i _ _ (Qas d) (Qas a) (by simpa using h);omega
def yov(o:Good W g H){l i j:Nat}{es:List (PV×PV)}{a:List Nat}{p:PV×PV}{c:Value}(x:H.get l i=some (.mit es (a++[j])))(w:es[j]? = some p)(u:Rel W g H (.ptr l i 0) c):z9v P W g H (do pure (.value (<-Instr.entry c))) (.tup [p.1.v,p.2.v]) H:=by
 cases u with
 |ptr _ _ _ C=>
  have⟨b,clock,n,z,E,y,r⟩:=o.obj _ _ _ x;have⟨e,s,B,A⟩:=r.2.2.2 j p w;have k:z9y b j=e.born:=by simp[z9y,s]
  have m:W.heap[g.blk l i]? = some (.mapIter (some n) clock ((a.map (z9y b)).toArray.push e.born) clock):=by
   have:(List.map (z9y b) (a++[j])).toArray=(a.map (z9y b)).toArray.push e.born:=by simp[k]
   rw[<-this];exact z
  have h:=run_entry_at (P:=P) W (g.blk l i) n clock (a.map (z9y b)).toArray b clock e m y (by simpa using Array.mem_of_getElem? s) (ysa r);refine⟨.tuple #[e.key,e.val],W,g,.inl (by simp[h]),.refl _ _ _,o,.tup _ _ rfl λq v d =>?_⟩
  match q with
  |0=>simp at d;subst d;simp only[B];exact PV.rel _
  |1=>simp at d;subst d;simp only[A];exact PV.rel _
  |q+2=>simp at d
end
section
variable {P:Program}
def yx4{ops:Array Oper}{k:Nat}{σ:St}{Q:kze->St->Prop}{o:Oper}{x:Operand}{l i:Nat}{es:List (PV×PV)}{d:List Nat}(ho:ops[k]? = some o)(hw:z08 ops σ o=some true)(Z:o.op = .next x false)(hx:σ.ev x = .ptr l i 0)(hg:σ.H.get l i=some (.mit es d))
  (h9:∀q∈d,q<es.length)
  (hi:(∀j,j<es.length->j∈d)->zfh P ops (k+1) (σ.put o.dst (.tup [.bool false])) Q)
  (ha:∀j p,es[j]? = some p->j∉d->zfh P ops (k+1) ({σ with H:=σ.H.set l i (.mit es (d++[j]))}.put o.dst (.tup [.bool true,p.1.v,p.2.v])) Q):zfh P ops k σ Q:=λW0 g0 H0 W a g hB hS F=>by
 have hk:k<ops.size:=by
  rcases Nat.lt_or_ge k ops.size with q|q
  ·exact q
  ·rw[Array.getElem?_eq_none q]at ho;cases ho
 rw[show ops.size-k=(ops.size-(k+1))+1 by omega,List.range'_succ];simp only[wpOps,ho];rw[z0z F hw,Qbx rfl];left;unfold Oper.wp;have hr:=F.ev x;rw[hx]at hr;generalize hit:a.eval x=cx at hr
 cases hr with
 |ptr _ _ _ hd=>
  have⟨m,clock,M,h1,h2,X,h4⟩:=F.good.obj _ _ _ hg;have⟨m2,m3,m4,m5⟩:=h4;replace h1:W.heap[g.blk l i]? = some (.mapIter (some M) clock (d.map (z9y m)).toArray clock):=h1;have k1:g.blk l i<W.heap.size:=F.good.lt _ _ _ hg;have L:∀y∈m.toList,y.born<clock:=λy hy=>m3 y (by simpa using hy)
  have r:∀j,j<es.length->∃e,m[j]? = some e∧z9y m j=e.born:=λj u=>by
   have C:j<m.size:=by rw[m2];exact u
   exact⟨m[j],Qas C,by simp[z9y,C]⟩
  have hh:∀j N,j<es.length->N<es.length->z9y m j=z9y m N->j=N:=λj N u C U=>by
   have⟨e,e1,e2⟩:=r j u;have⟨A,e3,e4⟩:=r N C;exact m4 j N e A e1 e3 (by rw[<-e2,<-e4,U])
  rcases run_next_at (P:=P) W o.type (g.blk l i) M clock clock _ m clock h1 X L (Qbw _)with ⟨hz,I⟩|⟨e,U,E,B,I⟩
  ·have hl:∀j,j<es.length->j∈d:=λj u=>by
    have⟨e,e1,e2⟩:=r j u
    have hu:¬e∈leftOf m (d.map (z9y m)).toArray:=λhm=>by
     have:=Array.size_pos_of_mem hm;omega
    have hf:e∈m:=Array.mem_of_getElem? e1
    have:(d.map (z9y m)).contains e.born=true:=by
     cases hc:(d.map (z9y m)).contains e.born
     ·exact(hu (by unfold leftOf;rw[Array.mem_filter];exact⟨hf,by simpa using hc⟩)).elim
     ·rfl
    rw[List.contains_iff_mem,Qbg]at this;have⟨q,s,Y⟩:=this;rw[<-e2]at Y;rw[<-hh q j (h9 q s) u Y];exact s
   have J:(execOp a.eval o).run P W = .ok (.value (.tuple #[.bool false])) W:=by unfold execOp;rw[Z];simp[hit,I]
   have R:=F.next (.refl _ _ _) F.good (v:=.tup [.bool false]) (c:=.tuple #[.bool false]) (.tup _ _ rfl (λj v u=>by
    cases j with
    |zero=>simp at u;subst u;exact .bool _
    |succ j=>simp at u)) o.dst
   have hH:(σ.put o.dst (.tup [.bool false])).H=σ.H:=by cases o.dst <;> rfl
   have K:(σ.put o.dst (.tup [.bool false])).e0=σ.e0:=by cases o.dst <;> rfl
   rw[J];exact hi hl W0 g0 H0 W _ g hB (by rw[hH,K];exact hS) R
  ·have h7:e∈m∧(d.map (z9y m)).contains e.born=false:=by
    have n:e∈leftOf m (d.map (z9y m)).toArray:=by simpa using U
    unfold leftOf at n;rw[Array.mem_filter]at n;exact⟨n.1,by simpa using n.2⟩
   have⟨j,h6,k2⟩:=Array.getElem_of_mem h7.1;have u:j<es.length:=by rw[<-m2];exact h6
   have h5:m[j]? = some e:=by rw[Qas h6,k2]
   have h8:z9y m j=e.born:=by simp[z9y,h5]
   have ht:j∉d:=λhm=>by
    have:e.born∈d.map (z9y m):=Qbg.2 ⟨j,hm,h8⟩;rw[<-List.contains_iff_mem,h7.2]at this;cases this
   have hp:es[j]? = some es[j]:=Qab u;have⟨A,n,r1,r2⟩:=m5 j _ hp
   obtain rfl:A=e:=by rw[h5]at n;injection n with h;exact h.symm
   have w:E.heap=W.heap:=by rcases B with rfl|rfl <;> rfl
   have z:∀q,q≠g.blk l i->∀O,(Go.ChangeMaps.setBlock E (g.blk l i) O).heap[q]? = W.heap[q]? := λq s O=>by
    show(E.heap.setIfInBounds (g.blk l i) O)[q]? = _;rw[Array.getElem?_setIfInBounds_ne (λh=>s h.symm),w]
   have k4:∀O,(Go.ChangeMaps.setBlock E (g.blk l i) O).heap[g.blk l i]? = some O:=λO=>by
    show(E.heap.setIfInBounds (g.blk l i) O)[g.blk l i]? = _;rw[Array.getElem?_setIfInBounds_self_of_lt (by rw[w];exact k1)]
   have hv:M≠g.blk l i:=λe=>by rw[e,h1]at X;cases X
   have⟨s1,s2⟩:=zjs F.good (o':=.mit es (d++[j])) hg rfl (W':=Go.ChangeMaps.setBlock E (g.blk l i) (.mapIter (some M) clock ((d.map (z9y m)).toArray.push A.born) clock))
    (by rcases B with rfl|rfl <;> rfl) (by rcases B with rfl|rfl <;> rfl) (by rcases B with rfl|rfl <;> rfl)
    (by show W.heap.size<=(E.heap.setIfInBounds _ _).size;rw[Array.size_setIfInBounds,w];exact Qbw _)
    (λb hb k3=>z b k3 _) (λk5 ty sz xs cp U=>by cases U) (λhs=>by
      refine⟨m,clock,M,?_,λR=>(hs.own _ R).elim h2 (λq =>?_),?_,⟨m2,m3,m4,m5⟩⟩
      ·rw[k4];have:(List.map (z9y m) (d++[j])).toArray=(d.map (z9y m)).toArray.push A.born:=by simp[h8]
       rw[<-this]
      ·have:=(Qbn.1 X).1;omega
      ·rw[z _ hv];exact X)
   have J:(execOp a.eval o).run P W = .ok (.value (.tuple #[.bool true,A.key,A.val])) (Go.ChangeMaps.setBlock E (g.blk l i) (.mapIter (some M) clock ((d.map (z9y m)).toArray.push A.born) clock)):=by
    unfold execOp;rw[Z];simp[hit,I]
   have R:=F.next s1 s2 (v:=.tup [.bool true,es[j].1.v,es[j].2.v]) (c:=.tuple #[.bool true,A.key,A.val]) (.tup _ _ rfl (λq v s=>by
    match q with
    |0=>simp at s;subst s;exact .bool _
    |1=>simp at s;subst s;simp only[r1];exact PV.rel _
    |2=>simp at s;subst s;simp only[r2];exact PV.rel _
    |q+3=>simp at s)) o.dst
   have hH:({σ with H:=σ.H.set l i (.mit es (d++[j]))}.put o.dst (.tup [.bool true,es[j].1.v,es[j].2.v])).H=σ.H.set l i (.mit es (d++[j])):=by cases o.dst <;> rfl
   have K:({σ with H:=σ.H.set l i (.mit es (d++[j]))}.put o.dst (.tup [.bool true,es[j].1.v,es[j].2.v])).e0=σ.e0:=by cases o.dst <;> rfl
   rw[J];exact ha j es[j] hp ht W0 g0 H0 _ _ g hB (by rw[hH,K];exact⟨hS.1,hS.2.trans s1⟩) R
end
section
variable {P:Program}
def yyf{σ:St}{i:Nat}{es:List (PV×PV)}(hi:σ.H.L[i]? = some (some (.map (es.map λp=>(p.1.v,p.2.v)))))(hd:σ.d=[]){K j:List (Nat×yz5)}(h5:(K.map (·.1)).Nodup)(F:FOL (.map σ.H.lv i) (.mapc es) K j)(h4:∀p∈K,σ.H.L[p.1]? = some (some p.2)∧p.1≠i)
  {t':List V} (ht:FVL (.map σ.H.lv i) (.mapc es) σ.t t') :
  zwk σ ⟨t',⟨σ.H.lv,told σ.H.L (some i) j,σ.H.E⟩,[],σ.e0⟩∧(∀k∈j,(told σ.H.L (some i) j)[k.1]? = some (some k.2))∧∀n,n<σ.H.L.length->n≠i->(∀p∈K,p.1≠n)->(told σ.H.L (some i) j)[n]? = σ.H.L[n]? := by
 have h8:(j.map (·.1)).Nodup:=by rw[F.map];exact h5
 have I:∀k∈j,j.find? (λp=>p.1==k.1)=some k:=λk u=>by
  cases x:j.find? (λp=>p.1==k.1)with
  |none=>rw[List.find?_eq_none]at x;have:=x k u;simp at this
  |some q=>
   have M:=List.find?_some x;have Y:=List.mem_of_find?_eq_some x;simp at M;have⟨a,ha⟩:=List.mem_iff_getElem?.1 u;have⟨b,U⟩:=List.mem_iff_getElem?.1 Y;have O:(j.map (·.1))[a]? = some k.1:=by simp[ha]
   have h9:(j.map (·.1))[b]? = some k.1:=by simp[U,M]
   have s:=(Qaa.1 O).1;have:=(List.getElem?_inj s h8).1 (O.trans h9.symm);subst this;rw[ha]at U;exact U.symm
 have z:∀k∈j,∃o,σ.H.L[k.1]? = some (some o)∧k.1≠i∧FO (.map σ.H.lv i) (.mapc es) o k.2:=λk u=>by
  have⟨o,ho,hf⟩:=F.mem k u;exact⟨o,(h4 _ ho).1,(h4 _ ho).2,hf⟩
 refine⟨?_,λk u =>?_,λn hn h7 h6 =>?_⟩
 ·refine ycv (v:=.map σ.H.lv i) (r:=.mapc es) (zlp _ _ _) (λm o' w =>?_) ht hd λW g hG he hf c hc =>?_
  ·have s:m<σ.H.L.length:=by have:=(Qaa.1 w).1;rw[zlp]at this;exact this
   rw[zhn s]at w;injection w with w;split at w
   ·cases w
   ·split at w
    ·rename_i p C;injection w with w;have y:=List.find?_some C;simp at y;have⟨o,J,_,X⟩:=z p (List.mem_of_find?_eq_some C);exact⟨o,by rw[<-y];exact J,by rw[<-w];exact X⟩
    ·refine⟨o',?_,.inl rfl⟩;rw[Qab s]at w ⊢;simp at w;rw[w]
  ·have A:σ.H.get σ.H.lv i=some (.map (es.map λp=>(p.1.v,p.2.v))):=by unfold Heap.get;rw[Qbx rfl,hi];rfl
   refine z02k hG A (λ⟨l,B,o',h,Z⟩ =>?_) hc
   have Q:∃o,σ.H.get l B=some o∧o'.blk g l B=o.blk g l B∧¬(l=σ.H.lv∧B=i):=by
    unfold Heap.get at h ⊢;dsimp only at h ⊢;by_cases R:l=σ.H.lv
    ·rw[Qbx R]at h ⊢
     cases x:(told σ.H.L (some i) j)[B]? with
     |none=>rw[x]at h;simp at h
     |some q=>
      have s:B<σ.H.L.length:=by have:=(Qaa.1 x).1;rw[zlp]at this;exact this
      rw[zhn s]at x;injection x with x;rw[zhn s]at h;simp only[Option.join_some]at h;split at h
      ·cases h
      ·rename_i N;split at h
       ·rename_i p C;injection h with h;have y:=List.find?_some C;simp at y;have⟨o,J,_,X⟩:=z p (List.mem_of_find?_eq_some C);rw[y]at J;exact⟨o,by rw[J];rfl,by rw[<-h];exact X.blk g l B,λe=>N (by rw[e.2])⟩
       ·exact⟨o',h,rfl,λe=>N (by rw[e.2])⟩
    ·rw[Qby R]at h ⊢;exact⟨o',h,rfl,λe=>R e.1⟩
   have⟨o,w1,w2,w3⟩:=Q;exact w3 (hG.inj _ _ _ _ _ _ w1 A (by rw[<-w2];exact Z))
 ·have⟨o,J,h2,_⟩:=z k u;have s:=(Qaa.1 J).1;rw[zhn s,Qby (λe=>h2 (by injection e with e;exact e.symm)),I k u]
 ·rw[zhn hn,Qby (λe=>h7 (by injection e with e;exact e.symm))]
  have:j.find? (λp=>p.1==n)=none:=by
   rw[List.find?_eq_none];intro p C;have:p.1∈K.map (·.1):=by rw[<-F.map];exact List.mem_map_of_mem C
   have⟨q,x,hg⟩:=Qbg.1 this;have:=h6 q x;simp;omega
  rw[this,Qab hn];rfl
end
def pIf{α:Type}(b:Bool)(x y:Option α):Option α:=match b with|true=>x|false=>y
def yb4{α:Type}(b:Bool)(x y:Option α):pIf b x y=if b then x else y:=by cases b <;> rfl
def z9s{α β:Type}(o:Option α)(k:α->Option β):Option β:=o.bind k
noncomputable def y82{α R:Type}(es:List (B8×α))(f:B8->α->List (B8×α)->Option R)(g:Option R):Option R :=
 open Classical in
 match es with
 |[]=>g
 |e::r=>if h:∃z,∀i p,(e::r)[i]? = some p->f p.1 p.2 ((e::r).eraseIdx i)=some z then some h.choose else none
def pOp{α:Type}(o:Oper)(x:Option α):Option α:=x
inductive Res (X R:Type) where
 |ok (r:R)
 |pan (x:X)
def y9z{X R S:Type}(o:Res X R)(f:R->Option S)(g:X->Option S):Option S:=match o with
 |.ok r=>f r
 |.pan x=>g x
inductive DTy where
 |bool
 |int (k:IntKind)
 |str
 |nat
 |sl (t:DTy)
 |st (i:Nat)
 deriving DecidableEq
def DTy.S(T:Nat->Type):DTy->Type
 |.bool=>Bool
 |.int _=>Int
 |.str=>B8
 |.nat=>Nat
 |.sl t=>List (t.S T)
 |.st i=>T i
def HL(T:Nat->Type):List DTy->Type
 |[]=>Unit
 |t::l=>t.S T×HL T l
def HL.app{T:Nat->Type}:{a b:List DTy}->HL T a->HL T b->HL T (a++b)
 |[],_,_,y=>y
 |_::_,_,x,y=>(x.1,HL.app x.2 y)
def HL.fst{T:Nat->Type}:(a:List DTy)->{b:List DTy}->HL T (a++b)->HL T a
 |[],_,_=>()
 |_::a,_,x=>(x.1,HL.fst a x.2)
def HL.snd{T:Nat->Type}:(a:List DTy)->{b:List DTy}->HL T (a++b)->HL T b
 |[],_,x=>x
 |_::a,_,x=>HL.snd a x.2
structure Dat where
 T:Nat->Type
 fl:Nat->List DTy
 get:∀i,T i->HL T (fl i)
 make:∀i,HL T (fl i)->T i
 enc:∀i,T i->V
 ty:Nat->Option DTy
 ow:Nat->Nat->Option Nat:=λ_ _=>none
inductive TV (T:Nat->Type):Type where
 |any
 |bool (b:Bool)
 |int (k:IntKind) (n:Int)
 |str (s:B8)
 |nilp
 |nils
 |mapn
 |nilf
 |nili
 |sl (t:DTy) (xs:List (t.S T)) (fl:Nat)
 |own (s:Nat)
 |osl (s:Nat) (lo:Int)
 |ptr (s off:Nat)
 |bp (s off:Nat)
 |ref (cs:List (TV T)) (off:Nat)
 |ap (s:Nat) (t:DTy) (i:Int) (x:t.S T) (off:Nat)
 |map (s:Nat)
 |mc (t:DTy) (es:List (B8×t.S T))
 |fn (f:Nat) (first caps:List (TV T))
 |iface (t:Nat) (v:TV T)
 |agg (cs:List (TV T))
 |tup (vs:List (TV T))
 |dp (s:Nat) (i:Int) (off:Nat)
 |bsl (i:Nat) (cs:List (TV T))
inductive TO (T:Nat->Type):Type where
 |cells (cs:List (TV T))
 |acc (ty:Nat) (t:DTy) (xs:List (t.S T)) (w:Bool)
 |siter (s:B8) (pos:Nat)
 |mp (ty:Nat) (t:DTy) (es:List (B8×t.S T))
 |mit (t:DTy) (last:Option (B8×t.S T)) (es:List (B8×t.S T))
 |bld (ty:Nat) (b:Option Nat)
 |gone
 |deep (ty i:Nat) (xs:List (T i)) (h:Option (Int×Nat×Nat))
structure TS(T:Nat->Type) where
 t:List (Nat×TV T)
 o:List (Nat×TO T)
 nx:Nat
 nt:Nat
 d:List (Nat×List (TV T)):=[]
 g:List (Option Nat):=[]
def fnd{α:Type}:List (Nat×α)->Nat->Option α
 |[],_=>none
 |(i,a)::r,j=>match Nat.beq i j with
  |true=>some a
  |false=>fnd r j
section
variable {T:Nat → Type}
def TV.cells:TV T->List (TV T)
 |.agg cs=>cs
 |v=>[v]
def TV.leaf:TV T->Bool
 |.any| .agg _| .tup _=>false
 |_=>true
def TV.kzl:TV T->Bool
 |.agg _=>true
 |v=>v.leaf
def TV.zd8:Value->TV T
 |.bool b=>.bool b
 |.int k n=>.int k n
 |.string s=>.str s.data.toList
 |.pointer none=>.nilp
 |.slice none 0 0=>.nils
 |.map none=>.mapn
 |.nilFunc=>.nilf
 |.nilIface=>.nili
 |_=>.any
def TV.ofC:Value->TV T
 |.agg cs=>if cs.toList.all (·.oneCell')then .agg (cs.toList.map TV.zd8)else .any
 |.tuple cs=>.tup (cs.toList.map TV.zd8)
 |.iface t v=>.iface t (TV.zd8 v)
 |v=>TV.zd8 v
def TS.ev(ts:TS T):Operand->Option (TV T)
 |.tmp t=>fnd ts.t t
 |.const v=>some (TV.ofC v)
 |.func f=>some (.fn f [] [])
 |.global _=>none
def TS.evs(ts:TS T):List Operand->Option (List (TV T))
 |[]=>some []
 |x::xs=>match ts.ev x,ts.evs xs with
  |some v,some vs=>some (v::vs)
  |_,_=>none
inductive FR (α:Type) where
 |ok (a:α)
 |frz (s:Nat)
 |bad
def FR.of{α:Type}:Option α->FR α
 |some a=>.ok a
 |none=>.bad
end
section
variable (D:Dat)
def Dat.owns(q:Nat):Bool:=(List.range (D.fl q).length).any λf=>(D.ow q f).isSome
def Dat.len:DTy->Nat
 |.st i=>(D.fl i).length
 |_=>1
def Dat.el:(t:DTy)->t.S D.T->V
 |.bool,b=>.bool b
 |.int k,n=>.int k n
 |.str,s=>.str s
 |.nat,_=>.any
 |.sl t,xs=>.sl (D.len t) (List.map (Dat.el t) xs) false
 |.st i,x=>D.enc i x
def Dat.els:(l:List DTy)->HL D.T l->List V
 |[],_=>[]
 |t::l,x=>D.el t x.1::Dat.els l x.2
def Dat.leaf:(t:DTy)->t.S D.T->TV D.T
 |.bool,b=>.bool b
 |.int k,n=>.int k n
 |.str,s=>.str s
 |.nat,_=>.any
 |.sl t,xs=>.sl t xs 0
 |.st _,_=>.any
def Dat.leaves:(l:List DTy)->HL D.T l->List (TV D.T)
 |[],_=>[]
 |t::l,x=>D.leaf t x.1::Dat.leaves l x.2
def Dat.tv:(t:DTy)->t.S D.T->TV D.T
 |.st i,x=>.agg (D.leaves (D.fl i) (D.get i x))
 |.bool,b=>.bool b
 |.int k,n=>.int k n
 |.str,s=>.str s
 |.nat,_=>.any
 |.sl t,xs=>.sl t xs 0
def y4y{T:Nat->Type}(a b:DTy)(x:a.S T):Option (b.S T) :=
 if h:a=b then some (h▸x)else none
def zxq{T:Nat->Type}(a b:DTy)(x:List (B8×a.S T)):Option (List (B8×b.S T)) :=
 if h:a=b then some (h▸x)else none
def DTy.flat:DTy->Bool
 |.bool| .int _| .str=>true
 |_=>false
def zf5{T:Nat->Type}(a b:DTy)(x:List (a.S T)):Option (List (b.S T)) :=
 if h:a=b then some (h▸x)else none
def zl2:(t:DTy)->TV D.T->FR (t.S D.T)
 |.bool,.bool b=>.ok b
 |.int k,.int d n=>if k=d then .ok n else .bad
 |.str,.str s=>.ok s
 |.sl t,.sl a xs _=>FR.of (zf5 a t xs)
 |.sl _,.nils=>.ok []
 |.sl _,.own s=>.frz s
 |_,_=>.bad
def zbn:(l:List DTy)->List (TV D.T)->FR (HL D.T l)
 |[],[]=>.ok ()
 |t::l,v::vs=>match zl2 D t v with
  |.ok x=>match zbn l vs with
   |.ok xs=>.ok (x,xs)
   |.frz s=>.frz s
   |.bad=>.bad
  |.frz s=>.frz s
  |.bad=>.bad
 |_,_=>.bad
def asD:(t:DTy)->TV D.T->FR (t.S D.T)
 |.st i,.agg cs=>match zbn D (D.fl i) cs with
  |.ok x=>.ok (D.make i x)
  |.frz s=>.frz s
  |.bad=>.bad
 |.st _,_=>.bad
 |t,v=>zl2 D t v
def yos(t:DTy):List (TV D.T)->FR (List (t.S D.T))
 |[]=>.ok []
 |v::vs=>match asD D t v with
  |.ok x=>match yos t vs with
   |.ok xs=>.ok (x::xs)
   |.frz s=>.frz s
   |.bad=>.bad
  |.frz s=>.frz s
  |.bad=>.bad
end
section
variable {T:Nat → Type}(P:Program)
def tRd(t:Nat)(cs:List (TV T))(a:Nat):Option (TV T) :=
 match P.underlying t with
 |none=>none
 |some (.struct _)|some (.array _ _)=>if a+P.cellsOf t<=cs.length then some (.agg ((cs.drop a).take (P.cellsOf t)))else none
 |some _=>cs[a]?
def y3e(s f:Nat)(x:TV T):Option (TV T) :=
 match zug P s f with
 |none=>none
 |some o=>match x with
  |.ref cs a=>some (.ref cs (a+o))
  |.ptr s a=>some (.ptr s (a+o))
  |.ap s t i x a=>some (.ap s t i x (a+o))
  |.bp s a=>some (.bp s (a+o))
  |.dp s i a=>some (.dp s i (a+o))
  |_=>none
def yuw(s f:Nat)(x:TV T):Option (TV T) :=
 match P.underlying s with
 |some (.struct a)=>match a[f]? with
  |some y=>match x with
   |.agg cs=>tRd P y.type cs y.offset
   |_=>none
  |none=>none
 |_=>none
def ybr(i:Nat):TV T->Option (TV T)
 |.tup vs=>vs[i]?
 |_=>none
def tNil:TV T->Option (TV T)
 |.ptr s d=>some (.ptr s d)
 |.ref cs d=>some (.ref cs d)
 |.ap s t i x d=>some (.ap s t i x d)
 |.bp s d=>some (.bp s d)
 |.dp s i d=>some (.dp s i d)
 |.fn f a b=>some (.fn f a b)
 |_=>none
def tUn(op:UnOp)(x:TV T):Option (TV T) :=
 match op,x with
 |.neg,.int k n=>some (.int k (k.wrap (0-n)))
 |.not,.bool b=>some (.bool (!b))
 |.xor,.int k n=>some (.int k (bits .xor k (if k.signed then -1 else k.max) n))
 |_,_=>none
def yc5(s d:Nat)(x:TV T):Option (TV T) :=
 match x with
 |.int _ n=>match P.underlying s,P.underlying d with
  |some _,some (.int k)=>some (.int k (k.wrap n))
  |_,_=>none
 |.str a=>match P.underlying s,P.underlying d with
  |some _,some .string=>some (.str a)
  |_,_=>none
 |_=>none
def zyg(x:TV T)(asserted:Nat)(ok:Bool):Option (TV T) :=
 match P.underlying asserted,x with
 |some (.interface _),_=>none
 |some _,.iface t v=>if t=asserted then some (if ok then .tup [v,.bool true]else v)else none
 |_,_=>none
def yay(max:Bool):List (TV T)->Option (TV T)
 |[.int k x,.int _ y]=>some (.int k (match max with|true=>mxI x y|false=>mnI x y))
 |[.int k x,.int _ y,.int _ z]=>some (.int k (match max with|true=>mxI (mxI x y) z|false=>mnI (mnI x y) z))
 |_=>none
def zlc(cs:List (TV T))(a:Nat)(xs:List (TV T)):List (TV T):=cs.take a++xs++cs.drop (a+xs.length)
def yk8(place:Nat->Option (Nat×Nat))(cells:List (TV T)):List (Nat×TV T)->Option (List (TV T))
 |[]=>some cells
 |(i,x)::rest=>match place i with
  |none=>none
  |some (a,size)=>if x.kzl&&x.cells.length==size&&decide (a+size<=cells.length)then yk8 place (zlc cells a x.cells) rest else none
def y3i(ts:TS T):List (Nat×Operand)->Option (List (Nat×TV T))
 |[]=>some []
 |(i,x)::r=>match ts.ev x,y3i ts r with
  |some v,some vs=>some ((i,v)::vs)
  |_,_=>none
def yk9(t:Nat):Option (TV T):=((P.info? t).bind (·.zero)).map TV.ofC
def yv7(t:Nat)(a:List (Nat×TV T)):Option (TV T) :=
 match yk9 (T:=T) P t with
 |some (.agg z)=>match P.underlying t with
  |some (.struct b)=>match y8e P b.toList with
   |some places=>(yk8 (λi=>places[i]?) z a).map .agg
   |none=>none
  |some (.array _ e)=>if (P.info? e).isSome then (yk8 (λi=>some (i * P.cellsOf e,P.cellsOf e)) z a).map .agg else none
  |_=>none
 |_=>none
def TV.odd:TV T->Bool
 |.int _ _| .str _| .any=>false
 |_=>true
mutual
def yqy:Nat->Nat->TV T->TV T->Option Bool
 |0,_,_,_=>none
 |d+1,t,x,y=>
  match x,y with
  |.bool a,.bool b=>match P.underlying t with|some .bool=>some (a==b)|_=>none
  |.int k a,.int h b=>match P.underlying t with|some (.int _)=>if k=h then some (a==b)else none|_=>none
  |.str a,.str b=>match P.underlying t with|some .string=>some (a==b)|_=>none
  |.agg xs,.agg e=>match P.underlying t with|some (.struct i)=>if P.stoodInHeld t then none else ycf d i.toList xs e|_=>none
  |.nilp,.nilp=>match P.underlying t with|some (.pointer _)=>some true|_=>none
  |.nilp,.ptr _ _| .nilp,.ref _ _=>match P.underlying t with|some (.pointer _)=>some false|_=>none
  |.ptr _ _,.nilp| .ref _ _,.nilp=>match P.underlying t with|some (.pointer _)=>some false|_=>none
  |.mapn,.mapn=>match P.underlying t with|some (.map _ _)=>some true|_=>none
  |.nilf,.nilf=>match P.underlying t with|some (.func ..)=>some true|_=>none
  |.nilf,.fn _ _ _| .fn _ _ _,.nilf=>match P.underlying t with|some (.func ..)=>some false|_=>none
  |.nili,.iface _ _| .iface _ _,.nili=>match P.underlying t with|some (.interface _)=>some false|_=>none
  |_,_=>none
def ycf:Nat->List Field->List (TV T)->List (TV T)->Option Bool
 |0,_,_,_=>none
 |_,[],_,_=>some true
 |d+1,f::h,xs,e=>
  if f.name = "_" then ycf d h xs e else
  match tRd P f.type xs f.offset,tRd P f.type e f.offset with
  |some a,some b=>match yqy d f.type a b,ycf d h xs e with
   |some r,some s=>some (r&&s)
   |_,_=>none
  |_,_=>none
end
def y3z(t:Nat)(x y:TV T):Bool :=
 match x,y with
 |.agg _,.agg _ => !P.eqGuardType P.depth t
 |.nili,.nili=>false
 |.any,_|_,.any=>false
 |_,_=>true
def shl(k:IntKind)(a b:Int):Option Int:=if b<0 then none else some (k.wrap (a * 2 ^ (min b.toNat k.bits)))
def shr(k:IntKind)(a b:Int):Option Int:=if b<0 then none else some (a.fdiv (2 ^ (min b.toNat k.bits)))
def tBin{R:Type}(op:BinOp)(t:Nat)(x y:TV T)(k:TV T->Option R):Option R :=
 match x,y with
 |.int i a,.int d b=>match op with
  |.shl=>z9s (shl i a b) λz=>k (.int i z)
  |.shr=>z9s (shr i a b) λz=>k (.int i z)
  |_=>if i=d then (match op with
   |.add=>k (.int i (i.wrap (a+b)))
   |.sub=>k (.int i (i.wrap (a-b)))
   |.mul=>k (.int i (i.wrap (a * b)))
   |.quo=>z9s (quo i a b) λz=>k (.int i z)
   |.rem=>z9s (rem i a b) λz=>k (.int i z)
   |.eql=>k (.bool (a==b))
   |.neq=>k (.bool (a != b))
   |.lss=>k (.bool (decide (a<b)))
   |.leq=>k (.bool (decide (a<=b)))
   |.gtr=>k (.bool (decide (a>b)))
   |.geq=>k (.bool (decide (a>=b)))
   |.and=>k (.int i (bits .and i a b))
   |.or=>k (.int i (bits .or i a b))
   |.xor=>k (.int i (bits .xor i a b))
   |.andNot=>k (.int i (bits .andNot i a b))
   |_=>none)else none
 |.str a,.str b=>match op with
  |.add=>z9s (cat a b) λz=>k (.str z)
  |.eql=>k (.bool (a==b))
  |.neq=>k (.bool (!(a==b)))
  |.lss=>k (.bool (Op.bytesLess a b))
  |.leq=>k (.bool (Op.bytesLess a b||a==b))
  |.gtr=>k (.bool (!(Op.bytesLess a b||a==b)))
  |.geq=>k (.bool (!Op.bytesLess a b))
  |_=>none
 |x,y=>match op with
  |.eql=>if x.odd&&y3z P t x y then (match yqy P 24 t x y with|some r=>k (.bool r)|none=>none)else none
  |.neq=>if x.odd&&y3z P t x y then (match yqy P 24 t x y with|some r=>k (.bool (!r))|none=>none)else none
  |_=>none
end
section
variable (P:Program)(D:Dat)
def yng{T:Nat->Type}:Option Nat->TV T
 |none=>.nils
 |some s=>.own s
def yto(s:B8):List Int:=s.map λb=>((b.toNat:Nat):Int)
def ysl:List Int->Option B8
 |[]=>some []
 |x::r=>match x,ysl r with
  |.ofNat m,some s=>match Nat.ble m 255 with
   |true=>some (m.toUInt8::s)
   |false=>none
  |_,_=>none
def yvl(ts:TS D.T)(t:Nat):TV D.T->Option (TV D.T)
 |.ref cs a=>tRd P t cs a
 |.ptr s a=>match fnd ts.o s with
  |some (.cells cs)=>tRd P t cs a
  |_=>none
 |.ap s τ i x a=>match fnd ts.o s with
  |some (.acc _ _ _ _)=>tRd P t (D.tv τ x).cells a
  |_=>none
 |.bp s a=>match fnd ts.o s with
  |some (.bld _ b)=>tRd P t [.any,yng b] a
  |_=>none
 |_=>none
def y25(q:Nat):(l:List DTy)->HL D.T l->Nat->List (TV D.T)
 |[],_,_=>[]
 |t::l,x,f=>(match D.ow q f with
  |none=>D.leaf t x.1
  |some _=>.any)::y25 q l x.2 (f+1)
def z031(q a:Nat):Nat->List Nat
 |0=>[]
 |n+1=>match D.ow q a with
  |some _=>a::z031 q (a+1) n
  |none=>z031 q (a+1) n
def szT(t:Nat):Nat:=match P.underlying t with
 |some (.struct _)|some (.array _ _)=>P.cellsOf t
 |_=>1
def setO{α:Type}(cs:List α):Option (Nat×α)->List α
 |none=>cs
 |some (f,v)=>cs.set f v
def zyk{R:Type}(ts:TS D.T)(t:Nat)(s:Nat)(i:Int)(a:Nat)(set:Option (Nat×TV D.T))(k:TV D.T->Option R):Option R :=
 match fnd ts.o s with
 |some (.deep _ q xs _)=>z9s (ix xs i) λy=>(match tRd P t (setO (y25 D q (D.fl q) (D.get q y) 0) set) a with
  |some v=>k v
  |none=>none)
 |_=>none
def yjp(n i:Int):Option Unit:=if n=i then some ()else none
def ysw{R:Type}(ts:TS D.T)(t:Nat)(s:Nat)(i:Int)(a:Nat)(k:TV D.T->Option R):Option R :=
 match fnd ts.o s with
 |some (.deep _ _ _ (some p))=>(match Nat.beq p.2.1 a with
  |true=>z9s (yjp p.1 i) λ_=>zyk P D ts t s i a (some (a,.own p.2.2)) k
  |false=>zyk P D ts t s i a none k)
 |_=>zyk P D ts t s i a none k
def tLen(ts:TS D.T)(t:Nat)(x:TV D.T):Option (TV D.T) :=
 match x with
 |.str s=>match P.underlying t with|some .string=>some (.int .i64 s.length)|_=>none
 |.nils=>match P.underlying t with|some (.slice _)=>some (.int .i64 0)|_=>none
 |.sl _ xs _=>match P.underlying t with|some (.slice _)=>some (.int .i64 xs.length)|_=>none
 |.own s=>match P.underlying t,fnd ts.o s with
  |some (.slice _),some (.acc _ _ xs _)=>some (.int .i64 xs.length)
  |some (.slice _),some (.deep _ _ xs _)=>some (.int .i64 xs.length)
  |_,_=>none
 |.agg _=>match P.underlying t with|some (.array n _)=>some (.int .i64 n)|_=>none
 |.map s=>match P.underlying t,fnd ts.o s with
  |some (.map _ _),some (.mp _ _ es)=>some (.int .i64 es.length)
  |_,_=>none
 |_=>none
def z029:(t:DTy)->TV D.T->Option (t.S D.T×Option Nat)
 |.sl _,.nils=>some ([],none)
 |.sl _,.own c=>some ([],some c)
 |_,_=>none
def yfw(q:Nat):(l:List DTy)->List (TV D.T)->Nat->FR (HL D.T l×Option (Nat×Nat))
 |[],[],_=>.ok ((),none)
 |t::l,v::vs,f=>(match D.ow q f with
  |none=>(match zl2 D t v with
   |.ok x=>(match yfw q l vs (f+1)with
    |.ok r=>.ok ((x,r.1),r.2)
    |.frz s=>.frz s
    |.bad=>.bad)
   |.frz s=>.frz s
   |.bad=>.bad)
  |some _=>(match yfw q l vs (f+1)with
   |.ok r=>(match z029 D t v with
    |some (x,none)=>.ok ((x,r.1),r.2)
    |some (x,some c)=>(match r.2 with
     |none=>.ok ((x,r.1),some (f,c))
     |some _=>.bad)
    |none=>.bad)
   |.frz s=>.frz s
   |.bad=>.bad))
 |_,_,_=>.bad
def zly(t len:Nat)(a:List (Nat×TV D.T)):FR (TV D.T) :=
 match P.underlying t with
 |some (.slice e)=>match zeroV P e,D.ty e with
  |some z,some τ=>
   if z.kzl&&z.cells.length==P.cellsOf e&&decide (0<P.cellsOf e)&&(P.info? e).isSome&&a.length==len&&(a.map (·.1)==List.range len)&&a.all (λp=>p.2.kzl&&p.2.cells.length==P.cellsOf e)&&decide (len * P.cellsOf e<=2 ^ 24)&&D.len τ==P.cellsOf e then
    (match yos D τ (a.map (·.2))with
    |.ok xs=>.ok (.sl τ xs (if len=0 then 2 else 1))
    |.frz s=>(match τ,a with
     |.st q,[(0,.agg cells)]=>(match yfw D q (D.fl q) cells 0 with
      |.ok _=>.ok (.bsl q [.agg cells])
      |.frz b=>.frz b
      |.bad=>.frz s)
     |_,_=>.frz s)
    |.bad=>.bad)
   else .bad
  |_,_=>.bad
 |_=>.bad
def z03v(ts:TS D.T):TV D.T->Option Nat
 |.own k=>(match fnd ts.o k with
  |some (.acc _ (.st q) _ _)=>if D.owns q=true then some k else none
  |_=>none)
 |_=>none
def yuo(ts:TS D.T):List (TV D.T)->Option Nat
 |[]=>none
 |v::l=>match z03v D ts v with
  |some k=>some k
  |none=>yuo ts l
def ylg(ts:TS D.T)(r:FR (TV D.T)):FR (TV D.T):=match r with
 |.ok (.bsl q [.agg cells])=>(match yuo D ts cells with
  |some k=>.frz k
  |none=>.ok (.bsl q [.agg cells]))
 |r=>r
def yv1{ts:TS D.T}{r:FR (TV D.T)}{x:TV D.T}(h:ylg D ts r = .ok x):r = .ok x:=by
 unfold ylg at h;split at h
 ·split at h
  ·cases h
  ·exact h
 ·exact h
def tMk(t:Nat)(n c:Int):FR (TV D.T) :=
 match n,c with
 |.ofNat n,.ofNat c=>(match P.underlying t with
  |some (.slice e)=>(match P.info? e,yk9 (T:=D.T) P e,D.ty e with
   |some i,some z,some τ=>(match z.kzl&&Nat.beq z.cells.length i.size&&Nat.blt 0 i.size&&Nat.ble n c&&Nat.ble c 1000000&&Nat.ble i.bytes 100000&&Nat.beq (D.len τ) i.size with
    |true=>(match asD D τ z with
     |.ok x=>.ok (.sl τ (List.replicate n x) 0)
     |.frz s=>.frz s
     |.bad=>.bad)
    |false=>.bad)
   |_,_,_=>.bad)
  |_=>.bad)
 |_,_=>.bad
def tP1(ts:TS D.T)(op:Op):FR (TV D.T) :=
 match op with
 |.move x=>.of (ts.ev x)
 |.assign x=>.of (ts.ev x)
 |.load t a=>match ts.ev a with|some a=>.of (yvl P D ts t a)|none=>.bad
 |.nilCheck x=>match ts.ev x with|some x=>.of (tNil x)|none=>.bad
 |.unOp o _ x=>match ts.ev x with|some x=>.of (tUn o x)|none=>.bad
 |.convert s d x=>match ts.ev x with|some x=>.of (yc5 P s d x)|none=>.bad
 |.makeInterface t x=>match ts.ev x with|some x=>if P.concrete t then .ok (.iface t x)else .bad|none=>.bad
 |.makeFunc (.func f) first h=>match ts.evs first.toList,ts.evs h.toList with
  |some a,some b=>.ok (.fn f a b)
  |_,_=>.bad
 |.fieldAddr s x f=>match ts.ev x with|some x=>.of (y3e P s f x)|none=>.bad
 |.field s x f=>match ts.ev x with|some x=>.of (yuw P s f x)|none=>.bad
 |.typeAssert x _ u ok=>match ts.ev x with|some x=>.of (zyg P x u ok)|none=>.bad
 |.extract x i=>match ts.ev x with|some x=>.of (ybr i x)|none=>.bad
 |.build t e=>match y3i ts e.toList with|some e=>.of (yv7 P t e)|none=>.bad
 |.buildSlice t len e=>match y3i ts e.toList with|some e=>ylg D ts (zly P D t len e)|none=>.bad
 |.makeSlice t n c=>match ts.ev n,ts.ev c with
  |some (.int _ n),some (.int _ c)=>tMk P D t n c
  |_,_=>.bad
 |.call c=>match c.callee with
  |.builtin .len=>match c.args.toList,c.argTypes.toList with
   |[x],[t]=>match ts.ev x with|some x=>.of (tLen P D ts t x)|none=>.bad
   |_,_=>.bad
  |.builtin .min=>match ts.evs c.args.toList with|some l=>.of (yay false l)|none=>.bad
  |.builtin .max=>match ts.evs c.args.toList with|some l=>.of (yay true l)|none=>.bad
  |_=>.bad
 |_=>.bad
def y5i{R:Type}:Nat->Int->(Nat->Option R)->Option R
 |0,_,_=>none
 |1,_,f=>f 0
 |m+2,n,f=>pIf (n==Int.ofNat (m+1)) (f (m+1)) (y5i (m+1) n f)
def inR(len:Nat)(n:Int):Option Unit:=if 0<=n∧n<(len:Int)then some ()else none
def strB(P:Program)(e:Nat):Bool:=match P.underlying e with
 |some .string=>true
 |_=>false
def yb1{T:Nat->Type}{R:Type}(P:Program)(len e:Nat)(x:TV T)(k:TV T->Option R)(n:Nat):Option R :=
 if n<len∧(P.underlying e).isSome then (match x with
  |.ref cs a=>k (.ref cs (a+n * P.cellsOf e))
  |.ptr s a=>k (.ptr s (a+n * P.cellsOf e))
  |.ap s t i x a=>k (.ap s t i x (a+n * P.cellsOf e))
  |_=>none)else none
def y2r{R:Type}(ts:TS D.T)(t:Nat)(x i:TV D.T)(k:TV D.T->Option R):Option R :=
 match i with
 |.int _ n=>match P.underlying t with
  |some (.slice e)=>if (P.underlying e).isSome then (match x with
   |.sl τ xs _=>if D.len τ=P.cellsOf e then z9s (ix xs n) λy=>k (.ref (D.tv τ y).cells 0)else none
   |.own s=>match fnd ts.o s with
    |some (.acc _ τ xs _)=>if D.len τ=P.cellsOf e then z9s (ix xs n) λy=>k (.ap s τ n y 0)else none
    |some (.deep _ q xs _)=>if D.len (.st q)=P.cellsOf e then z9s (ix xs n) λ_=>k (.dp s n 0)else none
    |_=>none
   |_=>none)else none
  |some (.array len e)=>match strB P e with
   |true=>z9s (inR len n) λ_=>y5i len n (yb1 P len e x k)
   |false=>(match n with
    |.ofNat n=>yb1 P len e x k n
    |_=>none)
  |_=>none
 |_=>none
def ysi{R:Type}(t:Nat)(x i:TV D.T)(k:TV D.T->Option R):Option R :=
 match i with
 |.int _ n=>match x with
  |.str s=>match P.underlying t with
   |some .string=>z9s (ix s n) λb=>k (.int .u8 b.toNat)
   |_=>none
  |.agg cs=>match P.underlying t with
   |some (.array len e)=>match D.ty e with
    |some τ=>if cs.length=len∧P.cellsOf e=1∧(P.underlying e).isSome∧(P.underlying e).any (λd => !TypeDesc.isAgg d)then (match zbn D (List.replicate cs.length τ) cs with
     |.ok _=>match yos D τ cs with
      |.ok xs=>z9s (ix xs n) λy=>k (D.leaf τ y)
      |_=>none
     |_=>none)else none
    |none=>none
   |_=>none
  |_=>none
 |_=>none
def yol(d:Int):Option (TV D.T)->Option Int
 |none=>some d
 |some (.int _ x)=>some x
 |_=>none
def yum{R:Type}(t:Nat)(x:TV D.T)(b a:Option (TV D.T))(k:TV D.T->Option R)(d:Nat->Option R):Option R :=
 match x with
 |.str s=>match P.underlying t with
  |some .string=>match yol D 0 b,yol D s.length a with
   |some l,some h=>z9s (sub s l h) λy=>k (.str y)
   |_,_=>none
  |_=>none
 |.sl τ xs i=>match P.underlying t with
  |some (.slice e)=>if D.len τ=P.cellsOf e∧(P.underlying e).isSome then (match yol D 0 b,yol D xs.length a with
    |some l,some h=>z9s (sub xs l h) λy=>k (.sl τ y (match a with|none=>min i 1|some _=>0))
    |_,_=>none)else none
  |_=>none
 |.own s=>d s
 |_=>none
def oev(ts:TS D.T):Option Operand->Option (Option (TV D.T))
 |none=>some none
 |some x=>(ts.ev x).map some
def yrt{α:Type}(xs:List α)(a:Int):Option Unit:=if 0<=a∧a<=xs.length∧0<xs.length then some ()else none
def tCut{R:Type}(ts:TS D.T)(t:Nat)(x b:TV D.T)(k:TV D.T->Option R)(d:Option R):Option R :=
 match x,b with
 |.own s,.int .i64 a=>match P.underlying t,fnd ts.o s with
  |some (.slice e),some (.acc _ τ xs true)=>if D.len τ=P.cellsOf e∧(P.underlying e).isSome then z9s (yrt xs a) λ_=>k (.osl s a)else none
  |_,_=>none
 |_,_=>d
def yl5{R:Type}(ts:TS D.T)(t:Nat)(x a:TV D.T)(ok:Bool)(k:TV D.T->Option R):Option R :=
 match P.underlying t,a with
 |some (.map d e),.str s=>match P.underlying d,yk9 (T:=D.T) P e with
  |some .string,some z=>match x with
   |.map q=>match fnd ts.o q with
    |some (.mp _ τ es)=>match asD D τ z with
     |.ok b=>(match ok with
      |true=>k (.tup [D.tv τ ((z6b es s).getD b),.bool (z6b es s).isSome])
      |false=>k (D.tv τ ((z6b es s).getD b)))
     |_=>none
    |_=>none
   |_=>none
  |_,_=>none
 |_,_=>none
def tP{R:Type}(ts:TS D.T)(op:Op)(k:TV D.T->Option R)(e:Nat->Option R):Option R :=
 match op with
 |.pick c a b=>match ts.ev c,ts.ev a,ts.ev b with
  |some (.bool t),some x,some y=>pIf t (k x) (k y)
  |_,_,_=>none
 |.binOp o t x y _=>match ts.ev x,ts.ev y with
  |some x,some y=>tBin P o t x y k
  |_,_=>none
 |.indexAddr t x i=>match ts.ev x,ts.ev i with
  |some x,some i=>y2r P D ts t x i k
  |_,_=>none
 |.index t x i=>match ts.ev x,ts.ev i with
  |some x,some i=>ysi P D t x i k
  |_,_=>none
 |.lookup t x i ok=>match ts.ev x,ts.ev i with
  |some x,some i=>yl5 P D ts t x i ok k
  |_,_=>none
 |.slice t x d h l=>match ts.ev x,oev D ts d,oev D ts h,l with
  |some x,some d,some h,none=>yum P D t x d h k e
  |_,_,_,_=>none
 |.load t a=>match ts.ev a with
  |some (.dp s i j)=>ysw P D ts t s i j k
  |_=>(match tP1 P D ts (.load t a)with
   |.ok v=>k v
   |.frz s=>e s
   |.bad=>none)
 |op=>match tP1 P D ts op with
  |.ok v=>k v
  |.frz s=>e s
  |.bad=>none
mutual
def TV.ren(s a:Nat):TV D.T->TV D.T
 |.own j=>if j=s then .own a else .own j
 |.dp j i b=>if j=s then .dp a i b else .dp j i b
 |.agg cs=>.agg (TV.zy6 s a cs)
 |.tup cs=>.tup (TV.zy6 s a cs)
 |.bsl i cs=>.bsl i (TV.zy6 s a cs)
 |v=>v
def TV.zy6(s a:Nat):List (TV D.T)->List (TV D.T)
 |[]=>[]
 |v::vs=>TV.ren s a v::TV.zy6 s a vs
end
mutual
def TV.frz(s:Nat)(m:Bool)(z:TV D.T):TV D.T->TV D.T
 |.own j=>match m with
  |true=>.own j
  |false=>if j=s then z else .own j
 |.map j=>match m with
  |true=>if j=s then z else .map j
  |false=>.map j
 |.agg cs=>.agg (TV.yrh s m z cs)
 |.tup cs=>.tup (TV.yrh s m z cs)
 |.bsl _ _=>.any
 |v=>v
def TV.yrh(s:Nat)(m:Bool)(z:TV D.T):List (TV D.T)->List (TV D.T)
 |[]=>[]
 |v::vs=>TV.frz s m z v::TV.yrh s m z vs
end
def TO.map(f:TV D.T->TV D.T):TO D.T->TO D.T
 |.cells cs=>.cells (cs.map f)
 |.bld ty (some s)=>match f (.own s)with
  |.own a=>.bld ty (some a)
  |_=>.gone
 |.deep ty i xs (some (n,c,s))=>match f (.own s)with
  |.own a=>.deep ty i xs (some (n,c,a))
  |_=>.gone
 |o=>o
def gmap(f:TV D.T->TV D.T):Option Nat->Option Nat
 |none=>none
 |some s=>match f (.own s)with
  |.own a=>some a
  |_=>none
def TS.zeb(ts:TS D.T)(f:TV D.T->TV D.T):TS D.T :=
 {ts with t:=ts.t.map λp=>(p.1,f p.2),o:=ts.o.map λp=>(p.1,TO.map D f p.2),d:=ts.d.map λp=>(p.1,p.2.map f),g:=ts.g.map (gmap D f)}
def TS.freeze(ts:TS D.T)(s:Nat):Option (TS D.T) :=
 match ts.d,fnd ts.o s with
 |[],some (.acc _ t xs _)=>let a:=ts.zeb D (TV.frz D s false (.sl t xs 0));some {a with o:=(s,.gone)::a.o}
 |[],some (.deep _ q xs none)=>let a:=ts.zeb D (TV.frz D s false (.sl (.st q) xs 0));some {a with o:=(s,.gone)::a.o}
 |[],some (.mp _ t es)=>if t.flat then (let a:=ts.zeb D (TV.frz D s true (.mc t es));some {a with o:=(s,.gone)::a.o})else none
 |_,_=>none
def TS.put(ts:TS D.T)(a:Option Nat)(v:TV D.T):Option (TS D.T) :=
 match a with
 |none=>some ts
 |some d=>if d<ts.nt then some {ts with t:=(d,v)::ts.t}else none
def TS.new(ts:TS D.T)(o:TO D.T):TS D.T:={ts with o:=(ts.nx,o)::ts.o,nx:=ts.nx+1}
def TS.set(ts:TS D.T)(s:Nat)(o:TO D.T):TS D.T:={ts with o:=(s,o)::ts.o}
def TS.y5w(ts:TS D.T)(s:Nat)(o:TO D.T):TS D.T:=((ts.new D o).set D s .gone).zeb D (TV.ren D s ts.nx)
def ynq{R:Type}(ts:TS D.T)(ty q:Nat)(xs:List (D.T q))(h:Option (Int×Nat×Nat))(s:Nat)(i:Int)(a:Nat)(x:TV D.T)(k:TV D.T->TS D.T->Option R)(b:Nat->Option R):Option R :=
 match x with
 |.own c=>(match D.ow q a,Nat.blt a (D.fl q).length with
  |some _,true=>(match h with
   |none=>z9s (ix xs i) λ_=>k .any (ts.y5w D s (.deep ty q xs (some (i,a,c))))
   |some p=>(match Nat.beq p.2.1 a with
    |true=>z9s (yjp p.1 i) λ_=>z9s (ix xs i) λ_=>k .any (ts.y5w D s (.deep ty q xs (some (i,a,c))))
    |false=>b s))
  |_,_=>none)
 |.agg cells=>(match a with
  |0=>(match h with
   |none=>(match yfw D q (D.fl q) cells 0 with
    |.ok r=>z9s (ix xs i) λ_=>k .any (ts.y5w D s (.deep ty q (xs.set i.toNat (D.make q r.1)) (r.2.map λp=>(i,p.1,p.2))))
    |.frz d=>b d
    |.bad=>none)
   |some _=>b s)
  |_=>none)
 |_=>none
def ydo{R:Type}(ts:TS D.T)(t:Nat)(a x:TV D.T)(k:TV D.T->TS D.T->Option R)(j:Nat->Option R):Option R :=
 if x.kzl&&(P.info? t).isSome&&x.cells.length==P.cellsOf t then
  match a with
  |.ptr s d=>match fnd ts.o s with
   |some (.cells cs)=>if d+x.cells.length<=cs.length then k .any (ts.set D s (.cells (zlc cs d x.cells)))else none
   |_=>none
  |.ap s τ i y d=>match fnd ts.o s with
   |some (.acc ty e xs true)=>if τ=e∧τ ≠ .nat∧d+x.cells.length<=(D.tv τ y).cells.length then
     (match asD D e (match D.tv τ y with| .agg cs=>.agg (zlc cs d x.cells)|_=>x)with
     |.ok z=>let l:=(ts.zeb D (TV.ren D s ts.nx)).new D (.acc ty e (xs.set i.toNat z) true);k .any (l.set D s .gone)
     |.frz s=>j s
     |.bad=>none)else none
   |_=>none
  |.dp s i d=>match fnd ts.o s with
   |some (.deep ty q xs h)=>if (List.range x.cells.length).all (λa=>(D.ow q (d+a)).isNone)=true∧d+x.cells.length<=(D.fl q).length then
     z9s (ix xs i) λy=>(match zbn D (D.fl q) (zlc (D.leaves (D.fl q) (D.get q y)) d x.cells)with
      |.ok z=>k .any (((ts.new D (.deep ty q (xs.set i.toNat (D.make q z)) h)).set D s .gone).zeb D (TV.ren D s ts.nx))
      |.frz m=>j m
      |.bad=>none)else ynq D ts ty q xs h s i d x k j
   |_=>none
  |.bp s 1=>match fnd ts.o s,x with
   |some (.bld ty b),.own q=>k .any (ts.set D s (.bld ty (some q)))
   |_,_=>none
  |_=>none
 else none
def tSrc(ts:TS D.T)(τ:DTy):TV D.T->Option (List (τ.S D.T))
 |.nils=>some []
 |.sl t xs _=>zf5 t τ xs
 |.own s=>match fnd ts.o s with
  |some (.acc _ t xs _)=>zf5 t τ xs
  |_=>none
 |.str s=>match τ with
  |.int .u8=>some (yto s)
  |_=>none
 |_=>none
def tDst(ts:TS D.T)(e:Nat)(τ:DTy):TV D.T->Option (List (τ.S D.T)×Bool×Option Nat)
 |.nils=>some ([],true,none)
 |.sl t xs 1=>if τ = .int .u8 then none else (zf5 t τ xs).map λxs=>(xs,false,none)
 |.sl t xs 2=>if τ = .int .u8 then none else (zf5 t τ xs).map λxs=>(xs,true,none)
 |.own s=>match fnd ts.o s with
  |some (.acc a t xs w)=>if a=e then (zf5 t τ xs).map λxs=>(xs,w,some s)else none
  |_=>none
 |_=>none
def yl8{R:Type}(ts:TS D.T)(t u:Nat)(s x:TV D.T)(k:TV D.T->TS D.T->Option R):Option R :=
 match P.underlying t,P.underlying u with
 |some (.slice e),some d=>
  match P.info? e,D.ty e with
  |some i,some τ=>
   match i.zero with
   |some z=>if zx9 d&&decide (0<i.size)&&decide (i.bytes<=524288)&&z.cells.size==i.size&&D.len τ==i.size then
     (match tSrc D ts τ x,tDst D ts e τ s with
     |some b,some (xs,w,a)=>z9s (ext xs b) λzs=>
      k (.own ts.nx) (match a with|none=>ts.new D (.acc e τ zs w)|some s=>(ts.new D (.acc e τ zs w)).set D s .gone)
     |_,_=>none)else none
   |none=>none
  |_,_=>none
 |_,_=>none
def yd1{R:Type}(ts:TS D.T)(t u:Nat)(s:TV D.T)(q:Nat)(cells:List (TV D.T))(k:TV D.T->TS D.T->Option R)(a:Nat->Option R):Option R :=
 match P.underlying t,P.underlying u with
 |some (.slice e),some l=>
  match P.info? e with
  |some i=>
   match i.zero with
   |some z=>if zx9 l&&decide (0<i.size)&&decide (i.bytes<=524288)&&z.cells.size==i.size&&D.len (.st q)==i.size then
     (match yfw D q (D.fl q) cells 0 with
     |.ok r=>(match s with
      |.nils=>z9s (ext [] [D.make q r.1]) λzs=>k (.own ts.nx) (ts.new D (.deep e q zs (r.2.map λp=>(0,p.1,p.2))))
      |.own s=>(match fnd ts.o s with
       |some (.deep j d xs h)=>if j=e then (match h with
        |none=>(match zf5 (.st d) (.st q) xs with
         |some xs=>z9s (ext xs [D.make q r.1]) λzs=>k (.own ts.nx) ((ts.new D (.deep e q zs (r.2.map λp=>((xs.length:Int),p.1,p.2)))).set D s .gone)
         |none=>none)
        |some _=>a s)else none
       |_=>none)
      |_=>none)
     |.frz b=>a b
     |.bad=>none)else none
   |none=>none
  |none=>none
 |_,_=>none
def z006{R:Type}(ts:TS D.T)(t:Nat)(d s:TV D.T)(k:TV D.T->TS D.T->Option R):Option R :=
 match d,s with
 |.osl s a,.osl i b=>if s=i then (match P.underlying t,fnd ts.o s with
  |some (.slice e),some (.acc ty τ xs true)=>if D.len τ=P.cellsOf e∧(P.info? e).isSome then
    z9s (y3g xs a b) λh=>k .any (((ts.zeb D (TV.ren D s ts.nx)).new D (.acc ty τ h true)).set D s .gone)else none
  |_,_=>none)else none
 |_,_=>none
def yd7{R:Type}(ts:TS D.T)(t:Nat)(r:Option (TV D.T))(k:TV D.T->TS D.T->Option R):Option R :=
 match P.underlying t with
 |some (.map _ e)=>match D.ty e,r with
  |some τ,none=>k (.map ts.nx) (ts.new D (.mp t τ []))
  |some τ,some (.int _ _)=>k (.map ts.nx) (ts.new D (.mp t τ []))
  |_,_=>none
 |_=>none
def yas{R:Type}(ts:TS D.T)(t:Nat)(m a x:TV D.T)(k:TV D.T->TS D.T->Option R):Option R :=
 match P.underlying t,m,a with
 |some (.map b _),.map q,.str s=>match P.underlying b,fnd ts.o q with
  |some .string,some (.mp ty τ es)=>match asD D τ x with
   |.ok y=>k .any (ts.set D q (.mp ty τ (z99 es s y)))
   |_=>none
  |_,_=>none
 |_,_,_=>none
def z02c{R:Type}(ts:TS D.T)(x:TV D.T)(str:Bool)(k:TV D.T->TS D.T->Option R):Option R :=
 match x,str with
 |.ptr s 0,true=>match fnd ts.o s with
  |some (.siter l a)=>pIf (decide (a<l.length)) (k (.tup [.bool true,.int .i64 a,.int .i32 (zho l a).1]) (ts.set D s (.siter l (a+(zho l a).2)))) (k (.tup [.bool false]) ts)
  |_=>none
 |_,_=>none
def tOp{R:Type}(ts:TS D.T)(op:Op)(k:TV D.T->TS D.T->Option R)(e:Nat->Option R):Option R :=
 match op with
 |.alloc t=>match yk9 (T:=D.T) P t with
  |some z=>if z.kzl then k (.ptr ts.nx 0) (ts.new D (.cells z.cells))else none
  |none=>none
 |.box _ x=>match ts.ev x with
  |some v=>if v.kzl then k (.ptr ts.nx 0) (ts.new D (.cells v.cells))else none
  |none=>none
 |.store t a x=>match ts.ev a,ts.ev x with
  |some a,some x=>ydo P D ts t a x k e
  |_,_=>none
 |.makeMap t r=>match oev D ts r with
  |some r=>yd7 P D ts t r k
  |none=>none
 |.mapUpdate t m i x=>match ts.ev m,ts.ev i,ts.ev x with
  |some m,some i,some x=>yas P D ts t m i x k
  |_,_,_=>none
 |.insert t m i x=>match ts.ev m,ts.ev i,ts.ev x with
  |some m,some i,some x=>yas P D ts t m i x k
  |_,_,_=>none
 |.range t x=>match ts.ev x with
  |some (.str s)=>match P.underlying t with
   |some .string=>k (.ptr ts.nx 0) (ts.new D (.siter s 0))
   |_=>none
  |_=>none
 |.next i b=>match ts.ev i with
  |some i=>z02c D ts i b k
  |none=>none
 |op=>match op with
  |.call c=>match c.callee,c.args.toList,c.argTypes.toList with
   |.builtin .append,[s,x],[t,u]=>match ts.ev s,ts.ev x with
    |some s,some (.bsl q [.agg cells])=>yd1 P D ts t u s q cells k e
    |some s,some x=>yl8 P D ts t u s x k
    |_,_=>none
   |.builtin .copy,[d,s],[t,u]=>match ts.ev d,ts.ev s with
    |some d,some s=>z006 P D ts t d s k
    |_,_=>none
   |_,_,_=>tP P D ts op (λv=>k v ts) e
  |op=>tP P D ts op (λv=>k v ts) e
end
inductive Sh where
 |any
 |d (t:DTy)
 |own (k:Nat)
 |ptr (k off:Nat)
 |bp (k:Nat)
 |map (k:Nat)
 |mc (t:DTy)
 |nilp
 |nilf
 |nili
 |nils
 |fn (f:Nat) (a b:List Sh)
 |iface (t:Nat) (s:Sh)
 |agg (cs:List Sh)
 |tup (cs:List Sh)
 |ref (cs:List Sh) (off:Nat)
 |dp (k off:Nat)
 |ap (k:Nat) (t:DTy) (off:Nat)
inductive OSh where
 |cells (cs:List Sh)
 |st (i:Nat)
 |acc (ty:Nat) (t:DTy) (w:Bool)
 |siter
 |mp (ty:Nat) (t:DTy)
 |mit (t:DTy)
 |bld (ty k:Nat)
 |deep (ty i:Nat)
 |deeph (ty i f k:Nat)
mutual
def Sh.tys:Sh->List DTy
 |.d t=>[t]
 |.mc t=>[.sl .str,.sl t]
 |.fn _ a b=>Sh.z45 a++Sh.z45 b
 |.iface _ s=>s.tys
 |.agg cs=>Sh.z45 cs
 |.tup cs=>Sh.z45 cs
 |.ref cs _=>Sh.z45 cs
 |.dp _ _=>[.int .i64]
 |.ap _ t _=>[.int .i64,t]
 |_=>[]
def Sh.z45:List Sh->List DTy
 |[]=>[]
 |s::l=>s.tys++Sh.z45 l
end
end Go.Ab
namespace Go.Ab
open Go
def HL.upd{T:Nat->Type}:(l:List DTy)->HL T l->Nat->(t:DTy)->t.S T->Option (HL T l)
 |[],_,_,_,_=>none
 |t::_,x,0,a,y=>(y4y a t y).map λy=>(y,x.2)
 |_::l,x,j+1,a,y=>(HL.upd l x.2 j a y).map λz=>(x.1,z)
def HL.at{T:Nat->Type}:(l:List DTy)->HL T l->Nat->Option ((t:DTy)×t.S T)
 |[],_,_=>none
 |t::_,x,0=>some ⟨t,x.1⟩
 |_::l,x,j+1=>HL.at l x.2 j
section
variable {D:Dat}
def ylx{T:Nat->Type}:List (TO T)->Nat->List (Nat×TO T)
 |[],_=>[]
 |o::r,n=>(n,o)::ylx r (n+1)
def y3x{T:Nat->Type}(l:List Nat):List (Nat×TO T):=l.map λs=>(s,.gone)
def TS.zha(ts:TS D.T)(b:List Nat)(a:List (TO D.T)):TS D.T :=
 {ts with o:=ylx a ts.nx++(y3x b++ts.o),nx:=ts.nx+a.length}
variable (D)
def Dat.zqv:DTy->Bool
 |.st q => !D.owns q
 |_=>true
def TS.fold{R:Type}(ts:TS D.T)(s:Nat)(k:TS D.T->Option R):Option R :=
 match fnd ts.o s with
 |some (.deep ty q xs (some (n,f,c)))=>(match D.ow q f with
  |some b=>(match fnd ts.o c with
   |some (.deep a h d none)=>if b=a∧c≠s then z9s (ix xs n) λy=>(match HL.upd (D.fl q) (D.get q y) f (.sl (.st h)) d with
     |some z=>k ((ts.zha [s,c] [.deep ty q (xs.set n.toNat (D.make q z)) none]).zeb D (TV.ren D s ts.nx))
     |none=>none)else none
   |some (.acc a e d true)=>if b=a∧c≠s∧D.zqv e=true then z9s (ix xs n) λy=>(match HL.upd (D.fl q) (D.get q y) f (.sl e) d with
     |some z=>k ((ts.zha [s,c] [.deep ty q (xs.set n.toNat (D.make q z)) none]).zeb D (TV.ren D s ts.nx))
     |none=>none)else none
   |_=>none)
  |none=>none)
 |_=>none
def TS.opn{R:Type}(ts:TS D.T)(s:Nat)(n:Int)(f:Nat)(k:TV D.T->TS D.T->Option R):Option R :=
 match fnd ts.o s with
 |some (.deep ty q xs none)=>(match D.ow q f with
  |some a=>z9s (ix xs n) λy=>(match HL.at (D.fl q) (D.get q y) f with
   |some ⟨.sl (.st e),b⟩=>(match D.owns e with
    |true=>k (.own (ts.nx+1)) ((ts.zha [s] [.deep ty q xs (some (n,f,ts.nx+1)),.deep a e b none]).zeb D (TV.ren D s ts.nx))
    |false=>k (.own (ts.nx+1)) ((ts.zha [s] [.deep ty q xs (some (n,f,ts.nx+1)),.acc a (.st e) b true]).zeb D (TV.ren D s ts.nx)))
   |some ⟨.sl d,b⟩=>(match D.zqv d && !decide (d = .int .u8)with
    |true=>k (.own (ts.nx+1)) ((ts.zha [s] [.deep ty q xs (some (n,f,ts.nx+1)),.acc a d b true]).zeb D (TV.ren D s ts.nx))
    |false=>none)
   |_=>none)
  |none=>none)
 |_=>none
def TV.pl{T:Nat->Type}:TV T->Bool
 |.bool _| .int _ _| .str _| .nilp| .nils| .mapn| .nilf| .nili| .sl _ _ _=>true
 |_=>false
mutual
def TV.see(ts:TS D.T):TV D.T->TV D.T
 |.own s=>(match fnd ts.o s with
  |some (.acc _ t xs _)=>.sl t xs 0
  |some (.deep _ q xs none)=>.sl (.st q) xs 0
  |_=>.any)
 |.agg cs=>.agg (TV.yxf ts cs)
 |.fn f a b=>(match a.all TV.pl&&b.all TV.pl with
  |true=>.fn f a b
  |false=>.any)
 |.bool b=>.bool b
 |.int k n=>.int k n
 |.str s=>.str s
 |.nilp=>.nilp
 |.nils=>.nils
 |.mapn=>.mapn
 |.nilf=>.nilf
 |.nili=>.nili
 |.sl t xs d=>.sl t xs 0
 |_=>.any
def TV.yxf(ts:TS D.T):List (TV D.T)->List (TV D.T)
 |[]=>[]
 |v::vs=>TV.see ts v::TV.yxf ts vs
end
mutual
def TV.z02y{T:Nat->Type}:TV T->List Nat
 |.own s=>[s]
 |.agg cs=>TV.yeu cs
 |_=>[]
def TV.yeu{T:Nat->Type}:List (TV T)->List Nat
 |[]=>[]
 |v::vs=>TV.z02y v++TV.yeu vs
end
def isHole{T:Nat->Type}(ts:TS T)(s:Nat):Bool:=match fnd ts.o s with
 |some (.deep _ _ _ (some _))=>true
 |_=>false
def z01s{T:Nat->Type}(ts:TS T)(s:Nat):Bool:=match fnd ts.o s with
 |some (.deep _ _ _ _)=>true
 |_=>false
def yb6{T:Nat->Type}:Nat->TS T->Nat->Nat
 |0,_,s=>s
 |f+1,ts,s=>match fnd ts.o s with
  |some (.deep _ _ _ (some p))=>(match isHole ts p.2.2 with
   |true=>yb6 f ts p.2.2
   |false=>s)
  |_=>s
def yup{R:Type}(P:Program)(ts:TS D.T)(t:Nat)(s:Nat)(i:Int)(a:Nat)(k:TV D.T->TS D.T->Option R)(d:Nat->Option R):Option R :=
 match fnd ts.o s with
 |some (.deep _ q _ h)=>(match z031 D q a (szT P t)with
  |[]=>zyk P D ts t s i a none λv=>k v ts
  |f::_=>(match h with
   |none=>ts.opn D s i f λv b=>zyk P D ts t s i a (some (f,v)) λw=>k w b
   |some p=>(match Nat.beq p.2.1 f with
    |true=>z9s (yjp p.1 i) λ_=>zyk P D ts t s i a (some (f,.own p.2.2)) λw=>k w ts
    |false=>d s)))
 |_=>none
end
end Go.Ab
