/-
  MORE OPERATIONS: what strings.Builder does with its own address and its bytes; make([]T, n).
-/
import Derived.Test.YthlmhmebajjkbaaGreatDoorLib2
import Derived.Lib.Builder
import Derived.Lib.UnsafeStr
import Derived.Laws.MakeOwn
import Derived.Laws.IdiomStrings
import Derived.Recover
import Derived.Maps.RangeRun
set_option linter.defProp false
set_option linter.unusedSimpArgs false
set_option linter.unusedVariables false
namespace Go.Ab
open Go
section
variable {W:World}{g:Gh}{H:Heap}{P:Program}
def Rel.z06d(l i:Nat){W':World}{g':Gh}{H':Heap}{ty sz:Nat}{xs:List V}{a:Option Nat}(b:g'.dom l i)(d:H'.get l i=some (.arr 0 ty sz xs a)):Rel W' g' H' (.ap l i 0 0 0) (.pointer (some ⟨g'.ab l i,0,none⟩)):=by
 refine .ap l i 0 0 0 _ b (λ_ _ _ _ _ _=>Qbu _) λty sz xs a _ =>?_
 simp
def z05l(P:Program)(t:Nat):Bool:=match P.info? t with
 |some i=>match i.desc with
  |.named n _=>n == "strings.Builder"
  |_=>false
 |none=>false
def ybx(P:Program)(H:Heap)(t:Nat):Option (V×Heap):=match zeroV P t,P.info? t with
 |some z,some i=>if z.zzs&&z.cells.length==i.size&&Nat.blt 0 i.size then some (.ap H.lv H.L.length 0 0 0,H.push (.arr 0 t i.size [z] (some 1)))else none
 |_,_=>none
def z02a{W':World}{g':Gh}{H':Heap}{l i:Nat}{m ty sz:Nat}{z:V}{c:Array Value}(b:g'.cap l i=1)(h:W'.heap[g'.ab l i]? = some (.cells c ty (0,0)))(o:0<sz)(p:z.cells.length=sz)(e:zwv W' g' H' z.cells c):ziu W' g' H' l i (.arr m ty sz [z] (some 1)):=by
 have one:∀{j:Nat}{x:V},[z][j]? = some x->j=0∧x=z:=λ{j x} a=>by
  cases j with
  |zero=>simp at a;exact⟨rfl,a.symm⟩
  |succ j=>simp at a
 refine⟨c,h,o,by rw[e.1,p,b,Nat.one_mul],by rw[b];decide,by rw[b];simp,λn k=>by injection k with k;rw[b,k],λj x a =>?_,λj x t v a d =>?_,λj x t v a d =>?_⟩
 ·obtain⟨_,rfl⟩:=one a;exact p
 ·obtain⟨rfl,rfl⟩:=one a;rw[Nat.zero_mul,Nat.zero_add];exact e.2.1 t v d
 ·obtain⟨rfl,rfl⟩:=one a;rw[Nat.zero_mul,Nat.zero_add];exact e.2.2 t v d
def ym6(q:Good W g H){t:Nat}{v:V}{H':Heap}(h:ybx P H t=some (v,H')):z9q P W g H (do pure (.value (<-Instr.alloc t true (.tuple #[])))) v H':=by
 unfold ybx at h;split at h
 ·rename_i z i m y;split at h
  ·rename_i l;simp only[Qag,Qbm,Nat.blt_eq]at l;have⟨⟨x,w⟩,u⟩:=l;cases h;have⟨a,d,b⟩:=zu0 (W:=W) (g:=g) (H:=H) m;have n:=zh1 x b
   have⟨s,r⟩:=zj9 q (O:=.cells a.cells t) (o:=.arr 0 t i.size [z] (some 1)) 1 (λW' g' H' p k A e=>by
    refine z02a (c:=a.cells) (by rw[k];simp[Gh.add]) ?_ u w (n.mono e);rw[p,k];simp only[Gh.add,and_self,if_true]
    exact z2f _ _)
   refine⟨.pointer (some ⟨W.heap.size,0,none⟩),_,_,.inl (by simp[Instr.alloc,d,newVar,newRow]),s,r,?_⟩;have j:(H.push (.arr 0 t i.size [z] (some 1))).get H.lv H.L.length=some (.arr 0 t i.size [z] (some 1)):=by rw[Heap.z9t,Qbw ⟨rfl,rfl⟩]
   have:=Rel.z06d (W':=W.alloc (.cells a.cells t)) (g':=g.add H.lv H.L.length W.heap.size 1) H.lv H.L.length (.inr ⟨rfl,rfl⟩) j;simpa[Gh.add]using this
  ·cases h
 ·cases h
def yxf(H:Heap):V->Option (Nat×Nat×Nat×Nat)
 |.ap l i e b a=>match H.get l i with
  |some (.arr d ty sz xs h)=>match Nat.beq d e&&Nat.blt (Nat.add (Nat.mul b sz) a) (Nat.mul xs.length sz)with
   |true=>some (ty,sz,xs.length,Nat.add (Nat.mul b sz) a)
   |false=>none
  |_=>none
 |_=>none
def y0h(y:Good W g H){x:V}{c:Value}{ty sz n o:Nat}(h:yxf H x=some (ty,sz,n,o))(u:Rel W g H x c):∃b q cells,c = .pointer (some ⟨b,o,none⟩)∧W.heap[b]? = some (.cells cells ty (0,0))∧cells.size=q * sz∧n<=q∧0<sz∧o<n * sz:=by
 unfold yxf at h;split at h
 ·rename_i l i j M K;split at h
  ·rename_i d I J xs Y k;split at h
   ·rename_i e;simp only[Qag]at e;have z:d=j:=Qaj e.1;subst z;injection h with h;injection h with F h;injection h with E h;injection h with C B;subst F;subst E;subst C;subst B
    cases u with
    |ap _ _ _ _ _ a X U w=>
     obtain rfl:=w _ _ _ _ k;have⟨A,s,r,p,L,m,R,Q,O,N⟩:=y.obj _ _ _ k;exact⟨_,g.cap l i,A,rfl,s,p,m,r,by have:=e.2;rw[Nat.blt_eq]at this;exact this⟩
   ·cases h
  ·cases h
 ·cases h
def ytp:V->V->Bool
 |.ap l i v x o,.ap d e b a o'=>Nat.beq l d&&Nat.beq i e&&Nat.beq v b&&Nat.beq x a&&Nat.beq o o'
 |_,_=>false
def ywt{x y:V}(h:ytp x y=true):x=y:=by
 unfold ytp at h;split at h
 ·simp only[Qag]at h;have⟨⟨⟨⟨i,e⟩,d⟩,b⟩,a⟩:=h;rw[Qaj i,Qaj e,Qaj d,Qaj b,Qaj a]
 ·cases h
def z02h(P:Program)(H:Heap)(op:BinOp)(t:Nat)(x y:V):Option V :=
 match ytp x y,yxf H x,P.underlying t with
 |true,some _,some (.pointer e)=>match (P.info? e).isSome,op with
  |true,.eql=>some (.bool true)
  |true,.neq=>some (.bool false)
  |_,_=>none
 |_,_,_=>none
def yay{b i:TypeId}{j:TypeInfo}(a:Addr)(k:P.underlying b=some (.pointer i))(e:P.info? i=some j) :
  (binOp .eql b (.pointer (some a)) (.pointer (some a))).run P W = .ok (.bool true) W:=by
 have h:∀d:Nat,(Op.equalIn (d+1) b (.pointer (some a)) (.pointer (some a))).run P W = .ok true W:=λd=>by
  simp[Op.equalIn,run_underlying k,sizeOf,typeInfo,e,run_sameAddr_same]
 simp only[binOp];simp[Op.equal,Op.maxDepth,h 9999]
def yu5(m:Good W g H){op:BinOp}{t:Nat}{x y:V}{v:V}{a b:Value}(K J:Operand)(h:z02h P H op t x y=some v)(B:Rel W g H x a)(A:Rel W g H y b) :
  z9q P W g H (do pure (.value (<-(do eqGuard op t K J a b;binOp op t a b)))) v H:=by
 unfold z02h at h;split at h
 ·rename_i p e N d F;obtain rfl:=ywt N;have⟨ty,sz,n,o⟩:=p;obtain⟨blk,q,cells,rfl,k1,k2,k3,k4,k5⟩:=y0h m d B
  have L:b = .pointer (some ⟨blk,o,none⟩):=by
   obtain⟨I,Z,r,rfl,m1,m2,m3,m4,m5⟩:=y0h m d A;unfold yxf at d;split at d
   ·rename_i l i w Y X;split at d
    ·rename_i k R U xs cp C;split at d
     ·rename_i E;simp only[Qag]at E;obtain rfl:k=w:=Qaj E.1
      cases B with
      |ap _ _ _ _ _ _ _ _ M=>
       have Q:=M _ _ _ _ C
       cases A with
       |ap _ _ _ _ _ _ _ _ z=>
        have O:=z _ _ _ _ C;rw[Q,O]
     ·cases d
    ·cases d
   ·cases d
  subst L;split at h
  ·rename_i u;have⟨j,s⟩:=Option.isSome_iff_exists.1 u;cases h;exact⟨_,W,g,.inl (by simp[eqGuard,yay _ F s]),.refl _ _ _,m,.bool _⟩
  ·rename_i u;have⟨j,s⟩:=Option.isSome_iff_exists.1 u;cases h;exact⟨_,W,g,.inl (by simp[eqGuard,Lib.run_neq_ptr_same _ _ F s]),.refl _ _ _,m,.bool _⟩
  ·cases h
 ·cases h
def z014(H:Heap):V->Bool
 |.ap l i _ _ _=>match H.get l i with
  |some (.arr _ _ _ _ (some 1))=>true
  |_=>false
 |_=>false
def z03g(P:Program)(H:Heap)(s d:Nat)(x:V):Option V :=
 match P.underlying s,P.underlying d,yxf H x with
 |some (.pointer t),some .unsafePointer,some _=>match P.info? t with
  |some j=>match Nat.blt 0 j.size with
   |true=>some x
   |false=>none
  |none=>none
 |some .unsafePointer,some (.pointer u),some (ty,sz,n,o)=>match P.info? u with
  |some _=>match Nat.beq (P.cellsOf ty) sz&&Nat.beq n 1&&z014 H x&&liesAt P P.depth ty 1 o u 1 with
   |true=>some x
   |false=>none
  |none=>none
 |_,_,_=>none
def yuu(y:Good W g H){s d:Nat}{x v:V}{c:Value}(h:z03g P H s d x=some v)(w:Rel W g H x c):z9q P W g H (do pure (.value (<-convert s d c))) v H:=by
 unfold z03g at h;split at h
 ·rename_i t p C I b;have⟨ty,sz,n,o⟩:=p;obtain⟨blk,q,cells,rfl,A,Q,O,N,M⟩:=y0h y b w;split at h
  ·rename_i j E;split at h
   ·rename_i B;rw[Nat.blt_eq]at B;cases h;have K:o<cells.size:=by rw[Q];exact Qbj M (Qau _ O)
    exact⟨_,W,g,.inl (by simp[Lib.run_to_unsafe W ⟨blk,o,none⟩ C I E (by omega) (show W.shape? blk=some (ty,cells.size) by simp[World.shape?,A]) K]),.refl _ _ _,y,w⟩
   ·cases h
  ·cases h
 ·rename_i u ty sz n o C I b;obtain⟨blk,q,cells,rfl,A,Q,O,N,M⟩:=y0h y b w;split at h
  ·rename_i j E;split at h
   ·rename_i B;simp only[Qag]at B;have⟨⟨⟨X,z2⟩,r⟩,U⟩:=B;have e1:P.cellsOf ty=sz:=Qaj X;cases h
    have k:cells.size=sz:=by
     unfold z014 at r;split at r
     ·rename_i l i J h5 h3;split at r
      ·rename_i z h1 h2 xs F
       cases w with
       |ap _ _ _ _ _ a _ _ ha=>
        simp only[yxf,F]at b;split at b
        ·rename_i R;simp only[Qag]at R;obtain rfl:z=J:=Qaj R.1;injection b with b;injection b with a1 b;injection b with a2 b;injection b with a3 a4;have:=ha _ _ _ _ F;injection this with L h6;have⟨cc,m,m2,Z,h4,m4,Y,_⟩:=y.obj _ _ _ F;rw[<-L,A]at m;injection m with m;injection m with m _ _;rw[m,Z,Y 1 rfl,Nat.one_mul,a2]
        ·cases b
      ·cases r
     ·cases r
    have hq:cells.size / P.cellsOf ty=1:=by rw[k,e1];exact Nat.div_self N
    exact⟨_,W,g,.inl (by simp[Lib.run_from_unsafe W (e:=ty) (cells:=cells.size) ⟨blk,o,none⟩ C I E (by simp[World.shape?,A]) (by rw[hq];exact U)]),.refl _ _ _,y,w⟩
   ·cases h
  ·cases h
 ·cases h
def y3l(H:Heap)(x:V):Option V:=match x with
 |.nils=>some .nilp
 |.hs l i a d n full=>match H.get l i with
  |some (.arr b _ _ _ _)=>match Nat.beq b a&&Nat.blt 0 n with
   |true=>some (.ap l i a d 0)
   |false=>none
  |_=>none
 |_=>none
def y9t(q:Good W g H){x v:V}{c:Value}{ts:Array TypeId}{ty:TypeId}(h:y3l H x=some v)(o:Rel W g H x c):z9q P W g H (do pure (.value (<-Builtin.unsafeSliceData_ ts ty #[c]))) v H:=by
 unfold y3l at h;split at h
 ·cases h
  cases o with
  |nils=>exact⟨_,W,g,.inl (by simp[Lib.run_unsafeSliceData_nil]),.refl _ _ _,q,.nilp⟩
 ·rename_i l i e j n full;split at h
  ·rename_i b B sz xs M u;split at h
   ·rename_i d;simp only[Qag]at d;obtain rfl:b=e:=Qaj d.1;have F:0<n:=by have:=d.2;rwa[Nat.blt_eq]at this
    cases h
    cases o with
    |hs _ _ _ _ _ _ a m k w s p=>
     obtain⟨rfl,rfl,⟨L,K,J⟩,I⟩:=p _ _ _ _ u;refine⟨_,W,g,.inl (by rw[Qbz,Lib.run_unsafeSliceData_row W ts ty _ _ k (by omega)];rfl),.refl _ _ _,q,?_⟩;refine .ap l i b j 0 _ w s λA C z E y =>?_
     have⟨r,_⟩:=p _ _ _ _ y;injection r
   ·cases h
  ·cases h
 ·cases h
def zws:List V->Option B8
 |[]=>some []
 |v::r=>match v,zws r with
  |.int .u8 (.ofNat m),some s=>match Nat.ble m 255 with
   |true=>some (m.toUInt8::s)
   |false=>none
  |_,_=>none
def y01:∀{vs:List V}{s:B8},zws vs=some s->s.length=vs.length∧∀(j:Nat) (x:UInt8),s[j]? = some x->vs[j]? = some (.int .u8 x.toNat)
 |[],s,h=>by simp only[zws,Qbt]at h;subst h;exact⟨rfl,by simp⟩
 |v::r,s,h=>by
  simp only[zws]at h;split at h
  ·rename_i m k i;split at h
   ·rename_i b;cases h;have⟨e,d⟩:=y01 i;refine⟨by simp[e],λj x a =>?_⟩
    cases j with
    |zero=>
     simp only[Qcc,Qbt]at a ⊢;subst a;have b:=Nat.le_of_ble_eq_true b
     have:(m.toUInt8).toNat=m:=by
      simp only[Nat.toUInt8,UInt8.toNat_ofNat'];omega
     rw[this];rfl
    |succ j=>simpa using d j x (by simpa using a)
   ·cases h
  ·cases h
def yu1(P:Program)(H:Heap)(pt:Nat)(p n:V):Option (V×Heap) :=
 match p,n with
 |.nilp,.int .i64 (.ofNat 0)=>some (.str [],H)
 |.ap l i b 0 0,.int .i64 (.ofNat m)=>match H.get l i,P.underlying pt with
  |some (.arr a ty sz xs d),some (.pointer e)=>match Nat.beq a b&&Nat.beq sz 1&&Nat.beq l H.lv&&Nat.beq e ty&&Nat.beq (P.cellsOf ty) 1&&Nat.blt 0 m&&Nat.ble m xs.length&&Nat.ble m zj8 with
   |true=>match zws (xs.take m)with
    |some s=>some (.str s,H.y75 i)
    |none=>none
   |false=>none
  |_,_=>none
 |_,_=>none
def yq7(y:Good W g H){pt it ty:Nat}{p n v:V}{H':Heap}{cp cn:Value}(h:yu1 P H pt p n=some (v,H'))(hp:Rel W g H p cp)(hn:Rel W g H n cn) :
  z9q P W g H (do pure (.value (<-Builtin.unsafeString_ #[pt,it] ty #[cp,cn]))) v H':=by
 unfold yu1 at h;split at h
 ·cases h;cases hp;cases hn;exact⟨_,W,g,.inl (by rw[Qbz,show Int.ofNat 0=(0:Int)from rfl,Lib.run_unsafeString_none W pt it ty none];rfl),.refl _ _ _,y,.str []⟩
 ·rename_i l i R m;split at h
  ·rename_i J U sz xs h6 e C X;split at h
   ·rename_i hc;simp only[Qag]at hc;have⟨⟨⟨⟨⟨⟨⟨c1,c2⟩,c3⟩,c4⟩,Q⟩,c6⟩,c7⟩,O⟩:=hc;obtain rfl:J=R:=Qaj c1;obtain rfl:sz=1:=Qaj c2;obtain rfl:l=H.lv:=Qaj c3;obtain rfl:e=U:=Qaj c4;have Q:P.cellsOf e=1:=Qaj Q;rw[Nat.blt_eq]at c6;have c7:=Nat.le_of_ble_eq_true c7;have O:=Nat.le_of_ble_eq_true O
    unfold zj8 at O;split at h
    ·rename_i s hs;cases h;have⟨b1,b2⟩:=y01 hs;have d:s.length=m:=by rw[b1,Qay];omega
     cases hn
     cases hp with
     |ap _ _ _ _ _ a hd hv ha=>
      obtain rfl:=ha _ _ _ _ C;have⟨N,k1,k2,k3,h4,k4,k5,k6,k7,k8⟩:=y.obj _ _ _ C;have h5:=y.lt _ _ _ C
      have w:=Lib.run_unsafeString_row (P:=P) W pt it ty e X Q (g.ab H.lv i) N.size (by simp[World.shape?,k1]) s (by intro hh;rw[hh]at d;simp at d;omega) (by rw[d,k3];omega) (by omega) (λj x hj=>by
       have F:=b2 j x hj;have h2:j<m:=by rw[<-d];exact(Qaa.1 hj).1
       rw[Qaw,Qbw h2]at F;have r:=k8 j _ 0 _ F rfl;have L:(⟨g.ab H.lv i,0,none⟩:Addr).add j=⟨g.ab H.lv i,j,none⟩:=by unfold Addr.add;split <;> simp_all
       have h3:j<N.size:=by rw[k3];omega
       rw[L,cell_of k1 h3];rw[Nat.mul_one,Nat.add_zero]at r;generalize N.getD j undef=q at r
       cases r;rfl)
      rw[d]at w;have⟨M,E,g3,g4⟩:=ywy y C
      have I:∀k,k≠g.ab H.lv i->(W.freeze ⟨g.ab H.lv i,0,none⟩ m).heap[k]? = W.heap[k]? := λk hk=>by
       unfold World.freeze;split
       ·rfl
       ·simp only[Array.getElem?_modify];rw[Qbx (λe=>hk e.symm)]
      have u:(W.freeze ⟨g.ab H.lv i,0,none⟩ m).heap.size=W.heap.size:=by unfold World.freeze;split <;> simp
      have A:(W.freeze ⟨g.ab H.lv i,0,none⟩ m).os=W.os∧(W.freeze ⟨g.ab H.lv i,0,none⟩ m).tape=W.tape∧(W.freeze ⟨g.ab H.lv i,0,none⟩ m).output=W.output:=by unfold World.freeze;split <;> exact⟨rfl,rfl,rfl⟩
      have Y:Own g H (g.ab H.lv i):=⟨_,_,_,C,rfl⟩
      have z:Step W g H (W.freeze ⟨g.ab H.lv i,0,none⟩ m) g (H.y75 i) :=
       ⟨A.1,A.2.1,A.2.2,Nat.le_of_eq u.symm,λb hb h1=>I b (λe=>h1 (by rw[e];exact Y)),E.own,E.dom,E.new,E.blk,E.arr,E.lv⟩
      have K:∀l k o,(H.y75 i).get l k=some o->o.blk g l k≠g.ab H.lv i:=λl k o B e=>by
       have⟨q1,q2⟩:=Heap.zhz B;exact q2 (y.inj _ _ _ _ _ _ q1 C e)
      refine⟨.string ⟨s.toArray⟩,_,g,.inl (by rw[Qbz,show Int.ofNat m=((m:Nat):Int)from rfl,w];rfl),z,⟨M.dom,λl k o B=>by rw[u];exact M.lt l k o B,M.inj,M.fresh,λl k o B =>?_,y.y3j.step z⟩,.str s⟩;have Z:=y.obj l k o (Heap.zhz B).1;exact Z.mono z (I _ (K l k o B)) rfl rfl rfl
    ·cases h
   ·cases h
  ·cases h
 ·cases h
def y48(P:Program)(H:Heap)(t:Nat)(n c:V):Option (V×Heap) :=
 match n,c with
 |.int _ (.ofNat n),.int _ (.ofNat c)=>match P.underlying t with
  |some (.slice e)=>match P.info? e,zeroV P e with
   |some i,some z=>match z.zzs&&Nat.beq z.cells.length i.size&&Nat.blt 0 i.size&&Nat.ble n c&&Nat.ble c 1000000&&Nat.ble i.bytes 100000 with
    |true=>some (.hs H.lv H.L.length 0 0 n false,H.push (.arr 0 e i.size (List.replicate n z) none))
    |false=>none
   |_,_=>none
  |_=>none
 |_,_=>none
def yaj(hG:Good W g H){t:Nat}{n c v:V}{H':Heap}{M N:Value}(h:y48 P H t n c=some (v,H'))(hn:Rel W g H n M)(E:Rel W g H c N):z9q P W g H (do pure (.value (<-Instr.makeSlice t M N))) v H':=by
 unfold y48 at h;split at h
 ·rename_i k1 n Z c;split at h
  ·rename_i e ht;split at h
   ·rename_i i z I F;split at h
    ·rename_i K;simp only[Qag]at K;have⟨⟨⟨⟨⟨c1,q⟩,Q⟩,r⟩,w⟩,s⟩:=K;have q:=Qaj q;rw[Nat.blt_eq]at Q;have r:=Nat.le_of_ble_eq_true r;have w:=Nat.le_of_ble_eq_true w;have s:=Nat.le_of_ble_eq_true s;cases h;cases hn;cases E
     obtain⟨b,A,y⟩:∃b,i.zero=some b∧Rel W g H z b:=by
      simp only[zeroV,I,Option.bind_some,Qaf]at F;obtain⟨b,Y,rfl⟩:=F;exact⟨b,Y,zq5 b⟩
     have⟨X,U,R⟩:=zh1 c1 y;have hb:i.bytes * c<=100000 * 1000000:=Nat.mul_le_mul s w;have l:=run_make (P:=P) W t e i b ht I A k1 Z (Int.ofNat n) (Int.ofNat c) (Int.natCast_nonneg n) (by show((n:Nat):Int)<=(c:Nat);omega) (by show((i.bytes:Nat):Int) * ((c:Nat):Int)<=_;rw[<-Int.natCast_mul];omega) (by show((c:Nat):Int)<=_;omega);simp only[Int.toNat,Int.ofNat_eq_natCast]at l
     have⟨h1,h2⟩:=zj9 hG (O:=.cells (madeCells b.cells (c * i.size)) e) (o:=.arr 0 e i.size (List.replicate n z) none) c (λW' g' H' hW J hH C=>by
      have a:g'.cap H.lv H.L.length=c:=by rw[J];simp[Gh.add]
      refine⟨madeCells b.cells (c * i.size),?_,Q,by rw[a,size_madeCells],by rw[a];unfold maxLen;omega,by rw[a];simpa using r,by simp,λj x m =>?_,λj x p u m d =>?_,λj x p u m d =>?_⟩
      ·rw[hW,J];simp only[Gh.add,and_self,if_true];exact z2f _ _
      all_goals
       rw[Qbo]at m;split at m
       ·rename_i h6;cases m
        first
        |exact q
        |(have B:p<i.size:=by rw[<-q];exact(Qaa.1 d).1
          rw[y2f b.cells c j p i.size (by rw[X,q]) B (by omega)]
          first|exact U p u d|exact(R p u d).mono C)
       ·cases m)
     refine⟨.slice (some ⟨W.heap.size,0,none⟩) n c,_,_,.inl (by rw[Qbz,show Int.ofNat n=((n:Nat):Int)from rfl,show Int.ofNat c=((c:Nat):Int)from rfl,l];rfl),h1,h2,?_⟩;refine .hs H.lv H.L.length 0 0 n false _ n c (.inr ⟨rfl,rfl⟩) (λ_ _ _ _ _ _=>Qbu _) λh4 h5 h3 h7 k =>?_
     rw[Heap.z9t,Qbw ⟨rfl,rfl⟩]at k;injection k with k;injection k with _ _ _ e4 _;refine⟨by simp[Gh.add],rfl,⟨r,by simp[Gh.add],λhh=>by cases hh⟩,by rw[<-e4];simp⟩
    ·cases h
   ·cases h
  ·cases h
 ·cases h
def yc0(b:Good W g H){t:Nat}{n c v:V}{d e:Value}(h:zlg P t n c=some v)(i:Rel W g H n d)(a:Rel W g H c e):z9q P W g H (do pure (.value (<-Instr.makeSlice t d e))) v H :=
 (yru b h i a).op.turns b
def isC:Operand->Bool
 |.const _=>true
 |_=>false
def y77(P:Program)(op:BinOp)(t:Nat)(b a:Operand)(x y:V):Option V:=match x,y,isC b||isC a,P.underlying t with
 |.nili,.nili,true,some (.interface _)=>match op with
  |.eql=>some (.bool true)
  |.neq=>some (.bool false)
  |_=>none
 |_,_,_,_=>none
def yri(l:Good W g H){op:BinOp}{t:Nat}{j i:Operand}{x y v:V}{a b:Value}(h:y77 P op t j i x y=some v)(n:Rel W g H x a)(m:Rel W g H y b) :
  z9q P W g H (do pure (.value (<-(do eqGuard op t j i a b;binOp op t a b)))) v H:=by
 unfold y77 at h;split at h
 ·rename_i ms q o;cases n;cases m
  have k:(eqGuard op t j i .nilIface .nilIface).run P W = .ok () W:=by
   cases j <;> cases i <;> first|(simp[isC]at q;done)|(cases op <;> simp[eqGuard])
  have p:∀d:Nat,(Op.equalIn (d+1) t .nilIface .nilIface).run P W = .ok true W:=λd=>by
   simp[Op.equalIn,yz3 o]
  have e:(Op.equal t .nilIface .nilIface).run P W = .ok true W:=p 9999;split at h
  ·cases h;exact⟨_,W,g,.inl (by simp[k,binOp_eql (a:=.nilIface) rfl,e]),.refl _ _ _,l,.bool _⟩
  ·cases h;exact⟨_,W,g,.inl (by simp[k,binOp_neq (a:=.nilIface) rfl,e]),.refl _ _ _,l,.bool _⟩
  ·cases h
 ·cases h
def hEq2(P:Program)(H:Heap)(op:BinOp)(t:Nat)(b a:Operand)(x y:V):Option V:=match y77 P op t b a x y with
 |some v=>some v
 |none=>z02h P H op t x y
def yx1(k:Good W g H){op:BinOp}{t:Nat}{e d:Operand}{x y v:V}{a b:Value}(h:hEq2 P H op t e d x y=some v)(j:Rel W g H x a)(i:Rel W g H y b) :
  z9q P W g H (do pure (.value (<-(do eqGuard op t e d a b;binOp op t a b)))) v H:=by
 unfold hEq2 at h;split at h
 ·rename_i u l;cases h;exact yri k l j i
 ·exact yu5 k e d h j i
def hStr(P:Program)(s d:Nat)(x:V):Option V:=match P.underlying s,P.underlying d with
 |some (.slice e),some .string=>match P.underlying e with
  |some (.int .u8)=>match x with
   |.nils=>some (.str [])
   |.sl 1 ws _=>(zws ws).map .str
   |_=>none
  |_=>none
 |_,_=>none
def y31{s d e:Nat}(a:Option Addr)(c:Nat)(b:P.underlying s=some (.slice e))(h:P.underlying e=some (.int .u8))(i:P.underlying d=some .string):(convert s d (.slice a 0 c)).run P W = .ok (.string ⟨#[]⟩) W:=by
 rw[run_convert_bytes_string W s d e _ 0 c b h i];cases a <;> simp[Conv.bytesToString,loadCells]
 all_goals rfl
def ygi(r:Good W g H){s d:Nat}{x v:V}{c:Value}(h:hStr P s d x=some v)(u:Rel W g H x c):z9q P W g H (do pure (.value (<-convert s d c))) v H:=by
 unfold hStr at h;split at h
 ·rename_i e m p;split at h
  ·rename_i n;split at h
   ·cases h;cases u;exact⟨_,W,g,.inl (by simp[y31 none 0 m n p]),.refl _ _ _,r,.str []⟩
   ·rename_i ws U;rw[Qaf]at h;obtain⟨l,E,rfl⟩:=h;have⟨A,L⟩:=y01 E;have nil:ws=[]->l=[]:=λe=>Qao (by rw[A,e];rfl)
    cases u with
    |slnil=>
     obtain rfl:=nil rfl
     exact⟨_,W,g,.inl (by simp[y31 none 0 m n p]),.refl _ _ _,r,.str []⟩
    |sle _ _ a k I=>
     obtain rfl:=nil rfl
     exact⟨_,W,g,.inl (by simp[y31 (some a) k m n p]),.refl _ _ _,r,.str []⟩
    |sl _ _ _ b o k K Q N B I M J R C=>
     have i:=run_convert_bytes_back (P:=P) W s d e ⟨b,o,none⟩ k l m n p λj F=>by
      have z:ws[j]? = some (.int .u8 l[j].toNat):=L j _ (Qab F);have y:=J j _ 0 (.int .u8 l[j].toNat) z rfl;have w:=C j _ 0 (.int .u8 l[j].toNat) z rfl;generalize O:K j 0=q at y w;cases w;rw[<-y]
      congr 1
      unfold Addr.add;split <;> simp_all
     rw[A]at i;exact⟨_,W,g,.inl (by simp[i]),.refl _ _ _,r,.str l⟩
   ·cases h
  ·cases h
 ·cases h
def yvd(P:Program)(H:Heap)(s d:Nat)(x:V):Option V:=match z03g P H s d x with
 |some v=>some v
 |none=>hStr P s d x
def yqt(b:Good W g H){s d:Nat}{x v:V}{c:Value}(h:yvd P H s d x=some v)(a:Rel W g H x c):z9q P W g H (do pure (.value (<-convert s d c))) v H:=by
 unfold yvd at h;split at h
 ·rename_i u e;cases h;exact yuu b e a
 ·exact ygi b h a
def zuw(P:Program)(H:Heap)(ρ:Operand->V)(op:Op):Option (V×Heap):=match op with
 |.alloc t=>match z05l P t with
  |true=>ybx P H t
  |false=>none
 |.makeSlice t n c=>y48 P H t (ρ n) (ρ c)
 |.convert s d x=>(yvd P H s d (ρ x)).map λv=>(v,H)
 |.binOp op t x y _=>(hEq2 P H op t x y (ρ x) (ρ y)).map λv=>(v,H)
 |.call c=>match c.callee with
  |.builtin .unsafeSliceData=>match c.args.toList with
   |[x]=>(y3l H (ρ x)).map λv=>(v,H)
   |_=>none
  |.builtin .unsafeString=>match c.args.toList,c.argTypes.toList with
   |[p,n],[pt,_]=>yu1 P H pt (ρ p) (ρ n)
   |_,_=>none
  |_=>none
 |_=>none
def zvw{ρ:Operand->V}{r:Operand->Value}{o:Oper}{v:V}{H':Heap}(k:Good W g H)(i:∀x,Rel W g H (ρ x) (r x))(h:zuw P H ρ o.op=some (v,H')):z9q P W g H (execOp r o) v H':=by
 have pure':∀{q:Option V},(q.map λv=>(v,H))=some (v,H')->q=some v∧H'=H:=λ{q} h=>by
  simp only[Qaf]at h;have⟨u,A,a⟩:=h;injection a with e l;exact⟨by rw[A,e],l.symm⟩
 unfold zuw at h;split at h
 ·rename_i t a;split at h
  ·unfold execOp;rw[a];exact ym6 k h
  ·cases h
 ·rename_i t n c a;unfold execOp;rw[a];exact yaj k h (i n) (i c)
 ·rename_i s d x a;obtain⟨h,rfl⟩:=pure' h;unfold execOp;rw[a];exact yqt k h (i x)
 ·rename_i op t x y _ a;obtain⟨h,rfl⟩:=pure' h;unfold execOp;rw[a];exact yx1 k h (i x) (i y)
 ·rename_i c a;unfold execOp;rw[a];have⟨callee,args,argTypes⟩:=c;simp only at h;split at h
  ·split at h
   ·rename_i x b;obtain⟨h,rfl⟩:=pure' h;obtain rfl:=z13 b;have:=y9t (P:=P) (ts:=argTypes) (ty:=o.type) k h (i x);have⟨c,W',g',e,l,z,w⟩:=this;refine⟨c,W',g',?_,l,z,w⟩
    rcases e with e|⟨e,j⟩
    ·left;rw[<-e];simp[resolve,invoke,builtin]
    ·right;refine⟨?_,j⟩;rw[<-e];simp[resolve,invoke,builtin]
   ·cases h
  ·split at h
   ·rename_i p n pt it b m;obtain rfl:=z13 b;obtain rfl:=z13 m;have:=yq7 (P:=P) (it:=it) (ty:=o.type) k h (i p) (i n);have⟨c,W',g',e,l,z,w⟩:=this;refine⟨c,W',g',?_,l,z,w⟩
    rcases e with e|⟨e,j⟩
    ·left;rw[<-e];simp[resolve,invoke,builtin]
    ·right;refine⟨?_,j⟩;rw[<-e];simp[resolve,invoke,builtin]
   ·cases h
  ·cases h
 ·cases h
end
section
variable {W:World}{g:Gh}{H:Heap}{P:Program}
def ygd:Heap:=⟨0,[],λ_ _=>none⟩
def yq4{sz:Nat}{x:V}{ys:List V}(h:zn4 ygd sz x=some ys)(H:Heap):zn4 H sz x=some ys:=by
 have a:∀l i,ygd.get l i=none:=λl i=>by unfold Heap.get ygd;split <;> simp
 cases x <;> simp_all[zn4,zdv]
def zwu(P:Program)(t u:Nat)(s x:V):Option V :=
 match s with
 |.sl sz xs true=>match P.underlying t,P.underlying u with
  |some (.slice e),some a=>match P.info? e with
   |some i=>match i.zero,zn4 ygd i.size x with
    |some z,some ys=>match zyr a&&decide (0<i.size)&&decide (i.bytes<=524288)&&z.cells.size==i.size&&Nat.beq sz i.size&&Nat.ble (xs.length+ys.length) zj8 with
     |true=>some (.sl sz (xs++ys) false)
     |false=>none
    |_,_=>none
   |none=>none
  |_,_=>none
 |_=>none
def ytn{sz:Nat}{xs:List V}{c:Value}(h:Rel W g H (.sl sz xs true) c):Rel W g H (.sl sz xs false) c:=by
 cases h with
 |slnil=>exact .slnil _ _
 |sle _ _ a d l=>exact .sle _ _ a d (λh=>by cases h)
 |sl _ _ _ b o d c n i e l j m p k=>exact .sl _ _ _ b o d c n i e (λh=>by cases h) j m p k
def yiy(I:Good W g H){t u ty:TypeId}{s x v:V}{cs cx:Value}(h:zwu P t u s x=some v)(O:Rel W g H s cs)(hx:Rel W g H x cx) :
  z9q P W g H (do pure (.value (<-Builtin.append_ #[t,u] ty #[cs,cx]))) v H:=by
 unfold zwu at h;split at h
 case h_2=>cases h
 rename_i sz xs;split at h
 case h_2=>cases h
 rename_i e du ht K;split at h
 case h_2=>cases h
 rename_i i hi;split at h
 case h_2=>cases h
 rename_i z ys hz Y;split at h
 case h_2=>cases h
 rename_i hc;cases h;simp only[Qag,Qar,Qbm]at hc;have⟨⟨⟨⟨⟨c1,U⟩,c3⟩,c4⟩,R⟩,c6⟩:=hc;have R:=Qaj R;have E:=Nat.le_of_ble_eq_true c6;subst R;have J:∀k,du ≠ .int k:=λk hk=>by subst hk;simp[zyr]at c1
 have⟨hlen,news,N,n2,n3,n4⟩:=yke (P:=P) I U (yq4 Y H) hx;obtain⟨a,n,C,rfl,rfl,o2,m,M,o4,o5,o6⟩:=zqx (P:=P) I U (show zdv H i.size (.sl i.size xs true)=some xs by simp[zdv]) O
 have h2:C=xs.length:=by
  cases O with
  |slnil=>rfl
  |sle _ _ _ _ Q=>exact Q rfl
  |sl _ _ _ _ _ _ _ _ _ _ Q=>exact Q rfl
 cases ys with
 |nil=>
  have X:news = #[]:=by simpa using N
  have:=zwi (P:=P) (W:=W) (ty:=ty) (base:=a) ht K J hi hlen (n4 W.drawn) X o2;refine⟨.slice a xs.length C,W,g,.inl (by rw[Qbz,this];rfl),.refl _ _ _,I,?_⟩
  rw[List.append_nil];exact ytn O
 |cons y r=>
  have hb:xs.length+(y::r).length<=268435456:=E
  have w:(xs.length+(y::r).length) * i.bytes<=140737488355328:=by
   calc (xs.length+(y::r).length) * i.bytes<=268435456 * 524288:=Nat.mul_le_mul hb c3
    _=_:=by decide
  have A:C<xs.length+(y::r).length:=by simp;omega
  have⟨b,d,k1,k2,k3⟩:=zxi (P:=P) (W:=W) (ty:=ty) (base:=a) ht K J hi hz hlen o6 n4 A (by omega) (growslice_fits A w)
  have Z:(m++news++Builtin.zeroCells z.cells (b-(xs.length+(y::r).length))).size=b * i.size:=by
   rw[Array.size_append,Array.size_append,size_zeroCells,M,N,c4,<-Nat.add_mul,<-Nat.add_mul]
   congr 1;omega
  have hF:zyj W g H i.size (xs++y::r) (m++news++Builtin.zeroCells z.cells (b-(xs.length+(y::r).length))):=by
   refine o5.append n3 (λj F =>?_) (λj F =>?_)
   ·rw[Array.append_assoc,z4f (by rw[M];exact F)]
   ·rw[Array.append_assoc,<-M,zk1,z4f (by rw[N];exact F)]
  have B:=(Grow.drawn W d).trans (Grow.alloc {W with drawn:=d} (.cells (m++news++Builtin.zeroCells z.cells (b-(xs.length+(y::r).length))) e));have q:=hF.mono (B.step (g:=g) (H:=H));have p:xs.length+(y::r).length=(xs++y::r).length:=by simp
  refine⟨.slice (some ⟨W.heap.size,0,none⟩) (xs.length+(y::r).length) b,_,g,.inl (by rw[Qbz,k3];rfl),B.step,I.grow B,?_⟩;rw[show Value.slice (some ⟨W.heap.size,0,none⟩) (xs.length+(y::r).length) b=Value.slice (some ⟨W.heap.size,0,none⟩) (xs++y::r).length b by rw[p]]
  refine Rel.sl i.size (xs++y::r) false W.heap.size 0 b (λj L=>(m++news++Builtin.zeroCells z.cells (b-(xs.length+(y::r).length))).getD (j * i.size+L) undef) (λhn=>by
   have⟨l,k,o,ho,hb⟩:=hn;have:=I.lt l k o ho
   omega) U (by rw[<-p];exact k1) (λh=>by cases h) q.1 (λj x L u F K =>?_) q.2.1 q.2.2
  have hl:=q.1 j x F;have h4:=(Qaa.1 F).1;have h3:=(Qaa.1 K).1
  have h1:j * i.size+L<b * i.size:=by
   have:(j+1) * i.size<=b * i.size:=Qau _ (by omega);rw[Nat.succ_mul]at this;omega
  rw[Nat.zero_add];show World.cell? (({W with drawn:=d}:World).alloc _) ⟨({W with drawn:=d}:World).heap.size,_,none⟩=_;rw[World.cell?_alloc_new,Qae,Qas (by rw[Z];exact h1)];rfl
end
section
variable {P:Program}{ops:Array Oper}{md:Region.Mode}
structure Info where
 eff:Bool
 K:Nat->Prop
 W:Nat->Prop
 call:Bool:=false
def y1d(K:Nat->Prop)(H H':Heap):Prop:=∀i,K i->H'.L[i]? = H.L[i]?
def y1d.refl(K:Nat->Prop)(H:Heap):y1d K H H:=λ_ _=>rfl
def y1d.trans{K:Nat->Prop}{A B C:Heap}(h:y1d K A B)(k:y1d K B C):y1d K A C:=λi a=>(k i a).trans (h i a)
def y1d.symm{K:Nat->Prop}{A B:Heap}(h:y1d K A B):y1d K B A:=λi a=>(h i a).symm
def yut(op:Op):Bool:=match op with
 |.alloc _| .box _ _| .store _ _ _=>true
 |.call c=>(match c.callee with
  |.builtin .append=>true
  |.builtin .unsafeString=>true
  |_=>false)
 |_=>false
def y8m{H:Heap}{ρ ρ':Operand->V}{o:Op}(h:∀x∈o.operands,ρ x=ρ' x):zuw P H ρ o=zuw P H ρ' o:=by
 cases o
 case makeSlice t n c=>simp only[zuw,h n (by simp[Op.operands]),h c (by simp[Op.operands])]
 case convert s d x=>simp only[zuw,h x (by simp[Op.operands])]
 case binOp op t x y _=>simp only[zuw,h x (by simp[Op.operands]),h y (by simp[Op.operands])]
 case call c=>
  simp only[zuw];split
  ·split
   ·rename_i x a;rw[h x (by simp[Op.operands,Call.operands];right;rw[<-Array.mem_toList_iff,a];simp)]
   ·rfl
  ·split
   ·rename_i p n pt it a b;rw[h p (by simp[Op.operands,Call.operands];right;rw[<-Array.mem_toList_iff,a];simp),h n (by simp[Op.operands,Call.operands];right;rw[<-Array.mem_toList_iff,a];simp)]
   ·rfl
  ·rfl
 all_goals rfl
def QP(P:Program)(H:Heap)(ρ:Operand->V)(o:Oper)(v:V):Prop:=pv P H ρ o.op=some v∨(∃c f args,o.op = .call c∧target ρ c=some (f,args)∧y5w P f args H v H)∨zuw P H ρ o.op=some (v,H)∨(∃t n c,o.op = .makeSlice t n c∧zlg P t (ρ n) (ρ c)=some v)∨∃c s x t u,o.op = .call c∧c.callee = .builtin .append∧c.args.toList=[s,x]∧c.argTypes.toList=[t,u]∧zwu P t u (ρ s) (ρ x)=some v
def zo1{H:Heap}{ρ ρ':Operand->V}{o:Oper}{v:V}(h:∀x∈o.op.operands,ρ x=ρ' x)(hq:QP P H ρ o v):QP P H ρ' o v:=by
 rcases hq with hq|⟨c,f,args,a,d,b⟩|hq|⟨t,n,c,a,d⟩|⟨c,s,x,t,u,a,d,b,j,i⟩
 ·exact .inl (by rw[<-ys6 h];exact hq)
 ·exact .inr (.inl ⟨c,f,args,a,by rw[<-zni (ρ:=ρ) (λx e=>h x (by rw[a];exact e))];exact d,b⟩)
 ·exact .inr (.inr (.inl (by rw[<-y8m h];exact hq)))
 ·exact .inr (.inr (.inr (.inl ⟨t,n,c,a,by rw[<-h n (by rw[a];simp[Op.operands]),<-h c (by rw[a];simp[Op.operands])];exact d⟩)))
 ·exact .inr (.inr (.inr (.inr ⟨c,s,x,t,u,a,d,b,j,by
   rw[<-h s (by rw[a];simp[Op.operands,Call.operands];right;rw[<-Array.mem_toList_iff,b];simp),<-h x (by rw[a];simp[Op.operands,Call.operands];right;rw[<-Array.mem_toList_iff,b];simp)];exact i⟩)))
def Eff2(P:Program)(H:Heap)(ρ:Operand->V)(op:Op)(v:V)(H':Heap):Prop:=ox P H ρ op=some (v,H')∨zuw P H ρ op=some (v,H')
def z010{H:Heap}{ρ ρ':Operand->V}{o:Op}(b:yut o=true)(h:∀x∈o.operands,ρ x=ρ' x):ox P H ρ o=ox P H ρ' o:=by
 cases o
 case alloc t=>rfl
 case box t x=>simp only[ox,h x (by simp[Op.operands])]
 case store t a x=>simp only[ox,h x (by simp[Op.operands]),h a (by simp[Op.operands])]
 case call c=>
  simp only[yut]at b;split at b
  ·rename_i d;simp only[ox,d];split
   ·rename_i s x t u e i;rw[h s (by simp[Op.operands,Call.operands];right;rw[<-Array.mem_toList_iff,e];simp),h x (by simp[Op.operands,Call.operands];right;rw[<-Array.mem_toList_iff,e];simp)]
   ·rfl
  ·rename_i d;simp only[ox,d,pv,zd3]
  ·cases b
 all_goals cases b
def zvl{H H':Heap}{ρ ρ':Operand->V}{o:Op}{v:V}(b:yut o=true)(h:∀x∈o.operands,ρ x=ρ' x)(a:Eff2 P H ρ o v H'):Eff2 P H ρ' o v H' :=
 a.imp (λq=>by rw[<-z010 b h];exact q) (λq=>by rw[<-y8m h];exact q)
def MV(P:Program)(ops:Array Oper)(S:Heap->Prop)(c:Info)(σ:St)(o:Oper)(v:V)(H':Heap):Prop :=
 (z0e ops σ o=some false∧v = .tup []∧H'=σ.H) ∨
 (z0e ops σ o=some true∧S σ.H ∧
  ((c.eff=false∧H'=σ.H∧∀a,S a->y1d c.K σ.H a->QP P a σ.ev o v) ∨
   (c.eff=true∧yut o.op=true∧Eff2 P σ.H σ.ev o.op v H'∧S H'∧∀i,¬c.W i->H'.L[i]? = σ.H.L[i]?)))
def z8d(σ:St)(o:Oper)(v:V)(H':Heap):St:=({σ with H:=H'}:St).put o.dst v
def y4n{σ:St}{o:Oper}{v:V}{H':Heap}{x:Operand}(h:∀d,o.dst=some d->x ≠ .tmp d):(z8d σ o v H').ev x=σ.ev x :=
 (z02j (σ:={σ with H:=H'}) h).trans (by cases x <;> rfl)
def y0m{σ:St}{o:Oper}{v:V}{H':Heap}:(z8d σ o v H').H=H':=z02f
def zna{σ:St}{o a:Oper}{v:V}{H':Heap}(h:∀d,o.dst=some d->d∉a.looksAt ops):z0e ops (z8d σ o v H') a=z0e ops σ a :=
 (y8t (σ:={σ with H:=H'}) h).trans rfl
def ycl{σ:St}{b a:Oper}{v u:V}{A B C:Heap}(h:∀d,b.dst=some d->a.dst≠some d):z8d (z8d σ b v A) a u C=z8d (z8d σ a u B) b v C:=by
 have e:∀(o:Oper) (w:V) (H:Heap),({z8d σ o w H with H:=C}:St)=({σ with H:=C}:St).put o.dst w:=λo w H=>by unfold z8d;cases o.dst <;> rfl
 unfold z8d at e ⊢;rw[e,e];exact put_comm v u h
def z054{S:Heap->Prop}{q o:Info}{l k:Oper}(I:l.apart ops k=true)(F:¬(q.eff=true∧o.eff=true))(E:q.eff=false->o.eff=true->∀x,q.K x->¬o.W x)(C:o.eff=false->q.eff=true->∀x,o.K x->¬q.W x)
  {σ:St} {v u:V}{Q y:Heap}(J:MV P ops S q σ l v Q) (s:MV P ops S o (z8d σ l v Q) k u y) :
  ∃z,MV P ops S o σ k u z∧MV P ops S q (z8d σ k u z) l v y:=by
 have⟨O,Y,N⟩:=Oper.apart_spec I;have i:∀{w:V}{H:Heap},∀x∈k.op.operands,(z8d σ l w H).ev x=σ.ev x:=λ{w H} x b=>y4n λd A=>zgg (O d A) x b
 have j:∀{w:V}{H:Heap},∀x∈l.op.operands,(z8d σ k w H).ev x=σ.ev x:=λ{w H} x b=>y4n λd A=>zgg (N d A) x b
 have R:∀{w:V}{H:Heap},z0e ops (z8d σ l w H) k=z0e ops σ k:=zna O;have U:∀{w:V}{H:Heap},z0e ops (z8d σ k w H) l=z0e ops σ l:=zna N;unfold MV at J s ⊢;rw[R,y0m]at s;simp only[U,y0m]
 rcases J with ⟨n,rfl,rfl⟩|⟨n,bs,⟨m,rfl,p⟩|⟨m,p,M,L,B⟩⟩
 ·rcases s with ⟨d1,rfl,rfl⟩|⟨d1,r,⟨d2,rfl,d3⟩|⟨d2,d3,d4,d5,d6⟩⟩
  ·exact⟨σ.H,.inl ⟨d1,rfl,rfl⟩,.inl ⟨n,rfl,rfl⟩⟩
  ·exact⟨σ.H,.inr ⟨d1,r,.inl ⟨d2,rfl,λa h e=>zo1 i (d3 a h e)⟩⟩,.inl ⟨n,rfl,rfl⟩⟩
  ·exact⟨y,.inr ⟨d1,r,.inr ⟨d2,d3,zvl d3 i d4,d5,d6⟩⟩,.inl ⟨n,rfl,rfl⟩⟩
 ·rcases s with ⟨d1,rfl,rfl⟩|⟨d1,r,⟨d2,rfl,d3⟩|⟨d2,d3,d4,d5,d6⟩⟩
  ·exact⟨σ.H,.inl ⟨d1,rfl,rfl⟩,.inr ⟨n,bs,.inl ⟨m,rfl,λa h e=>zo1 (λx b=>(j x b).symm) (p a h e)⟩⟩⟩
  ·exact⟨σ.H,.inr ⟨d1,r,.inl ⟨d2,rfl,λa h e=>zo1 i (d3 a h e)⟩⟩,.inr ⟨n,bs,.inl ⟨m,rfl,λa h e=>zo1 (λx b=>(j x b).symm) (p a h e)⟩⟩⟩
  ·refine⟨y,.inr ⟨d1,r,.inr ⟨d2,d3,zvl d3 i d4,d5,d6⟩⟩,.inr ⟨n,d5,.inl ⟨m,rfl,λa h e=>zo1 (λx b=>(j x b).symm) (p a h (y1d.trans (λx b=>d6 x (E m d2 x b)) e))⟩⟩⟩
 ·rcases s with ⟨d1,rfl,rfl⟩|⟨d1,r,⟨d2,rfl,d3⟩|⟨d2,d3,d4,d5,d6⟩⟩
  ·exact⟨σ.H,.inl ⟨d1,rfl,rfl⟩,.inr ⟨n,bs,.inr ⟨m,p,zvl p (λx b=>(j x b).symm) M,L,B⟩⟩⟩
  ·have X:y1d o.K σ.H y:=λx b=>B x (C d2 m x b)
   exact⟨σ.H,.inr ⟨d1,bs,.inl ⟨d2,rfl,λa h e=>zo1 i (d3 a h (X.symm.trans e))⟩⟩,.inr ⟨n,bs,.inr ⟨m,p,zvl p (λx b=>(j x b).symm) M,L,B⟩⟩⟩
  ·exact(F ⟨m,d2⟩).elim
def MC(P:Program)(ops:Array Oper)(S:Heap->Prop)(c:Info)(σ:St)(o:Oper)(K:V->Heap->Prop)(Kp:V->St->Prop):Prop :=
 c.eff=true∧c.call=true∧z0e ops σ o=some true∧∃cl f args a,o.op = .call cl∧target σ.ev cl=some (f,args)∧y1a P f args σ.H a ∧
  (∀v H',a (.ret v) H'->S H'∧(∀i,¬c.W i->H'.L[i]? = σ.H.L[i]?)∧K v H')∧∀v H',a (.pan v) H'->Kp v {σ with H:=H'}
def MC.imp{S:Heap->Prop}{c:Info}{σ:St}{o:Oper}{K e:V->Heap->Prop}{Kp:V->St->Prop}(h:MC P ops S c σ o K Kp)(k:∀v H',S H'->(∀i,¬c.W i->H'.L[i]? = σ.H.L[i]?)->K v H'->e v H'):MC P ops S c σ o e Kp:=by
 have⟨u,s,r,cl,f,args,d,q,p,n,m,l⟩:=h;exact⟨u,s,r,cl,f,args,d,q,p,n,λv H' j=>by have⟨a,b,c⟩:=m v H' j;exact⟨a,b,k v H' a b c⟩,l⟩
inductive Dep (md:Region.Mode) (ops:Array Oper) (a:Nat):Nat->Prop where
 |one (b:Nat) (o:Oper) (e:Edge) (ho:ops[b]? = some o) (he:e∈o.after) (hb:Region.binds md e=true) (hon:e.on=a):Dep md ops a b
 |more (b:Nat) (o:Oper) (e:Edge) (ho:ops[b]? = some o) (he:e∈o.after) (hb:Region.binds md e=true) (h:Dep md ops a e.on):Dep md ops a b
def Free(md:Region.Mode)(ops:Array Oper)(i j:Nat):Prop:=¬Dep md ops i j∧¬Dep md ops j i
def Down(md:Region.Mode)(ops:Array Oper)(listed:Array Bool):Prop:=∀b o,ops[b]? = some o->listed.getD b false=true->∀e∈o.after,Region.binds md e=true->listed.getD e.on false=true
def Down.dep{listed:Array Bool}(h:Down md ops listed){a b:Nat}(n:Dep md ops a b):listed.getD b false=true->listed.getD a false=true:=by
 induction n with
 |one b o e d j k l=>intro i;subst l;exact h b o d i e j k
 |more b o e d j k _ m=>intro i;exact m (h b o d i e j k)
def Down.ready{listed:Array Bool}(h:Down md ops listed){a b:Nat}(j:b∈Region.ready md ops listed)(m:Dep md ops a b):listed.getD a false=true:=by
 have⟨_,o',k,d⟩:=mem_ready.1 j
 cases m with
 |one _ o e i l j n=>rw[k]at i;cases i;subst n;exact d e l j
 |more _ o e i l j m=>rw[k]at i;cases i;exact h.dep m (d e l j)
def Down.set{listed:Array Bool}(h:Down md ops listed){k:Nat}(w:k∈Region.ready md ops listed):Down md ops (listed.setIfInBounds k true):=λb o l n e r s=>by
 have⟨_,o',m,i⟩:=mem_ready.1 w
 have u:∀j,listed.getD j false=true->(listed.setIfInBounds k true).getD j false=true:=λj p=>by
  by_cases a:k=j
  ·subst a
   rcases Nat.lt_or_ge k listed.size with q|q
   ·simp[Qae,q]
   ·simp[Qae,Array.getElem?_eq_none q]at p
  ·rw[getD_set_ne false a];exact p
 refine u _ ?_;by_cases d:k=b
 ·subst d
  rw[m]at l;cases l
  exact i e r s
 ·rw[getD_set_ne false d]at n;exact h b o l n e r s
def z01g(md:Region.Mode)(ops:Array Oper)(i j:Nat)(b a:Info):Prop:=Free md ops i j->(¬(b.eff=true∧a.eff=true))∧(b.eff=false->a.eff=true->∀x,b.K x->¬a.W x)∧(a.eff=false->b.eff=true->∀x,a.K x->¬b.W x)
def GP(md:Region.Mode)(ops:Array Oper)(prev:List (Nat×Info))(j:Nat)(c:Info):Prop:=∀p∈prev,z01g md ops p.1 j p.2 c
section
variable (P ops)(md)(S:Heap → Prop)(G:Nat → Info → Prop)(Kp:V → St → Prop)
def GoA(i:Nat)(K:St->Prop)(σ:St):Prop :=
 match ops[i]? with
 |none=>K σ
 |some o=>∃c,G i c∧((∃v H',c.call=false∧MV P ops S c σ o v H'∧K (z8d σ o v H'))∨MC P ops S c σ o (λv H'=>K (z8d σ o v H')) Kp)
def AM(R:St->Prop):Nat->Array Bool->St->Prop
 |0,listed,σ=>Region.ready md ops listed=[]∧R σ
 |fuel+1,listed,σ=>(Region.ready md ops listed=[]->R σ)∧∀i∈Region.ready md ops listed,GoA P ops S G Kp i (AM R fuel (listed.setIfInBounds i true)) σ
end
variable {S:Heap → Prop}{G G':Nat → Info → Prop}{Kp:V → St → Prop}
def MV.goA{i:Nat}{o:Oper}{v:V}{σ:St}{c:Info}{H':Heap}(d:ops[i]? = some o)(e:G i c)(a:c.call=false)(b:MV P ops S c σ o v H'){K:St->Prop}(h:K (z8d σ o v H')):GoA P ops S G Kp i K σ:=by
 unfold GoA;simp only[d];exact⟨c,e,.inl ⟨v,H',a,b,h⟩⟩
def AM.mono(a:∀j c,G' j c->G j c){R:St->Prop}:∀(fuel:Nat) (listed:Array Bool) (σ:St),AM P ops md S G' Kp R fuel listed σ->AM P ops md S G Kp R fuel listed σ
 |0,_,_,h=>h
 |fuel+1,listed,σ,h=>⟨h.1,λi l=>by
  have b:=h.2 i l;unfold GoA at b ⊢;split
  ·rename_i d;simp only[d]at b;exact AM.mono a fuel _ _ b
  ·rename_i o d;simp only[d]at b;obtain⟨c,e,⟨v,H',m,p,n⟩|hm⟩:=b
   ·exact⟨c,a _ _ e,.inl ⟨v,H',m,p,AM.mono a fuel _ _ n⟩⟩
   ·exact⟨c,a _ _ e,.inr (hm.imp λv H' _ _ k=>AM.mono a fuel _ _ k)⟩⟩
def yr6{W0:World}{g0:Gh}{H0:Heap}{i:Nat}{σ:St}{K:St->Prop}{K':Act->World->Prop}{Q':Exit->Act->World->Prop}
  (hk:∀W a g σ,K σ->(σ.e0=H0.E∧Step W0 g0 H0 W g σ.H)->kzy W a g σ->K' a W) (h5:∀W a g σ v c,Kp v σ->(σ.e0=H0.E∧Step W0 g0 H0 W g σ.H)->kzy W a g σ->Rel W g σ.H v c->Q' (.panic [{v:=c,recovered:=false}]) a W)
  {W:World} {a:Act}{g:Gh}(C:GoA P ops S G Kp i K σ) (F:σ.e0=H0.E∧Step W0 g0 H0 W g σ.H) (b:kzy W a g σ):wpOp P ops Q' i K' a W:=by
 unfold GoA at C;unfold wpOp;split
 ·rename_i ho;simp only[ho]at C;exact hk W a g σ C F b
 ·rename_i o ho;simp only[ho]at C;have⟨c0,_,C⟩:=C;have O:∀{v:V}{H':Heap},(z8d σ o v H').e0=σ.e0:=λ{v H'}=>by unfold z8d;cases o.dst <;> rfl
  rcases C with ⟨v,H',_,hy,h6⟩|⟨_,_,J,cl,f,args,h8,l,ht,hc,Q,R⟩
  ·have h:∀c W' g',Step W g σ.H W' g' H'->Good W' g' H'->Rel W' g' H' v c->K' (a.put o.dst c) W':=λc W' g' s1 X U=>
    hk W' _ g' _ h6 (by rw[y0m,O];exact⟨F.1,F.2.trans s1⟩) (b.next s1 X U o.dst)
   rcases hy with ⟨J,rfl,rfl⟩|⟨J,hs,⟨_,rfl,hv⟩|⟨_,_,hv,_,_⟩⟩
   ·rw[z19 b J,Qbx (by simp)];exact h undef W g (.refl _ _ _) b.good (.tup [] #[] rfl (by simp))
   ·rw[z19 b J,Qbw rfl];left;unfold Oper.wp
    rcases hv σ.H hs (.refl _ _)with hv|⟨c,f,args,l,ht,h7⟩|hv|⟨t,n,cz,l,hv⟩|⟨cc,s,x,t,u,l,B,z,A,hv⟩
    ·have⟨c,W',d,p,w⟩:=y6b (P:=P) b.good (r:=a.eval) b.ev hv;rw[d];exact h c W' g p.step (b.good.grow p) w
    ·have⟨j,Z,Y⟩:=zgv (P:=P) (ty:=o.type) b.ev ht
     have k:(execOp a.eval o).run P W=(callFunc f j).run P W:=by
      rw[<-Y W];unfold execOp;rw[l]
     rcases h7 W g j b.good Z with ⟨N,M⟩|⟨c,W',g',N,M,e3,e4⟩
     ·rw[k,N];refine M.mono λe W' ⟨c,g',L,s1,X,U⟩ =>?_
      subst L;exact h c W' g' s1 X U
     ·rw[k,N];exact h c W' g' M e3 e4
    ·have⟨c,W',g',d,p,w,y⟩:=zvw (P:=P) b.good b.ev hv
     rcases d with d|⟨d,m⟩
     ·rw[d];exact h c W' g' p w y
     ·rw[d];subst m;exact h _ W' g' p w y
    ·have⟨c,W',g',d,p,w,y⟩:=yc0 (P:=P) b.good hv (b.ev n) (b.ev cz);have k:(execOp a.eval o).run P W=(do pure (.value (<-Instr.makeSlice t (a.eval n) (a.eval cz))):Sem Next).run P W:=by unfold execOp;rw[l]
     rw[k]
     rcases d with d|⟨d,m⟩
     ·rw[d];exact h c W' g' p w y
     ·rw[d];subst m;exact h _ W' g' p w y
    ·have⟨c,W',g',d,p,w,y⟩:=yiy (P:=P) (ty:=o.type) b.good hv (b.ev s) (b.ev x)
     have k:(execOp a.eval o).run P W=(do pure (.value (<-Builtin.append_ #[t,u] o.type #[a.eval s,a.eval x])):Sem Next).run P W:=by
      have⟨callee,args,argTypes⟩:=cc;simp only at B z A;subst B;obtain rfl:=z13 z;obtain rfl:=z13 A;unfold execOp;rw[l];simp[resolve,invoke,builtin]
     rw[k]
     rcases d with d|⟨d,m⟩
     ·rw[d];exact h c W' g' p w y
     ·rw[d];subst m;exact h _ W' g' p w y
   ·rw[z19 b J,Qbw rfl];left;unfold Oper.wp;have⟨c,W',g',d,p,w,y⟩:=hv.elim (λq=>yfe (P:=P) b.good b.ev q) (λq=>zvw (P:=P) b.good b.ev q)
    rcases d with d|⟨d,m⟩
    ·rw[d];exact h c W' g' p w y
    ·rw[d];subst m;exact h _ W' g' p w y
  ·rw[z19 b J,Qbw rfl];left;unfold Oper.wp;have⟨j,Z,Y⟩:=zgv (P:=P) (ty:=o.type) b.ev ht
   have k:(execOp a.eval o).run P W=(callFunc f j).run P W:=by
    rw[<-Y W];unfold execOp;rw[l]
   have⟨N,M⟩:=hc W g j b.good Z;rw[k,N];refine M.mono λe W' ⟨o',H',g',p1,p2,p3,p4⟩ =>?_
   cases o' with
   |ret r=>
    have⟨c',L,I⟩:=p4;subst L
    exact hk W' (a.put o.dst c') g' _ (Q r H' p1).2.2 (by rw[y0m,O];exact⟨F.1,F.2.trans p2⟩) (b.next p2 p3 I o.dst)
   |pan v=>
    have⟨c',L,I⟩:=p4;subst L;have hn:=b.next p2 p3 (.any undef) none;exact h5 W' a g' {σ with H:=H'} v c' (R v H' p1) ⟨F.1,F.2.trans p2⟩ hn I
def y9g{W0:World}{g0:Gh}{H0:Heap}{R:St->Prop}{Q':Exit->Act->World->Prop}(j:∀W a g σ,R σ->(σ.e0=H0.E∧Step W0 g0 H0 W g σ.H)->kzy W a g σ->Q' .normal a W)
  (e:∀W a g σ v c,Kp v σ->(σ.e0=H0.E∧Step W0 g0 H0 W g σ.H)->kzy W a g σ->Rel W g σ.H v c->Q' (.panic [{v:=c,recovered:=false}]) a W) :
  ∀(fuel:Nat) (listed:Array Bool) (σ:St) (W:World) (a:Act) (g:Gh),AM P ops md S G Kp R fuel listed σ->(σ.e0=H0.E∧Step W0 g0 H0 W g σ.H)->kzy W a g σ->wpAny P md ops Q' fuel listed a W
 |0,_,σ,W,a,g,h,b,d=>⟨h.1,j W a g σ h.2 b d⟩
 |fuel+1,listed,σ,W,a,g,h,b,d=>⟨λm=>j W a g σ (h.1 m) b d,λi l=>yr6 (λW a g σ' k b d=>y9g j e fuel _ σ' W a g k b d) e (h.2 i l) b d⟩
def z04o{l q:Info}{a i:Oper}(y:a.apart ops i=true)(j:l.eff=false)(s:∀x,l.K x->¬q.W x)(r:∀v (σ:St) C,Kp v σ->C.length=σ.t.length->Kp v {σ with t:=C})
  {σ:St} {v:V}{m:Heap}(p:MV P ops S l σ a v m) {K:V->Heap->Prop}(Y:MC P ops S q (z8d σ a v m) i K Kp):m=σ.H ∧
  MC P ops S q σ i (λu H'=>MV P ops S l (z8d σ i u H') a v H'∧K u H') Kp:=by
 have⟨Q,a2,O⟩:=Oper.apart_spec y;have z:∀{w:V}{H:Heap},∀x∈i.op.operands,(z8d σ a w H).ev x=σ.ev x:=λ{w H} x b=>y4n λd o=>zgg (Q d o) x b
 have A:∀{w:V}{H:Heap},∀x∈a.op.operands,(z8d σ i w H).ev x=σ.ev x:=λ{w H} x b=>y4n λd o=>zgg (O d o) x b
 have X:m=σ.H:=by
  rcases p with ⟨_,_,h⟩|⟨_,_,⟨_,h,_⟩|⟨h,_⟩⟩
  ·exact h
  ·exact h
  ·rw[j]at h;cases h
 subst X;refine⟨rfl,?_⟩;have⟨b1,b2,N,cl,f,args,k,M,L,J,I,b8⟩:=Y;rw[zna Q]at N;rw[zni (ρ':=σ.ev) (λx b=>z x (by rw[M];exact b))]at L;rw[y0m]at J I;refine⟨b1,b2,N,cl,f,args,k,M,L,J,λu H' n =>?_,λu H' n =>?_⟩
 ·have⟨F,E,Z⟩:=I u H' n;refine⟨F,E,?_,Z⟩;unfold MV at p ⊢;rw[zna O,y0m]
  rcases p with ⟨d1,d2,_⟩|⟨d1,d2,⟨d3,_,d4⟩|⟨h,_⟩⟩
  ·exact .inl ⟨d1,d2,rfl⟩
  ·exact .inr ⟨d1,F,.inl ⟨d3,rfl,λB U R=>zo1 (λx b=>(A x b).symm) (d4 B U (y1d.trans (λx b=>E x (s x b)) R))⟩⟩
  ·rw[j]at h;cases h
 ·have:=r u _ σ.t (b8 u H' n) (by unfold z8d;cases a.dst <;> simp[St.put]);have e:({({z8d σ a v σ.H with H:=H'}:St)with t:=σ.t}:St)={σ with H:=H'}:=by unfold z8d;cases a.dst <;> rfl
  rw[e]at this;exact this
def z01c(h4:∀v (σ:St) t',Kp v σ->t'.length=σ.t.length->Kp v {σ with t:=t'}){R:St->Prop}{i:Nat}{F:Oper}{I:Info}(hi:ops[i]? = some F)(U:G i I)(X:I.call=false)(hg:∀j c,G' j c->G j c∧z01g md ops i j I c) :
  ∀(fuel:Nat) (listed:Array Bool) (σ:St),Down md ops listed ->
   (∀j E,ops[j]? = some E->j≠i->listed.getD j true=false->(∀e∈E.after,Region.binds md e=true->e.on≠i)->F.apart ops E=true) ->
   i∈Region.ready md ops listed->∀v H',MV P ops S I σ F v H'->AM P ops md S G' Kp R fuel (listed.setIfInBounds i true) (z8d σ F v H')->AM P ops md S G Kp R (fuel+1) listed σ:=by
 intro fuel
 induction fuel with
 |zero=>
  intro listed σ _ _ r v H' J H;refine⟨λh=>(by rw[h]at r;cases r),λj y =>?_⟩;by_cases a:j=i
  ·subst a;exact J.goA hi U X (AM.mono (λj c h=>(hg j c h).1) _ _ _ H)
  ·have:=ready_mono y a;rw[H.1]at this
   cases this
 |succ fuel ih=>
  intro listed σ b p r v H' J H;refine⟨λh=>(by rw[h]at r;cases r),λj y =>?_⟩;by_cases a:j=i
  ·subst a;exact J.goA hi U X (AM.mono (λj c h=>(hg j c h).1) _ _ _ H)
  ·have s:=H.2 j (ready_mono y a);have⟨m,E,L,h2⟩:=mem_ready.1 y;have⟨o,h8,l,C⟩:=mem_ready.1 r
   rw[hi]at l;injection l with l;subst l
   have Z:∀e∈E.after,Region.binds md e=true->e.on≠i:=λe K hb A=>by
    have s:=h2 e K hb;rw[A,getD_both o]at s;cases s
   have h7:∀e∈F.after,Region.binds md e=true->e.on≠j:=λe K hb A=>by
    have s:=C e K hb;rw[A,getD_both m]at s;cases s
   have O:Free md ops i j:=⟨λhd=>(by have:=b.ready y hd;rw[getD_both o]at this;cases this),λhd=>(by have:=b.ready r hd;rw[getD_both m]at this;cases this)⟩;have w:=p j E L a m Z
   have n:∀k ok,ops[k]? = some ok->k≠i->(listed.setIfInBounds j true).getD k true=false ->
     (∀e∈ok.after,Region.binds md e=true->e.on≠i)->F.apart ops ok=true:=λk ok x h5 o h3=>by
    refine p k ok x h5 ?_ h3;by_cases M:j=k
    ·subst M;exact m
    ·rw[getD_set_ne true M]at o;exact o
   unfold GoA at s ⊢;simp only[L]at s ⊢;obtain⟨cj,Q,⟨u,H2,h6,hm,x⟩|hm⟩:=s
   ·have⟨z,d⟩:=hg j cj Q;have⟨p1,p2,p3⟩:=d O;have⟨Y,q1,q2⟩:=z054 w p1 p2 p3 J hm;refine⟨cj,z,.inl ⟨u,Y,h6,q1,ih (listed.setIfInBounds j true) _ (b.set y) n (ready_mono r (Ne.symm a)) v H2 q2 ?_⟩⟩;rw[Array.setIfInBounds_comm _ _ a];rw[ycl (B:=Y) (Oper.apart_spec w).2.1]at x;exact x
   ·have⟨z,d⟩:=hg j cj Q;have⟨p1,p2,p3⟩:=d O
    have N:I.eff=false:=by
     cases K:I.eff with
     |false=>rfl
     |true=>exact(p1 ⟨K,hm.1⟩).elim
    obtain⟨rfl,q⟩:=z04o (Kp:=Kp) w N (p2 N hm.1) h4 J hm;refine⟨cj,z,.inr (q.imp λu H2 _ _ ⟨q2,x⟩=>ih (listed.setIfInBounds j true) _ (b.set y) n (ready_mono r (Ne.symm a)) v H2 q2 ?_)⟩;rw[Array.setIfInBounds_comm _ _ a];rw[ycl (B:=H2) (Oper.apart_spec w).2.1]at x;exact x
def y7v(md:Region.Mode)(ops:Array Oper):List Nat->Array Bool->Bool
 |[],listed=>(Region.ready md ops listed).isEmpty
 |k::r,listed=>(Region.ready md ops listed).contains k&&Region.free md ops listed k&&y7v md ops r (listed.setIfInBounds k true)
def zst(P:Program)(ops:Array Oper)(md:Region.Mode)(S:Heap->Prop)(Kp:V->St->Prop)(R:St->Prop):List Nat->List (Nat×Info)->St->Prop
 |[],_,σ=>R σ
 |k::a,prev,σ=>∃o c,ops[k]? = some o∧GP md ops prev k c∧((∃v H',c.call=false∧MV P ops S c σ o v H'∧zst P ops md S Kp R a ((k,c)::prev) (z8d σ o v H')) ∨
  ((∀j∈a,¬Free md ops k j)∧MC P ops S c σ o (λv H'=>zst P ops md S Kp R a ((k,c)::prev) (z8d σ o v H')) Kp))
def z01x(w:∀v (σ:St) J,Kp v σ->J.length=σ.t.length->Kp v {σ with t:=J}){R:St->Prop}:∀(l:List Nat) (prev:List (Nat×Info)) (listed:Array Bool) (σ:St),Down md ops listed->(∀j,listed.getD j true=false->j∈l) ->
  y7v md ops l listed=true->zst P ops md S Kp R l prev σ->AM P ops md S (GP md ops prev) Kp R l.length listed σ
 |[],_,listed,σ,_,_,y,h=>⟨by simpa[y7v]using y,h⟩
 |k::l,prev,listed,σ,a,m,y,h=>by
  have⟨o,c,C,x,h⟩:=h;simp only[y7v,Qag]at y;have⟨⟨i,Q⟩,F⟩:=y;have i:k∈Region.ready md ops listed:=by simpa using i
  have r:∀j,(listed.setIfInBounds k true).getD j true=false->j∈l:=λj q=>by
   by_cases d:k=j
   ·subst d;by_cases u:k<listed.size
    ·simp[Qae,u]at q
    ·simp[Qae,Array.getElem?_eq_none (Nat.le_of_not_lt u)]at q
   ·rw[getD_set_ne true d]at q
    rcases Qbl.1 (m j q)with e|e
    ·exact(d e.symm).elim
    ·exact e
  have rest:∀σ',zst P ops md S Kp R l ((k,c)::prev) σ'->AM P ops md S (GP md ops ((k,c)::prev)) Kp R l.length (listed.setIfInBounds k true) σ':=λσ' b=>
   z01x w l _ _ _ (a.set i) r F b
  rcases h with ⟨v,H',U,M,b⟩|⟨s,N⟩
  ·exact z01c (G:=GP md ops prev) (G':=GP md ops ((k,c)::prev)) w C x U (λj X z=>⟨λp A=>z p (Qai _ A),z _ Qak⟩) l.length listed σ a (Region.free_spec C Q) i v H' M (rest _ b)
  ·refine⟨λh=>(by rw[h]at i;cases i),λj q =>?_⟩;by_cases d:j=k
   ·subst d;unfold GoA;simp only[C];exact⟨c,x,.inr (N.imp λv H' _ _ O=>AM.mono (λj' X z p A=>z p (Qai _ A)) _ _ _ (rest _ O))⟩
   ·exfalso
    have⟨n,oj,Z,L⟩:=mem_ready.1 q;have⟨E,Y,K,I⟩:=mem_ready.1 i;refine s j ?_ ⟨λB=>(by have:=a.ready q B;rw[getD_both E]at this;cases this),λB=>(by have:=a.ready i B;rw[getD_both n]at this;cases this)⟩
    rcases Qbl.1 (m j n)with e|e
    ·exact(d e).elim
    ·exact e
def z029{id:Nat}{σ:St}{Q:yzh->St->Prop}(z:P.follows .mixedOrders=true)(l:List Nat)(C:y7v .any ops l (Array.replicate ops.size false)=true)(A:l.length=ops.size)(m:∀j,j<ops.size->j∈l)
  (h:zst P ops .any S (λv σ=>∀n,n.length=σ.t.length->Q (.panic v) {σ with t:=n}) (Q .normal) l [] σ) :
  Sat P (.region id ops true) σ Q:=λW0 g0 H0 W a g _ d e=>by
 refine zkw zyh z ?_;have u:=e.drawn (W.drawn+1);have s:σ.e0=H0.E∧Step W0 g0 H0 {W with drawn:=W.drawn+1} g σ.H:=⟨d.1,d.2.trans (Grow.drawn W _).step⟩
 have:=z01x (P:=P) (md:=.any) (R:=Q .normal) (λv σ n h x=>λr k=>h r (k.trans x)) l [] (Array.replicate ops.size false) σ (λb o _ w=>by rw[getD_replicate_false]at w;cases w) (λj B=>by
  rcases Nat.lt_or_ge j ops.size with q|q
  ·exact m j q
  ·simp[Qae,Array.getElem?_eq_none (xs:=Array.replicate ops.size false) (i:=j) (by simpa using q)]at B) C h
 rw[A]at this;exact y9g (Q':=yi1 W0 g0 H0 Q) (λW a g τ p d e=>⟨g,τ,.normal,.normal,d,e,p⟩) (λW a g τ v c p d e y=>⟨g,τ,.panic v,.panic v c y,d,e,p τ.t rfl⟩) _ _ σ _ a g this s u
def yc2{H H':Heap}{t l i a:Nat}(h:H'.get l i=H.get l i):ze9 P H' t (.ptr l i a)=ze9 P H t (.ptr l i a):=by simp only[ze9,h]
def zwy{H H':Heap}{t:Nat}{cs:List V}{a:Nat}:ze9 P H' t (.ref cs a)=ze9 P H t (.ref cs a):=rfl
def yja{H H':Heap}{t l i a d b:Nat}(h:H'.get l i=H.get l i):ze9 P H' t (.ap l i a d b)=ze9 P H t (.ap l i a d b):=by simp only[ze9,y1n,h]
def y3i{H H':Heap}{t l i a b n:Nat}{full:Bool}{y:V}(h:H'.get l i=H.get l i):yzx P H' t (.hs l i a b n full) y=yzx P H t (.hs l i a b n full) y:=by simp only[yzx,h]
def ypf{H H':Heap}{t l i a b n:Nat}{full:Bool}(h:H'.get l i=H.get l i):zs0 P H' t (.hs l i a b n full)=zs0 P H t (.hs l i a b n full):=by simp only[zs0,h]
def V.plain:V->Bool
 |.hs .. | .map .. => false
 |_=>true
def yv4{H H':Heap}{t:Nat}{x:V}(h:x.plain=true):zs0 P H' t x=zs0 P H t x:=by cases x <;> first|rfl|cases h
def y6k{H H':Heap}{t:Nat}{x y:V}(h:x.plain=true):yzx P H' t x y=yzx P H t x y:=by cases x <;> first|rfl|cases h
def yom{H H':Heap}{t:Nat}{x:V}{a b c:Option V}(h:x.plain=true):zjv P H' t x a b c=zjv P H t x a b c:=by cases x <;> first|rfl|cases h
end
def ywf(all:List Oper)(i j:Nat):Bool:=match all[j]? with
 |some o=>o.after.toList.any λe=>Region.binds .any e&&Nat.beq e.on i
 |none=>false
def depB(all:List Oper):Nat->Nat->Nat->Bool
 |0,i,j=>ywf all i j
 |n+1,i,j=>ywf all i j||(match all[j]? with
  |some o=>o.after.toList.any λe=>Region.binds .any e&&depB all n i e.on
  |none=>false)
def yno(all:List Oper)(i j:Nat):Bool:=depB all 8 i j||depB all 8 j i
def ypn{ops:Array Oper}:∀(n:Nat) {i j:Nat},depB ops.toList n i j=true->Dep .any ops i j:=λn=>by
 have a:∀{i j:Nat},ywf ops.toList i j=true->Dep .any ops i j:=λ{i j} h=>by
  unfold ywf at h;split at h
  ·rename_i o d;rw[List.any_eq_true]at h;have⟨e,k,b⟩:=h;simp only[Qag]at b;exact .one j o e (by simpa using d) (by simpa using k) b.1 (Qaj b.2)
  ·cases h
 induction n with
 |zero=>intro i j h;exact a h
 |succ n l=>
  intro i j h;simp only[depB,Bool.or_eq_true]at h
  rcases h with h|h
  ·exact a h
  ·split at h
   ·rename_i o d;rw[List.any_eq_true]at h;have⟨e,k,b⟩:=h;simp only[Qag]at b;exact .more j o e (by simpa using d) (by simpa using k) b.1 (l b.2)
   ·cases h
def znz{ops:Array Oper}{i j:Nat}(h:yno ops.toList i j=true):¬Free .any ops i j:=λa=>by
 unfold yno at h;rw[Bool.or_eq_true]at h
 rcases h with h|h
 ·exact a.1 (ypn 8 h)
 ·exact a.2 (ypn 8 h)
inductive zuq where
 |ret
 |pan (v:V) (recovered:Bool)
def zuq.value:zuq->V
 |.pan v false=>v
 |_=>.nili
def LetsOut.mono{Q Q':Exit->Act->World->Prop}(b:∀e a w,Q e a w->Q' e a w)(h:LetsOut Q):LetsOut Q':=by
 have⟨a,w,h⟩:=h;exact⟨a,w,b _ _ _ h⟩
def ylx(W:World)(g:Gh)(H:Heap):zuq->FrameMode->Prop
 |.ret,u=>u = .returning
 |.pan v r,u=>∃c,u = .panicking [{v:=c,recovered:=r}]∧Rel W g H v c
def ylx.mono{W:World}{g:Gh}{H:Heap}{m:zuq}{u:FrameMode}(h:ylx W g H m u){W':World}{g':Gh}{H':Heap}(s:Step W g H W' g' H'):ylx W' g' H' m u:=by
 cases m with
 |ret=>exact h
 |pan v r=>have⟨c,b,a⟩:=h;exact⟨c,b,a.mono s⟩
def ylx.run{W:World}{g:Gh}{H:Heap}{m:zuq}{u:FrameMode}(h:ylx W g H m u):u ≠ .run:=by
 cases m with
 |ret=>subst h;simp
 |pan v r=>have⟨c,a,b⟩:=h;subst a;simp
def z05b(W0:World)(g0:Gh)(H0:Heap)(j:Frame)(cs:List Frame)(Q:yzh->St->Prop)(i:zuq)(e:Exit)(a:Act)(b:List Frame)(W:World):Prop :=
 ∃g σ h d,yyf W g σ.H e h∧(σ.e0=H0.E∧Step W0 g0 H0 W g σ.H)∧kzy W a g σ∧b={j with mode:=d}::cs∧ylx W g σ.H i d∧Q h σ
def z05b.out{W0:World}{g0:Gh}{H0:Heap}{e:Frame}{cs:List Frame}{Q:yzh->St->Prop}{d:zuq}{a:Act}{b:List Frame}{W:World}:¬z05b W0 g0 H0 e cs Q d .outgrown a b W:=λ⟨_,_,_,_,h,_⟩=>by cases h
section
variable {P:Program}
def ytt{n:Nat}{W:World}{g:Gh}{H:Heap}{args:List V}{a:Array Value}(h:Good W g H)(d:zm3 W g H args a):kzy W {tmps:=a++Array.replicate (n-a.size) undef,defers:=[]} g ⟨args++List.replicate (n-args.length) .any,H,[],H.E⟩:=by
 refine⟨h,by simp[d.1],λj v b =>?_,rfl,by simp⟩;rw[Qbe]at b;split at b
 ·rename_i e;rw[z4f (by rw[d.1];exact e)];exact d.2 j v b
 ·rw[Qbo]at b;split at b
  ·cases b;exact .any _
  ·cases b
end
def PV.v:PV->V
 |.bool b=>.bool b
 |.int k n=>.int k n
 |.str s=>.str s
def PV.rel{W:World}{g:Gh}{H:Heap}:∀p:PV,Rel W g H p.v p.c
 |.bool b=>.bool b
 |.int k n=>.int k n
 |.str s=>.str s
def PV.of{W:World}{g:Gh}{H:Heap}:∀{p:PV}{c:Value},Rel W g H p.v c->c=p.c
 |.bool b,c,h=>by cases h;rfl
 |.int k n,c,h=>by cases h;rfl
 |.str s,c,h=>by cases h;rfl
section
variable {P:Program}{W:World}{g:Gh}{H:Heap}
def z013{H':Heap}{i:Nat}{es:List (PV×PV)}(u:Good W g H)(a:H.get H.lv i=some (.map (es.map λp=>(p.1.v,p.2.v))))(b:¬Own g H' (g.blk H.lv i)){c:Value}(h:Rel W g H (.map H.lv i) c):Rel W g H' (.mapc es) c:=by
 have⟨w,clock,q,o,n,m,l⟩:=u.obj _ _ _ a
 cases h with
 |map _ _ x=>
  refine .mapc es _ w clock b q ⟨by simpa using o,n,m,λj p r =>?_⟩;have⟨e,s,k,d⟩:=l j (p.1.v,p.2.v) (by rw[Qan,r];rfl);exact⟨e,s,PV.of k,PV.of d⟩
def yse(s:Good W g H){t j i:Nat}{es:List (PV×PV)}{c:Value}(l:P.underlying t=some (.map j i))(k:Rel W g H (.mapc es) c):z9q P W g H (do pure (.value (<-Instr.range t c))) (.ptr H.lv H.L.length 0) (H.push (.mit es [])):=by
 cases k with
 |mapc _ b x clock h e p=>
  have⟨w,u⟩:=zj9 s (O:=.mapIter (some b) clock #[] clock) (o:=.mit es []) 0 (λW' g' H' r n y a=>by
   refine⟨x,clock,b,?_,?_,?_,p⟩
   ·rw[r,n];simp only[Gh.add,and_self,if_true];exact z2f _ _
   ·intro m;have d:b<W.heap.size:=(Qbn.1 e).1;exact(a.own _ m).elim h (λq=>by omega)
   ·have d:b<W.heap.size:=(Qbn.1 e).1
    rw[a.block _ d h];exact e)
  refine⟨.pointer (some ⟨W.heap.size,0,none⟩),_,_,.inl ?_,w,u,?_⟩
  ·simp[Instr.range,yz3 l,getObj,Sem.run,e,newObj]
  ·have:=Rel.ptr (W:=W.alloc (.mapIter (some b) clock #[] clock)) (g:=g.add H.lv H.L.length W.heap.size 0) (H:=H.push (.mit es [])) H.lv H.L.length 0 (.inr ⟨rfl,rfl⟩);simpa[Gh.add]using this
def ydz{t len e0 sz:Nat}{s:List (Nat×V)}{ws:List V}{u:Array (Nat×Value)}(hG:Good W g H)(h:zfu P t len s=some (.sl sz ws true))(E:len≠0)(m:P.underlying t=some (.slice e0))(hl:u.size=s.length)
  (Z:∀(j i:Nat) (x:V),s[j]? = some (i,x)->∃c,u[j]? = some (i,c)∧Rel W g H x c):z9q P W g H (do pure (.value (<-Instr.buildSlice t len u))) (.hs H.lv H.L.length 0 0 ws.length false) (H.push (.arr 0 e0 sz ws (some ws.length))):=by
 unfold zfu at h;split at h
 ·rename_i e hu;split at h
  ·rename_i z hz;split at h
   ·rename_i hc;simp only[Qag,Qbm,Qar,Qat]at hc;have⟨⟨⟨⟨⟨⟨⟨c1,c2⟩,c3⟩,c4⟩,c5⟩,c6⟩,c7⟩,c8⟩:=hc;injection h with h;have⟨k2,hi⟩:=Option.isSome_iff_exists.1 c4;have hd:(sizeOf e).run P W = .ok (P.cellsOf e) W:=by simp[sizeOf,typeInfo,hi,Program.cellsOf]
    have⟨r,h9,h8⟩:=zu0 (W:=W) (g:=g) (H:=H) hz;have⟨I,h1,h6⟩:=zh1 c1 h8;have R:¬(len * P.cellsOf e>2 ^ 24):=by omega
    by_cases h0:len=0
    ·exact(E h0).elim
    ·try rw[Qbx h0]at h
     injection h with Q hb _;subst Q;subst hb
     have hq:e0=e:=by rw[hu]at m;injection m with m;injection m with m;exact m.symm
     rw[hq]
     have hh:¬(len * P.cellsOf e=0):=by
      intro F
      rcases Nat.mul_eq_zero.1 F with q|q <;> omega
     let a:Array Value:=(Array.range (len * P.cellsOf e)).map (r.cells[· % r.cells.size]!)
     let A:List V:=(List.range (len * P.cellsOf e)).map λi=>z.cells.getD (i % z.cells.length) .any
     have C:zwv W g H A a:=by
      have h7:∀j v,A[j]? = some v->∃k,z.cells[k]? = some v∧a.getD j undef=r.cells.getD k undef:=λj v b=>by
       have M:j<len * P.cellsOf e:=by
        have:=(Qaa.1 b).1;simpa[A]using this
       simp only[A,Qan,List.getElem?_range M,Qbq,Qbt]at b;have F:j % z.cells.length<z.cells.length:=Nat.mod_lt _ (by omega)
       have hv:z.cells[j % z.cells.length]? = some v:=by
        rw[Qba,Qab F]at b;simp only[Option.getD_some]at b;rw[Qab F,b]
       have J:j % r.cells.size<r.cells.size:=by rw[I];exact F
       refine⟨_,hv,?_⟩;have Z:(Array.range (len * P.cellsOf e))[j]? = some j:=by simp[M]
       simp only[a,Qae,Array.getElem?_map,Z,Qbq,Option.getD_some];rw[getElem!_pos r.cells (j % r.cells.size) J]
       have ha:(r.cells)[j % z.cells.length]? = some (r.cells[j % r.cells.size]):=by
        rw[<-I];exact Qas J
       rw[ha];rfl
      refine⟨by simp[A,a],λj v b =>?_,λj v b =>?_⟩
      all_goals
       have⟨k,K,hk⟩:=h7 j v b;rw[hk]
       first|exact h1 _ _ K|exact h6 _ _ K
     have N:=zye s 0 A c6 c7 (by simp[A,c5]);simp only[Nat.zero_mul,List.take_zero,List.nil_append]at N;have⟨U,e1,e2⟩:=zol s u.toList A a _ N C (by simpa using hl) (λj i x b=>by simpa using Z j i x b)
     have w:∀x∈s.map (·.2),x.cells.length=P.cellsOf e:=λx X=>by
      obtain⟨p,hp,rfl⟩:=Qbg.1 X;exact(c7 p hp).2
     have hlen:(s.map (·.2)).length=len:=by simp[c5]
     have hf:U.size=len * P.cellsOf e:=by
      rw[e2.1]
      have:∀l:List V,(∀x∈l,x.cells.length=P.cellsOf e)->(l.flatMap V.cells).length=l.length * P.cellsOf e:=by
       intro l
       induction l with
       |nil=>intro _;simp
       |cons x l ih=>
        intro X;rw[List.flatMap_cons,Qap,ih λy hy=>X y (by simp[hy]),X x (by simp),List.length_cons,Nat.succ_mul,Nat.add_comm]
      rw[this _ w,hlen]
     have hw:len<=2 ^ 24:=Qbk (Nat.le_mul_of_pos_right _ c3) c8
     have⟨g1,g2⟩:=zj9 hG (O:=.cells U e) (o:=.arr 0 e (P.cellsOf e) (s.map (·.2)) (some (s.map (·.2)).length)) len (λW' g' H' hW B hH he=>by
      have d:g'.cap H.lv H.L.length=len:=by rw[B];simp[Gh.add]
      refine⟨U,?_,c3,by rw[d,hf],by rw[d];exact Qbk hw (by decide),by rw[d,hlen];exact Qbv _,λn hn=>by injection hn with hn;rw[d,<-hn,hlen],λj x b=>w x (Qax b),λj x t v b Y=>e2.2.1 _ _ (zt3 _ w j t x v b Y),λj x t v b Y=>(e2.2.2 _ _ (zt3 _ w j t x v b Y)).mono he⟩;rw[hW,B];simp only[Gh.add,and_self,if_true]
      exact z2f _ _)
     refine⟨.slice (some ⟨W.heap.size,0,none⟩) len len,_,_,.inl ?_,g1,g2,?_⟩
     ·have k1:Instr.fill (λi=>some (i * P.cellsOf e,P.cellsOf e)) (Array.map (λx=>r.cells[x % r.cells.size]!) (Array.range (len * P.cellsOf e))) u.toList=some U:=e1;simp only[Instr.buildSlice,Qbz,yz3 hu,Qca,hd,Sem.run_ite,R,hh,if_false,Sem.run_pure,h9];simp[k1,newRow]
     ·rw[hlen];refine .hs _ _ _ _ _ _ _ _ _ (.inr ⟨rfl,rfl⟩) (λv ty sz xs cp B=>Qbu _) λty sz xs cp B =>?_
      have ho:(H.push (.arr 0 e (P.cellsOf e) (s.map (·.2)) (some len))).get H.lv H.L.length=some (.arr 0 e (P.cellsOf e) (s.map (·.2)) (some len)):=by
       unfold Heap.get Heap.push;simp
      rw[ho]at B;injection B with B;injection B with _ h2 h3 h4 h5;subst h4;refine⟨by simp[Gh.add],rfl,⟨Qbv _,by simp[Gh.add],λh=>by cases h⟩,by rw[hlen];omega⟩
   ·cases h
  ·cases h
 ·cases h
def yun{es:List (PV×PV)}{b:Array MapEntry}{clock:Nat}(l:yub es b clock):(b.toList.map (·.born)).Nodup:=by
 rw[List.Nodup,List.pairwise_iff_getElem];intro q i k e j h;have d:q<b.size:=by simpa using k
 have a:i<b.size:=by simpa using e
 have:=l.2.2.1 q i _ _ (Qas d) (Qas a) (by simpa using h);omega
def yqp(o:Good W g H){l i j:Nat}{es:List (PV×PV)}{a:List Nat}{p:PV×PV}{c:Value}(x:H.get l i=some (.mit es (a++[j])))(w:es[j]? = some p)(u:Rel W g H (.ptr l i 0) c):z9q P W g H (do pure (.value (<-Instr.entry c))) (.tup [p.1.v,p.2.v]) H:=by
 cases u with
 |ptr _ _ _ C=>
  have⟨b,clock,n,z,E,y,r⟩:=o.obj _ _ _ x;have⟨e,s,B,A⟩:=r.2.2.2 j p w;have k:za0 b j=e.born:=by simp[za0,s]
  have m:W.heap[g.blk l i]? = some (.mapIter (some n) clock ((a.map (za0 b)).toArray.push e.born) clock):=by
   have:(List.map (za0 b) (a++[j])).toArray=(a.map (za0 b)).toArray.push e.born:=by simp[k]
   rw[<-this];exact z
  have h:=run_entry_at (P:=P) W (g.blk l i) n clock (a.map (za0 b)).toArray b clock e m y (by simpa using Array.mem_of_getElem? s) (yun r);refine⟨.tuple #[e.key,e.val],W,g,.inl (by simp[h]),.refl _ _ _,o,.tup _ _ rfl λq v d =>?_⟩
  match q with
  |0=>simp at d;subst d;simp only[B];exact PV.rel _
  |1=>simp at d;subst d;simp only[A];exact PV.rel _
  |q+2=>simp at d
end
section
variable {P:Program}
def yy2{ops:Array Oper}{k:Nat}{σ:St}{Q:yzh->St->Prop}{o:Oper}{x:Operand}{l i:Nat}{es:List (PV×PV)}{d:List Nat}(ho:ops[k]? = some o)(hw:z0e ops σ o=some true)(Z:o.op = .next x false)(hx:σ.ev x = .ptr l i 0)(hg:σ.H.get l i=some (.mit es d))
  (h9:∀q∈d,q<es.length)
  (hi:(∀j,j<es.length->j∈d)->zfp P ops (k+1) (σ.put o.dst (.tup [.bool false])) Q)
  (ha:∀j p,es[j]? = some p->j∉d->zfp P ops (k+1) ({σ with H:=σ.H.set l i (.mit es (d++[j]))}.put o.dst (.tup [.bool true,p.1.v,p.2.v])) Q):zfp P ops k σ Q:=λW0 g0 H0 W a g hB hS F=>by
 have hk:k<ops.size:=by
  rcases Nat.lt_or_ge k ops.size with q|q
  ·exact q
  ·rw[Array.getElem?_eq_none q]at ho;cases ho
 rw[show ops.size-k=(ops.size-(k+1))+1 by omega,List.range'_succ];simp only[wpOps,ho];rw[z19 F hw,Qbw rfl];left;unfold Oper.wp;have hr:=F.ev x;rw[hx]at hr;generalize hit:a.eval x=cx at hr
 cases hr with
 |ptr _ _ _ hd=>
  have⟨m,clock,M,h1,h2,X,h4⟩:=F.good.obj _ _ _ hg;have⟨m2,m3,m4,m5⟩:=h4;replace h1:W.heap[g.blk l i]? = some (.mapIter (some M) clock (d.map (za0 m)).toArray clock):=h1;have k1:g.blk l i<W.heap.size:=F.good.lt _ _ _ hg;have L:∀y∈m.toList,y.born<clock:=λy hy=>m3 y (by simpa using hy)
  have r:∀j,j<es.length->∃e,m[j]? = some e∧za0 m j=e.born:=λj u=>by
   have C:j<m.size:=by rw[m2];exact u
   exact⟨m[j],Qas C,by simp[za0,C]⟩
  have hh:∀j N,j<es.length->N<es.length->za0 m j=za0 m N->j=N:=λj N u C U=>by
   have⟨e,e1,e2⟩:=r j u;have⟨A,e3,e4⟩:=r N C;exact m4 j N e A e1 e3 (by rw[<-e2,<-e4,U])
  rcases run_next_at (P:=P) W o.type (g.blk l i) M clock clock _ m clock h1 X L (Qbv _)with ⟨hz,I⟩|⟨e,U,E,B,I⟩
  ·have hl:∀j,j<es.length->j∈d:=λj u=>by
    have⟨e,e1,e2⟩:=r j u
    have hu:¬e∈leftOf m (d.map (za0 m)).toArray:=λhm=>by
     have:=Array.size_pos_of_mem hm;omega
    have hf:e∈m:=Array.mem_of_getElem? e1
    have:(d.map (za0 m)).contains e.born=true:=by
     cases hc:(d.map (za0 m)).contains e.born
     ·exact(hu (by unfold leftOf;rw[Array.mem_filter];exact⟨hf,by simpa using hc⟩)).elim
     ·rfl
    rw[List.contains_iff_mem,Qbg]at this;have⟨q,s,Y⟩:=this;rw[<-e2]at Y;rw[<-hh q j (h9 q s) u Y];exact s
   have J:(execOp a.eval o).run P W = .ok (.value (.tuple #[.bool false])) W:=by unfold execOp;rw[Z];simp[hit,I]
   have R:=F.next (.refl _ _ _) F.good (v:=.tup [.bool false]) (c:=.tuple #[.bool false]) (.tup _ _ rfl (λj v u=>by
    cases j with
    |zero=>simp at u;subst u;exact .bool _
    |succ j=>simp at u)) o.dst
   have hH:(σ.put o.dst (.tup [.bool false])).H=σ.H:=by cases o.dst <;> rfl
   have K:(σ.put o.dst (.tup [.bool false])).e0=σ.e0:=by cases o.dst <;> rfl
   rw[J];exact hi hl W0 g0 H0 W _ g hB (by rw[hH,K];exact hS) R
  ·have h7:e∈m∧(d.map (za0 m)).contains e.born=false:=by
    have n:e∈leftOf m (d.map (za0 m)).toArray:=by simpa using U
    unfold leftOf at n;rw[Array.mem_filter]at n;exact⟨n.1,by simpa using n.2⟩
   have⟨j,h6,k2⟩:=Array.getElem_of_mem h7.1;have u:j<es.length:=by rw[<-m2];exact h6
   have h5:m[j]? = some e:=by rw[Qas h6,k2]
   have h8:za0 m j=e.born:=by simp[za0,h5]
   have ht:j∉d:=λhm=>by
    have:e.born∈d.map (za0 m):=Qbg.2 ⟨j,hm,h8⟩;rw[<-List.contains_iff_mem,h7.2]at this;cases this
   have hp:es[j]? = some es[j]:=Qab u;have⟨A,n,r1,r2⟩:=m5 j _ hp
   obtain rfl:A=e:=by rw[h5]at n;injection n with h;exact h.symm
   have w:E.heap=W.heap:=by rcases B with rfl|rfl <;> rfl
   have z:∀q,q≠g.blk l i->∀O,(Go.ChangeMaps.setBlock E (g.blk l i) O).heap[q]? = W.heap[q]? := λq s O=>by
    show(E.heap.setIfInBounds (g.blk l i) O)[q]? = _;rw[Array.getElem?_setIfInBounds_ne (λh=>s h.symm),w]
   have k4:∀O,(Go.ChangeMaps.setBlock E (g.blk l i) O).heap[g.blk l i]? = some O:=λO=>by
    show(E.heap.setIfInBounds (g.blk l i) O)[g.blk l i]? = _;rw[Array.getElem?_setIfInBounds_self_of_lt (by rw[w];exact k1)]
   have hv:M≠g.blk l i:=λe=>by rw[e,h1]at X;cases X
   have⟨s1,s2⟩:=zke F.good (o':=.mit es (d++[j])) hg rfl (W':=Go.ChangeMaps.setBlock E (g.blk l i) (.mapIter (some M) clock ((d.map (za0 m)).toArray.push A.born) clock))
    (by rcases B with rfl|rfl <;> rfl) (by rcases B with rfl|rfl <;> rfl) (by rcases B with rfl|rfl <;> rfl)
    (by show W.heap.size<=(E.heap.setIfInBounds _ _).size;rw[Array.size_setIfInBounds,w];exact Qbv _)
    (λb hb k3=>z b k3 _) (λk5 ty sz xs cp U=>by cases U) (λhs=>by
      refine⟨m,clock,M,?_,λR=>(hs.own _ R).elim h2 (λq =>?_),?_,⟨m2,m3,m4,m5⟩⟩
      ·rw[k4];have:(List.map (za0 m) (d++[j])).toArray=(d.map (za0 m)).toArray.push A.born:=by simp[h8]
       rw[<-this]
      ·have:=(Qbn.1 X).1;omega
      ·rw[z _ hv];exact X)
   have J:(execOp a.eval o).run P W = .ok (.value (.tuple #[.bool true,A.key,A.val])) (Go.ChangeMaps.setBlock E (g.blk l i) (.mapIter (some M) clock ((d.map (za0 m)).toArray.push A.born) clock)):=by
    unfold execOp;rw[Z];simp[hit,I]
   have R:=F.next s1 s2 (v:=.tup [.bool true,es[j].1.v,es[j].2.v]) (c:=.tuple #[.bool true,A.key,A.val]) (.tup _ _ rfl (λq v s=>by
    match q with
    |0=>simp at s;subst s;exact .bool _
    |1=>simp at s;subst s;simp only[r1];exact PV.rel _
    |2=>simp at s;subst s;simp only[r2];exact PV.rel _
    |q+3=>simp at s)) o.dst
   have hH:({σ with H:=σ.H.set l i (.mit es (d++[j]))}.put o.dst (.tup [.bool true,es[j].1.v,es[j].2.v])).H=σ.H.set l i (.mit es (d++[j])):=by cases o.dst <;> rfl
   have K:({σ with H:=σ.H.set l i (.mit es (d++[j]))}.put o.dst (.tup [.bool true,es[j].1.v,es[j].2.v])).e0=σ.e0:=by cases o.dst <;> rfl
   rw[J];exact ha j es[j] hp ht W0 g0 H0 _ _ g hB (by rw[hH,K];exact⟨hS.1,hS.2.trans s1⟩) R
end
section
variable {P:Program}
def yyt{σ:St}{i:Nat}{es:List (PV×PV)}(hi:σ.H.L[i]? = some (some (.map (es.map λp=>(p.1.v,p.2.v)))))(hd:σ.d=[]){K j:List (Nat×kz5)}(h5:(K.map (·.1)).Nodup)(F:FOL (.map σ.H.lv i) (.mapc es) K j)(h4:∀p∈K,σ.H.L[p.1]? = some (some p.2)∧p.1≠i)
  {t':List V} (ht:FVL (.map σ.H.lv i) (.mapc es) σ.t t') :
  zwp σ ⟨t',⟨σ.H.lv,told σ.H.L (some i) j,σ.H.E⟩,[],σ.e0⟩∧(∀k∈j,(told σ.H.L (some i) j)[k.1]? = some (some k.2))∧∀n,n<σ.H.L.length->n≠i->(∀p∈K,p.1≠n)->(told σ.H.L (some i) j)[n]? = σ.H.L[n]? := by
 have h8:(j.map (·.1)).Nodup:=by rw[F.map];exact h5
 have I:∀k∈j,j.find? (λp=>p.1==k.1)=some k:=λk u=>by
  cases x:j.find? (λp=>p.1==k.1)with
  |none=>rw[List.find?_eq_none]at x;have:=x k u;simp at this
  |some q=>
   have M:=List.find?_some x;have Y:=List.mem_of_find?_eq_some x;simp at M;have⟨a,ha⟩:=List.mem_iff_getElem?.1 u;have⟨b,U⟩:=List.mem_iff_getElem?.1 Y;have O:(j.map (·.1))[a]? = some k.1:=by simp[ha]
   have h9:(j.map (·.1))[b]? = some k.1:=by simp[U,M]
   have s:=(Qaa.1 O).1;have:=(List.getElem?_inj s h8).1 (O.trans h9.symm);subst this;rw[ha]at U;exact U.symm
 have z:∀k∈j,∃o,σ.H.L[k.1]? = some (some o)∧k.1≠i∧FO (.map σ.H.lv i) (.mapc es) o k.2:=λk u=>by
  have⟨o,ho,hf⟩:=F.mem k u;exact⟨o,(h4 _ ho).1,(h4 _ ho).2,hf⟩
 refine⟨?_,λk u =>?_,λn hn h7 h6 =>?_⟩
 ·refine yfd (v:=.map σ.H.lv i) (r:=.mapc es) (zmj _ _ _) (λm o' w =>?_) ht hd λW g hG he hf c hc =>?_
  ·have s:m<σ.H.L.length:=by have:=(Qaa.1 w).1;rw[zmj]at this;exact this
   rw[zi1 s]at w;injection w with w;split at w
   ·cases w
   ·split at w
    ·rename_i p C;injection w with w;have y:=List.find?_some C;simp at y;have⟨o,J,_,X⟩:=z p (List.mem_of_find?_eq_some C);exact⟨o,by rw[<-y];exact J,by rw[<-w];exact X⟩
    ·refine⟨o',?_,.inl rfl⟩;rw[Qab s]at w ⊢;simp at w;rw[w]
  ·have A:σ.H.get σ.H.lv i=some (.map (es.map λp=>(p.1.v,p.2.v))):=by unfold Heap.get;rw[Qbw rfl,hi];rfl
   refine z013 hG A (λ⟨l,B,o',h,Z⟩ =>?_) hc
   have Q:∃o,σ.H.get l B=some o∧o'.blk g l B=o.blk g l B∧¬(l=σ.H.lv∧B=i):=by
    unfold Heap.get at h ⊢;dsimp only at h ⊢;by_cases R:l=σ.H.lv
    ·rw[Qbw R]at h ⊢
     cases x:(told σ.H.L (some i) j)[B]? with
     |none=>rw[x]at h;simp at h
     |some q=>
      have s:B<σ.H.L.length:=by have:=(Qaa.1 x).1;rw[zmj]at this;exact this
      rw[zi1 s]at x;injection x with x;rw[zi1 s]at h;simp only[Option.join_some]at h;split at h
      ·cases h
      ·rename_i N;split at h
       ·rename_i p C;injection h with h;have y:=List.find?_some C;simp at y;have⟨o,J,_,X⟩:=z p (List.mem_of_find?_eq_some C);rw[y]at J;exact⟨o,by rw[J];rfl,by rw[<-h];exact X.blk g l B,λe=>N (by rw[e.2])⟩
       ·exact⟨o',h,rfl,λe=>N (by rw[e.2])⟩
    ·rw[Qbx R]at h ⊢;exact⟨o',h,rfl,λe=>R e.1⟩
   have⟨o,w1,w2,w3⟩:=Q;exact w3 (hG.inj _ _ _ _ _ _ w1 A (by rw[<-w2];exact Z))
 ·have⟨o,J,h2,_⟩:=z k u;have s:=(Qaa.1 J).1;rw[zi1 s,Qbx (λe=>h2 (by injection e with e;exact e.symm)),I k u]
 ·rw[zi1 hn,Qbx (λe=>h7 (by injection e with e;exact e.symm))]
  have:j.find? (λp=>p.1==n)=none:=by
   rw[List.find?_eq_none];intro p C;have:p.1∈K.map (·.1):=by rw[<-F.map];exact List.mem_map_of_mem C
   have⟨q,x,hg⟩:=Qbg.1 this;have:=h6 q x;simp;omega
  rw[this,Qab hn];rfl
end
def pIf{α:Type}(b:Bool)(x y:Option α):Option α:=match b with|true=>x|false=>y
def ybo{α:Type}(b:Bool)(x y:Option α):pIf b x y=if b then x else y:=by cases b <;> rfl
def z9w{α β:Type}(o:Option α)(k:α->Option β):Option β:=o.bind k
noncomputable def y8j{α R:Type}(es:List (B8×α))(f:B8->α->List (B8×α)->Option R)(g:Option R):Option R :=
 open Classical in
 match es with
 |[]=>g
 |e::r=>if h:∃z,∀i p,(e::r)[i]? = some p->f p.1 p.2 ((e::r).eraseIdx i)=some z then some h.choose else none
def pOp{α:Type}(o:Oper)(x:Option α):Option α:=x
inductive Res (X R:Type) where
 |ok (r:R)
 |pan (x:X)
def zsc{X R S:Type}(o:Res X R)(f:R->Option S)(g:X->Option S):Option S:=match o with
 |.ok r=>f r
 |.pan x=>g x
inductive DTy where
 |bool
 |int (k:IntKind)
 |str
 |nat
 |sl (t:DTy)
 |st (i:Nat)
 deriving DecidableEq
def DTy.S(T:Nat->Type):DTy->Type
 |.bool=>Bool
 |.int _=>Int
 |.str=>B8
 |.nat=>Nat
 |.sl t=>List (t.S T)
 |.st i=>T i
def HL(T:Nat->Type):List DTy->Type
 |[]=>Unit
 |t::l=>t.S T×HL T l
def HL.app{T:Nat->Type}:{a b:List DTy}->HL T a->HL T b->HL T (a++b)
 |[],_,_,y=>y
 |_::_,_,x,y=>(x.1,HL.app x.2 y)
def HL.fst{T:Nat->Type}:(a:List DTy)->{b:List DTy}->HL T (a++b)->HL T a
 |[],_,_=>()
 |_::a,_,x=>(x.1,HL.fst a x.2)
def HL.snd{T:Nat->Type}:(a:List DTy)->{b:List DTy}->HL T (a++b)->HL T b
 |[],_,x=>x
 |_::a,_,x=>HL.snd a x.2
structure Dat where
 T:Nat->Type
 fl:Nat->List DTy
 get:∀i,T i->HL T (fl i)
 make:∀i,HL T (fl i)->T i
 enc:∀i,T i->V
 ty:Nat->Option DTy
 ow:Nat->Nat->Option Nat:=λ_ _=>none
inductive TV (T:Nat->Type):Type where
 |any
 |bool (b:Bool)
 |int (k:IntKind) (n:Int)
 |str (s:B8)
 |nilp
 |nils
 |mapn
 |nilf
 |nili
 |sl (t:DTy) (xs:List (t.S T)) (fl:Nat)
 |own (s:Nat)
 |osl (s:Nat) (lo:Int)
 |ptr (s off:Nat)
 |bp (s off:Nat)
 |ref (cs:List (TV T)) (off:Nat)
 |ap (s:Nat) (t:DTy) (i:Int) (x:t.S T) (off:Nat)
 |map (s:Nat)
 |mc (t:DTy) (es:List (B8×t.S T))
 |fn (f:Nat) (first caps:List (TV T))
 |iface (t:Nat) (v:TV T)
 |agg (cs:List (TV T))
 |tup (vs:List (TV T))
 |dp (s:Nat) (i:Int) (off:Nat)
 |bsl (i:Nat) (cs:List (TV T))
inductive TO (T:Nat->Type):Type where
 |cells (cs:List (TV T))
 |acc (ty:Nat) (t:DTy) (xs:List (t.S T)) (w:Bool)
 |siter (s:B8) (pos:Nat)
 |mp (ty:Nat) (t:DTy) (es:List (B8×t.S T))
 |mit (t:DTy) (last:Option (B8×t.S T)) (es:List (B8×t.S T))
 |bld (ty:Nat) (b:Option Nat)
 |gone
 |deep (ty i:Nat) (xs:List (T i)) (h:Option (Int×Nat×Nat))
structure TS(T:Nat->Type) where
 t:List (Nat×TV T)
 o:List (Nat×TO T)
 nx:Nat
 nt:Nat
 d:List (Nat×List (TV T)):=[]
 g:List (Option Nat):=[]
def fnd{α:Type}:List (Nat×α)->Nat->Option α
 |[],_=>none
 |(i,a)::r,j=>match Nat.beq i j with
  |true=>some a
  |false=>fnd r j
section
variable {T:Nat → Type}
def TV.cells:TV T->List (TV T)
 |.agg cs=>cs
 |v=>[v]
def TV.leaf:TV T->Bool
 |.any| .agg _| .tup _=>false
 |_=>true
def TV.zzs:TV T->Bool
 |.agg _=>true
 |v=>v.leaf
def TV.zd1:Value->TV T
 |.bool b=>.bool b
 |.int k n=>.int k n
 |.string s=>.str s.data.toList
 |.pointer none=>.nilp
 |.slice none 0 0=>.nils
 |.map none=>.mapn
 |.nilFunc=>.nilf
 |.nilIface=>.nili
 |_=>.any
def TV.ofC:Value->TV T
 |.agg cs=>if cs.toList.all (·.oneCell')then .agg (cs.toList.map TV.zd1)else .any
 |.tuple cs=>.tup (cs.toList.map TV.zd1)
 |.iface t v=>.iface t (TV.zd1 v)
 |v=>TV.zd1 v
def TS.ev(ts:TS T):Operand->Option (TV T)
 |.tmp t=>fnd ts.t t
 |.const v=>some (TV.ofC v)
 |.func f=>some (.fn f [] [])
 |.global _=>none
def TS.evs(ts:TS T):List Operand->Option (List (TV T))
 |[]=>some []
 |x::xs=>match ts.ev x,ts.evs xs with
  |some v,some vs=>some (v::vs)
  |_,_=>none
inductive FR (α:Type) where
 |ok (a:α)
 |frz (s:Nat)
 |bad
def FR.of{α:Type}:Option α->FR α
 |some a=>.ok a
 |none=>.bad
end
section
variable (D:Dat)
def Dat.owns(q:Nat):Bool:=(List.range (D.fl q).length).any λf=>(D.ow q f).isSome
def Dat.len:DTy->Nat
 |.st i=>(D.fl i).length
 |_=>1
def Dat.el:(t:DTy)->t.S D.T->V
 |.bool,b=>.bool b
 |.int k,n=>.int k n
 |.str,s=>.str s
 |.nat,_=>.any
 |.sl t,xs=>.sl (D.len t) (List.map (Dat.el t) xs) false
 |.st i,x=>D.enc i x
def Dat.els:(l:List DTy)->HL D.T l->List V
 |[],_=>[]
 |t::l,x=>D.el t x.1::Dat.els l x.2
def Dat.leaf:(t:DTy)->t.S D.T->TV D.T
 |.bool,b=>.bool b
 |.int k,n=>.int k n
 |.str,s=>.str s
 |.nat,_=>.any
 |.sl t,xs=>.sl t xs 0
 |.st _,_=>.any
def Dat.leaves:(l:List DTy)->HL D.T l->List (TV D.T)
 |[],_=>[]
 |t::l,x=>D.leaf t x.1::Dat.leaves l x.2
def Dat.tv:(t:DTy)->t.S D.T->TV D.T
 |.st i,x=>.agg (D.leaves (D.fl i) (D.get i x))
 |.bool,b=>.bool b
 |.int k,n=>.int k n
 |.str,s=>.str s
 |.nat,_=>.any
 |.sl t,xs=>.sl t xs 0
def y4k{T:Nat->Type}(a b:DTy)(x:a.S T):Option (b.S T) :=
 if h:a=b then some (h▸x)else none
def zyi{T:Nat->Type}(a b:DTy)(x:List (B8×a.S T)):Option (List (B8×b.S T)) :=
 if h:a=b then some (h▸x)else none
def DTy.flat:DTy->Bool
 |.bool| .int _| .str=>true
 |_=>false
def zfd{T:Nat->Type}(a b:DTy)(x:List (a.S T)):Option (List (b.S T)) :=
 if h:a=b then some (h▸x)else none
def zlk:(t:DTy)->TV D.T->FR (t.S D.T)
 |.bool,.bool b=>.ok b
 |.int k,.int d n=>if k=d then .ok n else .bad
 |.str,.str s=>.ok s
 |.sl t,.sl a xs _=>FR.of (zfd a t xs)
 |.sl _,.nils=>.ok []
 |.sl _,.own s=>.frz s
 |_,_=>.bad
def zbm:(l:List DTy)->List (TV D.T)->FR (HL D.T l)
 |[],[]=>.ok ()
 |t::l,v::vs=>match zlk D t v with
  |.ok x=>match zbm l vs with
   |.ok xs=>.ok (x,xs)
   |.frz s=>.frz s
   |.bad=>.bad
  |.frz s=>.frz s
  |.bad=>.bad
 |_,_=>.bad
def asD:(t:DTy)->TV D.T->FR (t.S D.T)
 |.st i,.agg cs=>match zbm D (D.fl i) cs with
  |.ok x=>.ok (D.make i x)
  |.frz s=>.frz s
  |.bad=>.bad
 |.st _,_=>.bad
 |t,v=>zlk D t v
def yne(t:DTy):List (TV D.T)->FR (List (t.S D.T))
 |[]=>.ok []
 |v::vs=>match asD D t v with
  |.ok x=>match yne t vs with
   |.ok xs=>.ok (x::xs)
   |.frz s=>.frz s
   |.bad=>.bad
  |.frz s=>.frz s
  |.bad=>.bad
end
section
variable {T:Nat → Type}(P:Program)
def tRd(t:Nat)(cs:List (TV T))(a:Nat):Option (TV T) :=
 match P.underlying t with
 |none=>none
 |some (.struct _)|some (.array _ _)=>if a+P.cellsOf t<=cs.length then some (.agg ((cs.drop a).take (P.cellsOf t)))else none
 |some _=>cs[a]?
def y2s(s f:Nat)(x:TV T):Option (TV T) :=
 match zt6 P s f with
 |none=>none
 |some o=>match x with
  |.ref cs a=>some (.ref cs (a+o))
  |.ptr s a=>some (.ptr s (a+o))
  |.ap s t i x a=>some (.ap s t i x (a+o))
  |.bp s a=>some (.bp s (a+o))
  |.dp s i a=>some (.dp s i (a+o))
  |_=>none
def yte(s f:Nat)(x:TV T):Option (TV T) :=
 match P.underlying s with
 |some (.struct a)=>match a[f]? with
  |some y=>match x with
   |.agg cs=>tRd P y.type cs y.offset
   |_=>none
  |none=>none
 |_=>none
def yc9(i:Nat):TV T->Option (TV T)
 |.tup vs=>vs[i]?
 |_=>none
def tNil:TV T->Option (TV T)
 |.ptr s d=>some (.ptr s d)
 |.ref cs d=>some (.ref cs d)
 |.ap s t i x d=>some (.ap s t i x d)
 |.bp s d=>some (.bp s d)
 |.dp s i d=>some (.dp s i d)
 |.fn f a b=>some (.fn f a b)
 |_=>none
def tUn(op:UnOp)(x:TV T):Option (TV T) :=
 match op,x with
 |.neg,.int k n=>some (.int k (k.wrap (0-n)))
 |.not,.bool b=>some (.bool (!b))
 |.xor,.int k n=>some (.int k (bits .xor k (if k.signed then -1 else k.max) n))
 |_,_=>none
def ydb(s d:Nat)(x:TV T):Option (TV T) :=
 match x with
 |.int _ n=>match P.underlying s,P.underlying d with
  |some _,some (.int k)=>some (.int k (k.wrap n))
  |_,_=>none
 |.str a=>match P.underlying s,P.underlying d with
  |some _,some .string=>some (.str a)
  |_,_=>none
 |_=>none
def zy7(x:TV T)(asserted:Nat)(ok:Bool):Option (TV T) :=
 match P.underlying asserted,x with
 |some (.interface _),_=>none
 |some _,.iface t v=>if t=asserted then some (if ok then .tup [v,.bool true]else v)else none
 |_,_=>none
def ybp(max:Bool):List (TV T)->Option (TV T)
 |[.int k x,.int _ y]=>some (.int k (match max with|true=>mxI x y|false=>mnI x y))
 |[.int k x,.int _ y,.int _ z]=>some (.int k (match max with|true=>mxI (mxI x y) z|false=>mnI (mnI x y) z))
 |_=>none
def zlu(cs:List (TV T))(a:Nat)(xs:List (TV T)):List (TV T):=cs.take a++xs++cs.drop (a+xs.length)
def yla(place:Nat->Option (Nat×Nat))(cells:List (TV T)):List (Nat×TV T)->Option (List (TV T))
 |[]=>some cells
 |(i,x)::rest=>match place i with
  |none=>none
  |some (a,size)=>if x.zzs&&x.cells.length==size&&decide (a+size<=cells.length)then yla place (zlu cells a x.cells) rest else none
def y47(ts:TS T):List (Nat×Operand)->Option (List (Nat×TV T))
 |[]=>some []
 |(i,x)::r=>match ts.ev x,y47 ts r with
  |some v,some vs=>some ((i,v)::vs)
  |_,_=>none
def ykb(t:Nat):Option (TV T):=((P.info? t).bind (·.zero)).map TV.ofC
def ytl(t:Nat)(a:List (Nat×TV T)):Option (TV T) :=
 match ykb (T:=T) P t with
 |some (.agg z)=>match P.underlying t with
  |some (.struct b)=>match y9b P b.toList with
   |some places=>(yla (λi=>places[i]?) z a).map .agg
   |none=>none
  |some (.array _ e)=>if (P.info? e).isSome then (yla (λi=>some (i * P.cellsOf e,P.cellsOf e)) z a).map .agg else none
  |_=>none
 |_=>none
def TV.odd:TV T->Bool
 |.int _ _| .str _| .any=>false
 |_=>true
mutual
def ys8:Nat->Nat->TV T->TV T->Option Bool
 |0,_,_,_=>none
 |d+1,t,x,y=>
  match x,y with
  |.bool a,.bool b=>match P.underlying t with|some .bool=>some (a==b)|_=>none
  |.int k a,.int e b=>match P.underlying t with|some (.int _)=>if k=e then some (a==b)else none|_=>none
  |.str a,.str b=>match P.underlying t with|some .string=>some (a==b)|_=>none
  |.agg xs,.agg ys=>match P.underlying t with|some (.struct h)=>if P.stoodInHeld t then none else yce d h.toList xs ys|_=>none
  |.nilp,.nilp=>match P.underlying t with|some (.pointer _)=>some true|_=>none
  |.nilp,.ptr _ _| .nilp,.ref _ _=>match P.underlying t with|some (.pointer _)=>some false|_=>none
  |.ptr _ _,.nilp| .ref _ _,.nilp=>match P.underlying t with|some (.pointer _)=>some false|_=>none
  |.mapn,.mapn=>match P.underlying t with|some (.map _ _)=>some true|_=>none
  |.nilf,.nilf=>match P.underlying t with|some (.func ..)=>some true|_=>none
  |.nilf,.fn _ _ _| .fn _ _ _,.nilf=>match P.underlying t with|some (.func ..)=>some false|_=>none
  |.nili,.iface _ _| .iface _ _,.nili=>match P.underlying t with|some (.interface _)=>some false|_=>none
  |_,_=>none
def yce:Nat->List Field->List (TV T)->List (TV T)->Option Bool
 |0,_,_,_=>none
 |_,[],_,_=>some true
 |d+1,f::e,xs,ys=>
  if f.name = "_" then yce d e xs ys else
  match tRd P f.type xs f.offset,tRd P f.type ys f.offset with
  |some a,some b=>match ys8 d f.type a b,yce d e xs ys with
   |some r,some s=>some (r&&s)
   |_,_=>none
  |_,_=>none
end
def y60(t:Nat)(x y:TV T):Bool :=
 match x,y with
 |.agg _,.agg _ => !P.eqGuardType P.depth t
 |.nili,.nili=>false
 |.any,_|_,.any=>false
 |_,_=>true
def shl(k:IntKind)(a b:Int):Option Int:=if b<0 then none else some (k.wrap (a * 2 ^ (min b.toNat k.bits)))
def shr(k:IntKind)(a b:Int):Option Int:=if b<0 then none else some (a.fdiv (2 ^ (min b.toNat k.bits)))
def tBin{R:Type}(op:BinOp)(t:Nat)(x y:TV T)(k:TV T->Option R):Option R :=
 match x,y with
 |.int i a,.int d b=>match op with
  |.shl=>z9w (shl i a b) λz=>k (.int i z)
  |.shr=>z9w (shr i a b) λz=>k (.int i z)
  |_=>if i=d then (match op with
   |.add=>k (.int i (i.wrap (a+b)))
   |.sub=>k (.int i (i.wrap (a-b)))
   |.mul=>k (.int i (i.wrap (a * b)))
   |.quo=>z9w (quo i a b) λz=>k (.int i z)
   |.rem=>z9w (rem i a b) λz=>k (.int i z)
   |.eql=>k (.bool (a==b))
   |.neq=>k (.bool (a != b))
   |.lss=>k (.bool (decide (a<b)))
   |.leq=>k (.bool (decide (a<=b)))
   |.gtr=>k (.bool (decide (a>b)))
   |.geq=>k (.bool (decide (a>=b)))
   |.and=>k (.int i (bits .and i a b))
   |.or=>k (.int i (bits .or i a b))
   |.xor=>k (.int i (bits .xor i a b))
   |.andNot=>k (.int i (bits .andNot i a b))
   |_=>none)else none
 |.str a,.str b=>match op with
  |.add=>z9w (cat a b) λz=>k (.str z)
  |.eql=>k (.bool (a==b))
  |.neq=>k (.bool (!(a==b)))
  |.lss=>k (.bool (Op.bytesLess a b))
  |.leq=>k (.bool (Op.bytesLess a b||a==b))
  |.gtr=>k (.bool (!(Op.bytesLess a b||a==b)))
  |.geq=>k (.bool (!Op.bytesLess a b))
  |_=>none
 |x,y=>match op with
  |.eql=>if x.odd&&y60 P t x y then (match ys8 P 24 t x y with|some r=>k (.bool r)|none=>none)else none
  |.neq=>if x.odd&&y60 P t x y then (match ys8 P 24 t x y with|some r=>k (.bool (!r))|none=>none)else none
  |_=>none
end
section
variable (P:Program)(D:Dat)
def yoz{T:Nat->Type}:Option Nat->TV T
 |none=>.nils
 |some s=>.own s
def yt5(s:B8):List Int:=s.map λb=>((b.toNat:Nat):Int)
def yt3:List Int->Option B8
 |[]=>some []
 |x::r=>match x,yt3 r with
  |.ofNat m,some s=>match Nat.ble m 255 with
   |true=>some (m.toUInt8::s)
   |false=>none
  |_,_=>none
def ywd(ts:TS D.T)(t:Nat):TV D.T->Option (TV D.T)
 |.ref cs a=>tRd P t cs a
 |.ptr s a=>match fnd ts.o s with
  |some (.cells cs)=>tRd P t cs a
  |_=>none
 |.ap s τ i x a=>match fnd ts.o s with
  |some (.acc _ _ _ _)=>tRd P t (D.tv τ x).cells a
  |_=>none
 |.bp s a=>match fnd ts.o s with
  |some (.bld _ b)=>tRd P t [.any,yoz b] a
  |_=>none
 |_=>none
def y1p(q:Nat):(l:List DTy)->HL D.T l->Nat->List (TV D.T)
 |[],_,_=>[]
 |t::l,x,f=>(match D.ow q f with
  |none=>D.leaf t x.1
  |some _=>.any)::y1p q l x.2 (f+1)
def z017(q a:Nat):Nat->List Nat
 |0=>[]
 |n+1=>match D.ow q a with
  |some _=>a::z017 q (a+1) n
  |none=>z017 q (a+1) n
def szT(t:Nat):Nat:=match P.underlying t with
 |some (.struct _)|some (.array _ _)=>P.cellsOf t
 |_=>1
def setO{α:Type}(cs:List α):Option (Nat×α)->List α
 |none=>cs
 |some (f,v)=>cs.set f v
def zyl{R:Type}(ts:TS D.T)(t:Nat)(s:Nat)(i:Int)(a:Nat)(set:Option (Nat×TV D.T))(k:TV D.T->Option R):Option R :=
 match fnd ts.o s with
 |some (.deep _ q xs _)=>z9w (ix xs i) λy=>(match tRd P t (setO (y1p D q (D.fl q) (D.get q y) 0) set) a with
  |some v=>k v
  |none=>none)
 |_=>none
def yl4(n i:Int):Option Unit:=if n=i then some ()else none
def yu9{R:Type}(ts:TS D.T)(t:Nat)(s:Nat)(i:Int)(a:Nat)(k:TV D.T->Option R):Option R :=
 match fnd ts.o s with
 |some (.deep _ _ _ (some p))=>(match Nat.beq p.2.1 a with
  |true=>z9w (yl4 p.1 i) λ_=>zyl P D ts t s i a (some (a,.own p.2.2)) k
  |false=>zyl P D ts t s i a none k)
 |_=>zyl P D ts t s i a none k
def tLen(ts:TS D.T)(t:Nat)(x:TV D.T):Option (TV D.T) :=
 match x with
 |.str s=>match P.underlying t with|some .string=>some (.int .i64 s.length)|_=>none
 |.nils=>match P.underlying t with|some (.slice _)=>some (.int .i64 0)|_=>none
 |.sl _ xs _=>match P.underlying t with|some (.slice _)=>some (.int .i64 xs.length)|_=>none
 |.own s=>match P.underlying t,fnd ts.o s with
  |some (.slice _),some (.acc _ _ xs _)=>some (.int .i64 xs.length)
  |some (.slice _),some (.deep _ _ xs _)=>some (.int .i64 xs.length)
  |_,_=>none
 |.agg _=>match P.underlying t with|some (.array n _)=>some (.int .i64 n)|_=>none
 |.map s=>match P.underlying t,fnd ts.o s with
  |some (.map _ _),some (.mp _ _ es)=>some (.int .i64 es.length)
  |_,_=>none
 |_=>none
def z037:(t:DTy)->TV D.T->Option (t.S D.T×Option Nat)
 |.sl _,.nils=>some ([],none)
 |.sl _,.own c=>some ([],some c)
 |_,_=>none
def ycw(q:Nat):(l:List DTy)->List (TV D.T)->Nat->FR (HL D.T l×Option (Nat×Nat))
 |[],[],_=>.ok ((),none)
 |t::l,v::vs,f=>(match D.ow q f with
  |none=>(match zlk D t v with
   |.ok x=>(match ycw q l vs (f+1)with
    |.ok r=>.ok ((x,r.1),r.2)
    |.frz s=>.frz s
    |.bad=>.bad)
   |.frz s=>.frz s
   |.bad=>.bad)
  |some _=>(match ycw q l vs (f+1)with
   |.ok r=>(match z037 D t v with
    |some (x,none)=>.ok ((x,r.1),r.2)
    |some (x,some c)=>(match r.2 with
     |none=>.ok ((x,r.1),some (f,c))
     |some _=>.bad)
    |none=>.bad)
   |.frz s=>.frz s
   |.bad=>.bad))
 |_,_,_=>.bad
def zmi(t len:Nat)(a:List (Nat×TV D.T)):FR (TV D.T) :=
 match P.underlying t with
 |some (.slice e)=>match zeroV P e,D.ty e with
  |some z,some τ=>
   if z.zzs&&z.cells.length==P.cellsOf e&&decide (0<P.cellsOf e)&&(P.info? e).isSome&&a.length==len&&(a.map (·.1)==List.range len)&&a.all (λp=>p.2.zzs&&p.2.cells.length==P.cellsOf e)&&decide (len * P.cellsOf e<=2 ^ 24)&&D.len τ==P.cellsOf e then
    (match yne D τ (a.map (·.2))with
    |.ok xs=>.ok (.sl τ xs (if len=0 then 2 else 1))
    |.frz s=>(match τ,a with
     |.st q,[(0,.agg cells)]=>(match ycw D q (D.fl q) cells 0 with
      |.ok _=>.ok (.bsl q [.agg cells])
      |.frz b=>.frz b
      |.bad=>.frz s)
     |_,_=>.frz s)
    |.bad=>.bad)
   else .bad
  |_,_=>.bad
 |_=>.bad
def z04w(ts:TS D.T):TV D.T->Option Nat
 |.own k=>(match fnd ts.o k with
  |some (.acc _ (.st q) _ _)=>if D.owns q=true then some k else none
  |_=>none)
 |_=>none
def ytu(ts:TS D.T):List (TV D.T)->Option Nat
 |[]=>none
 |v::l=>match z04w D ts v with
  |some k=>some k
  |none=>ytu ts l
def ymy(ts:TS D.T)(r:FR (TV D.T)):FR (TV D.T):=match r with
 |.ok (.bsl q [.agg cells])=>(match ytu D ts cells with
  |some k=>.frz k
  |none=>.ok (.bsl q [.agg cells]))
 |r=>r
def yvp{ts:TS D.T}{r:FR (TV D.T)}{x:TV D.T}(h:ymy D ts r = .ok x):r = .ok x:=by
 unfold ymy at h;split at h
 ·split at h
  ·cases h
  ·exact h
 ·exact h
def tMk(t:Nat)(n c:Int):FR (TV D.T) :=
 match n,c with
 |.ofNat n,.ofNat c=>(match P.underlying t with
  |some (.slice e)=>(match P.info? e,ykb (T:=D.T) P e,D.ty e with
   |some i,some z,some τ=>(match z.zzs&&Nat.beq z.cells.length i.size&&Nat.blt 0 i.size&&Nat.ble n c&&Nat.ble c 1000000&&Nat.ble i.bytes 100000&&Nat.beq (D.len τ) i.size with
    |true=>(match asD D τ z with
     |.ok x=>.ok (.sl τ (List.replicate n x) 0)
     |.frz s=>.frz s
     |.bad=>.bad)
    |false=>.bad)
   |_,_,_=>.bad)
  |_=>.bad)
 |_,_=>.bad
def tP1(ts:TS D.T)(op:Op):FR (TV D.T) :=
 match op with
 |.move x=>.of (ts.ev x)
 |.assign x=>.of (ts.ev x)
 |.load t a=>match ts.ev a with|some a=>.of (ywd P D ts t a)|none=>.bad
 |.nilCheck x=>match ts.ev x with|some x=>.of (tNil x)|none=>.bad
 |.unOp o _ x=>match ts.ev x with|some x=>.of (tUn o x)|none=>.bad
 |.convert s d x=>match ts.ev x with|some x=>.of (ydb P s d x)|none=>.bad
 |.makeInterface t x=>match ts.ev x with|some x=>if P.concrete t then .ok (.iface t x)else .bad|none=>.bad
 |.makeFunc (.func f) first h=>match ts.evs first.toList,ts.evs h.toList with
  |some a,some b=>.ok (.fn f a b)
  |_,_=>.bad
 |.fieldAddr s x f=>match ts.ev x with|some x=>.of (y2s P s f x)|none=>.bad
 |.field s x f=>match ts.ev x with|some x=>.of (yte P s f x)|none=>.bad
 |.typeAssert x _ u ok=>match ts.ev x with|some x=>.of (zy7 P x u ok)|none=>.bad
 |.extract x i=>match ts.ev x with|some x=>.of (yc9 i x)|none=>.bad
 |.build t e=>match y47 ts e.toList with|some e=>.of (ytl P t e)|none=>.bad
 |.buildSlice t len e=>match y47 ts e.toList with|some e=>ymy D ts (zmi P D t len e)|none=>.bad
 |.makeSlice t n c=>match ts.ev n,ts.ev c with
  |some (.int _ n),some (.int _ c)=>tMk P D t n c
  |_,_=>.bad
 |.call c=>match c.callee with
  |.builtin .len=>match c.args.toList,c.argTypes.toList with
   |[x],[t]=>match ts.ev x with|some x=>.of (tLen P D ts t x)|none=>.bad
   |_,_=>.bad
  |.builtin .min=>match ts.evs c.args.toList with|some l=>.of (ybp false l)|none=>.bad
  |.builtin .max=>match ts.evs c.args.toList with|some l=>.of (ybp true l)|none=>.bad
  |_=>.bad
 |_=>.bad
def y4g{R:Type}:Nat->Int->(Nat->Option R)->Option R
 |0,_,_=>none
 |1,_,f=>f 0
 |m+2,n,f=>pIf (n==Int.ofNat (m+1)) (f (m+1)) (y4g (m+1) n f)
def inR(len:Nat)(n:Int):Option Unit:=if 0<=n∧n<(len:Int)then some ()else none
def strB(P:Program)(e:Nat):Bool:=match P.underlying e with
 |some .string=>true
 |_=>false
def ybn{T:Nat->Type}{R:Type}(P:Program)(len e:Nat)(x:TV T)(k:TV T->Option R)(n:Nat):Option R :=
 if n<len∧(P.underlying e).isSome then (match x with
  |.ref cs a=>k (.ref cs (a+n * P.cellsOf e))
  |.ptr s a=>k (.ptr s (a+n * P.cellsOf e))
  |.ap s t i x a=>k (.ap s t i x (a+n * P.cellsOf e))
  |_=>none)else none
def y2w{R:Type}(ts:TS D.T)(t:Nat)(x i:TV D.T)(k:TV D.T->Option R):Option R :=
 match i with
 |.int _ n=>match P.underlying t with
  |some (.slice e)=>if (P.underlying e).isSome then (match x with
   |.sl τ xs _=>if D.len τ=P.cellsOf e then z9w (ix xs n) λy=>k (.ref (D.tv τ y).cells 0)else none
   |.own s=>match fnd ts.o s with
    |some (.acc _ τ xs _)=>if D.len τ=P.cellsOf e then z9w (ix xs n) λy=>k (.ap s τ n y 0)else none
    |some (.deep _ q xs _)=>if D.len (.st q)=P.cellsOf e then z9w (ix xs n) λ_=>k (.dp s n 0)else none
    |_=>none
   |_=>none)else none
  |some (.array len e)=>match strB P e with
   |true=>z9w (inR len n) λ_=>y4g len n (ybn P len e x k)
   |false=>(match n with
    |.ofNat n=>ybn P len e x k n
    |_=>none)
  |_=>none
 |_=>none
def yui{R:Type}(t:Nat)(x i:TV D.T)(k:TV D.T->Option R):Option R :=
 match i with
 |.int _ n=>match x with
  |.str s=>match P.underlying t with
   |some .string=>z9w (ix s n) λb=>k (.int .u8 b.toNat)
   |_=>none
  |.agg cs=>match P.underlying t with
   |some (.array len e)=>match D.ty e with
    |some τ=>if cs.length=len∧P.cellsOf e=1∧(P.underlying e).isSome∧(P.underlying e).any (λd => !TypeDesc.isAgg d)then (match zbm D (List.replicate cs.length τ) cs with
     |.ok _=>match yne D τ cs with
      |.ok xs=>z9w (ix xs n) λy=>k (D.leaf τ y)
      |_=>none
     |_=>none)else none
    |none=>none
   |_=>none
  |_=>none
 |_=>none
def ynf(d:Int):Option (TV D.T)->Option Int
 |none=>some d
 |some (.int _ x)=>some x
 |_=>none
def yu6{R:Type}(t:Nat)(x:TV D.T)(b a:Option (TV D.T))(k:TV D.T->Option R)(d:Nat->Option R):Option R :=
 match x with
 |.str s=>match P.underlying t with
  |some .string=>match ynf D 0 b,ynf D s.length a with
   |some l,some h=>z9w (sub s l h) λy=>k (.str y)
   |_,_=>none
  |_=>none
 |.sl τ xs i=>match P.underlying t with
  |some (.slice e)=>if D.len τ=P.cellsOf e∧(P.underlying e).isSome then (match ynf D 0 b,ynf D xs.length a with
    |some l,some h=>z9w (sub xs l h) λy=>k (.sl τ y (match a with|none=>min i 1|some _=>0))
    |_,_=>none)else none
  |_=>none
 |.own s=>d s
 |_=>none
def oev(ts:TS D.T):Option Operand->Option (Option (TV D.T))
 |none=>some none
 |some x=>(ts.ev x).map some
def yqn{α:Type}(xs:List α)(a:Int):Option Unit:=if 0<=a∧a<=xs.length∧0<xs.length then some ()else none
def tCut{R:Type}(ts:TS D.T)(t:Nat)(x b:TV D.T)(k:TV D.T->Option R)(d:Option R):Option R :=
 match x,b with
 |.own s,.int .i64 a=>match P.underlying t,fnd ts.o s with
  |some (.slice e),some (.acc _ τ xs true)=>if D.len τ=P.cellsOf e∧(P.underlying e).isSome then z9w (yqn xs a) λ_=>k (.osl s a)else none
  |_,_=>none
 |_,_=>d
def yn5{R:Type}(ts:TS D.T)(t:Nat)(x a:TV D.T)(ok:Bool)(k:TV D.T->Option R):Option R :=
 match P.underlying t,a with
 |some (.map d e),.str s=>match P.underlying d,ykb (T:=D.T) P e with
  |some .string,some z=>match x with
   |.map q=>match fnd ts.o q with
    |some (.mp _ τ es)=>match asD D τ z with
     |.ok b=>(match ok with
      |true=>k (.tup [D.tv τ ((z2u es s).getD b),.bool (z2u es s).isSome])
      |false=>k (D.tv τ ((z2u es s).getD b)))
     |_=>none
    |_=>none
   |_=>none
  |_,_=>none
 |_,_=>none
def tP{R:Type}(ts:TS D.T)(op:Op)(k:TV D.T->Option R)(e:Nat->Option R):Option R :=
 match op with
 |.pick c a b=>match ts.ev c,ts.ev a,ts.ev b with
  |some (.bool t),some x,some y=>pIf t (k x) (k y)
  |_,_,_=>none
 |.binOp o t x y _=>match ts.ev x,ts.ev y with
  |some x,some y=>tBin P o t x y k
  |_,_=>none
 |.indexAddr t x i=>match ts.ev x,ts.ev i with
  |some x,some i=>y2w P D ts t x i k
  |_,_=>none
 |.index t x i=>match ts.ev x,ts.ev i with
  |some x,some i=>yui P D t x i k
  |_,_=>none
 |.lookup t x i ok=>match ts.ev x,ts.ev i with
  |some x,some i=>yn5 P D ts t x i ok k
  |_,_=>none
 |.slice t x d h l=>match ts.ev x,oev D ts d,oev D ts h,l with
  |some x,some d,some h,none=>yu6 P D t x d h k e
  |_,_,_,_=>none
 |.load t a=>match ts.ev a with
  |some (.dp s i j)=>yu9 P D ts t s i j k
  |_=>(match tP1 P D ts (.load t a)with
   |.ok v=>k v
   |.frz s=>e s
   |.bad=>none)
 |op=>match tP1 P D ts op with
  |.ok v=>k v
  |.frz s=>e s
  |.bad=>none
mutual
def TV.ren(s a:Nat):TV D.T->TV D.T
 |.own j=>if j=s then .own a else .own j
 |.dp j i b=>if j=s then .dp a i b else .dp j i b
 |.agg cs=>.agg (TV.zy1 s a cs)
 |.tup cs=>.tup (TV.zy1 s a cs)
 |.bsl i cs=>.bsl i (TV.zy1 s a cs)
 |v=>v
def TV.zy1(s a:Nat):List (TV D.T)->List (TV D.T)
 |[]=>[]
 |v::vs=>TV.ren s a v::TV.zy1 s a vs
end
mutual
def TV.frz(s:Nat)(m:Bool)(z:TV D.T):TV D.T->TV D.T
 |.own j=>match m with
  |true=>.own j
  |false=>if j=s then z else .own j
 |.map j=>match m with
  |true=>if j=s then z else .map j
  |false=>.map j
 |.agg cs=>.agg (TV.yr8 s m z cs)
 |.tup cs=>.tup (TV.yr8 s m z cs)
 |.bsl _ _=>.any
 |v=>v
def TV.yr8(s:Nat)(m:Bool)(z:TV D.T):List (TV D.T)->List (TV D.T)
 |[]=>[]
 |v::vs=>TV.frz s m z v::TV.yr8 s m z vs
end
def TO.map(f:TV D.T->TV D.T):TO D.T->TO D.T
 |.cells cs=>.cells (cs.map f)
 |.bld ty (some s)=>match f (.own s)with
  |.own a=>.bld ty (some a)
  |_=>.gone
 |.deep ty i xs (some (n,c,s))=>match f (.own s)with
  |.own a=>.deep ty i xs (some (n,c,a))
  |_=>.gone
 |o=>o
def gmap(f:TV D.T->TV D.T):Option Nat->Option Nat
 |none=>none
 |some s=>match f (.own s)with
  |.own a=>some a
  |_=>none
def TS.ze5(ts:TS D.T)(f:TV D.T->TV D.T):TS D.T :=
 {ts with t:=ts.t.map λp=>(p.1,f p.2),o:=ts.o.map λp=>(p.1,TO.map D f p.2),d:=ts.d.map λp=>(p.1,p.2.map f),g:=ts.g.map (gmap D f)}
def TS.freeze(ts:TS D.T)(s:Nat):Option (TS D.T) :=
 match ts.d,fnd ts.o s with
 |[],some (.acc _ t xs _)=>let a:=ts.ze5 D (TV.frz D s false (.sl t xs 0));some {a with o:=(s,.gone)::a.o}
 |[],some (.deep _ q xs none)=>let a:=ts.ze5 D (TV.frz D s false (.sl (.st q) xs 0));some {a with o:=(s,.gone)::a.o}
 |[],some (.mp _ t es)=>if t.flat then (let a:=ts.ze5 D (TV.frz D s true (.mc t es));some {a with o:=(s,.gone)::a.o})else none
 |_,_=>none
def TS.put(ts:TS D.T)(a:Option Nat)(v:TV D.T):Option (TS D.T) :=
 match a with
 |none=>some ts
 |some d=>if d<ts.nt then some {ts with t:=(d,v)::ts.t}else none
def TS.new(ts:TS D.T)(o:TO D.T):TS D.T:={ts with o:=(ts.nx,o)::ts.o,nx:=ts.nx+1}
def TS.set(ts:TS D.T)(s:Nat)(o:TO D.T):TS D.T:={ts with o:=(s,o)::ts.o}
def TS.y8c(ts:TS D.T)(s:Nat)(o:TO D.T):TS D.T:=((ts.new D o).set D s .gone).ze5 D (TV.ren D s ts.nx)
def ynk{R:Type}(ts:TS D.T)(ty q:Nat)(xs:List (D.T q))(h:Option (Int×Nat×Nat))(s:Nat)(i:Int)(a:Nat)(x:TV D.T)(k:TV D.T->TS D.T->Option R)(b:Nat->Option R):Option R :=
 match x with
 |.own c=>(match D.ow q a,Nat.blt a (D.fl q).length with
  |some _,true=>(match h with
   |none=>z9w (ix xs i) λ_=>k .any (ts.y8c D s (.deep ty q xs (some (i,a,c))))
   |some p=>(match Nat.beq p.2.1 a with
    |true=>z9w (yl4 p.1 i) λ_=>z9w (ix xs i) λ_=>k .any (ts.y8c D s (.deep ty q xs (some (i,a,c))))
    |false=>b s))
  |_,_=>none)
 |.agg cells=>(match a with
  |0=>(match h with
   |none=>(match ycw D q (D.fl q) cells 0 with
    |.ok r=>z9w (ix xs i) λ_=>k .any (ts.y8c D s (.deep ty q (xs.set i.toNat (D.make q r.1)) (r.2.map λp=>(i,p.1,p.2))))
    |.frz d=>b d
    |.bad=>none)
   |some _=>b s)
  |_=>none)
 |_=>none
def yc4{R:Type}(ts:TS D.T)(t:Nat)(a x:TV D.T)(k:TV D.T->TS D.T->Option R)(j:Nat->Option R):Option R :=
 if x.zzs&&(P.info? t).isSome&&x.cells.length==P.cellsOf t then
  match a with
  |.ptr s d=>match fnd ts.o s with
   |some (.cells cs)=>if d+x.cells.length<=cs.length then k .any (ts.set D s (.cells (zlu cs d x.cells)))else none
   |_=>none
  |.ap s τ i y d=>match fnd ts.o s with
   |some (.acc ty e xs true)=>if τ=e∧τ ≠ .nat∧d+x.cells.length<=(D.tv τ y).cells.length then
     (match asD D e (match D.tv τ y with| .agg cs=>.agg (zlu cs d x.cells)|_=>x)with
     |.ok z=>let l:=(ts.ze5 D (TV.ren D s ts.nx)).new D (.acc ty e (xs.set i.toNat z) true);k .any (l.set D s .gone)
     |.frz s=>j s
     |.bad=>none)else none
   |_=>none
  |.dp s i d=>match fnd ts.o s with
   |some (.deep ty q xs h)=>if (List.range x.cells.length).all (λa=>(D.ow q (d+a)).isNone)=true∧d+x.cells.length<=(D.fl q).length then
     z9w (ix xs i) λy=>(match zbm D (D.fl q) (zlu (D.leaves (D.fl q) (D.get q y)) d x.cells)with
      |.ok z=>k .any (((ts.new D (.deep ty q (xs.set i.toNat (D.make q z)) h)).set D s .gone).ze5 D (TV.ren D s ts.nx))
      |.frz m=>j m
      |.bad=>none)else ynk D ts ty q xs h s i d x k j
   |_=>none
  |.bp s 1=>match fnd ts.o s,x with
   |some (.bld ty b),.own q=>k .any (ts.set D s (.bld ty (some q)))
   |_,_=>none
  |_=>none
 else none
def tSrc(ts:TS D.T)(τ:DTy):TV D.T->Option (List (τ.S D.T))
 |.nils=>some []
 |.sl t xs _=>zfd t τ xs
 |.own s=>match fnd ts.o s with
  |some (.acc _ t xs _)=>zfd t τ xs
  |_=>none
 |.str s=>match τ with
  |.int .u8=>some (yt5 s)
  |_=>none
 |_=>none
def tDst(ts:TS D.T)(e:Nat)(τ:DTy):TV D.T->Option (List (τ.S D.T)×Bool×Option Nat)
 |.nils=>some ([],true,none)
 |.sl t xs 1=>if τ = .int .u8 then none else (zfd t τ xs).map λxs=>(xs,false,none)
 |.sl t xs 2=>if τ = .int .u8 then none else (zfd t τ xs).map λxs=>(xs,true,none)
 |.own s=>match fnd ts.o s with
  |some (.acc a t xs w)=>if a=e then (zfd t τ xs).map λxs=>(xs,w,some s)else none
  |_=>none
 |_=>none
def yp1{R:Type}(ts:TS D.T)(t u:Nat)(s x:TV D.T)(k:TV D.T->TS D.T->Option R):Option R :=
 match P.underlying t,P.underlying u with
 |some (.slice e),some b=>
  match P.info? e,D.ty e with
  |some i,some τ=>
   match i.zero with
   |some z=>if zyr b&&decide (0<i.size)&&decide (i.bytes<=524288)&&z.cells.size==i.size&&D.len τ==i.size then
     (match tSrc D ts τ x,tDst D ts e τ s with
     |some ys,some (xs,w,a)=>z9w (ext xs ys) λzs=>
      k (.own ts.nx) (match a with|none=>ts.new D (.acc e τ zs w)|some s=>(ts.new D (.acc e τ zs w)).set D s .gone)
     |_,_=>none)else none
   |none=>none
  |_,_=>none
 |_,_=>none
def ydd{R:Type}(ts:TS D.T)(t u:Nat)(s:TV D.T)(q:Nat)(cells:List (TV D.T))(k:TV D.T->TS D.T->Option R)(a:Nat->Option R):Option R :=
 match P.underlying t,P.underlying u with
 |some (.slice e),some l=>
  match P.info? e with
  |some i=>
   match i.zero with
   |some z=>if zyr l&&decide (0<i.size)&&decide (i.bytes<=524288)&&z.cells.size==i.size&&D.len (.st q)==i.size then
     (match ycw D q (D.fl q) cells 0 with
     |.ok r=>(match s with
      |.nils=>z9w (ext [] [D.make q r.1]) λzs=>k (.own ts.nx) (ts.new D (.deep e q zs (r.2.map λp=>(0,p.1,p.2))))
      |.own s=>(match fnd ts.o s with
       |some (.deep j d xs h)=>if j=e then (match h with
        |none=>(match zfd (.st d) (.st q) xs with
         |some xs=>z9w (ext xs [D.make q r.1]) λzs=>k (.own ts.nx) ((ts.new D (.deep e q zs (r.2.map λp=>((xs.length:Int),p.1,p.2)))).set D s .gone)
         |none=>none)
        |some _=>a s)else none
       |_=>none)
      |_=>none)
     |.frz b=>a b
     |.bad=>none)else none
   |none=>none
  |none=>none
 |_,_=>none
def z008{R:Type}(ts:TS D.T)(t:Nat)(d s:TV D.T)(k:TV D.T->TS D.T->Option R):Option R :=
 match d,s with
 |.osl s a,.osl h b=>if s=h then (match P.underlying t,fnd ts.o s with
  |some (.slice e),some (.acc ty τ xs true)=>if D.len τ=P.cellsOf e∧(P.info? e).isSome then
    z9w (y3p xs a b) λys=>k .any (((ts.ze5 D (TV.ren D s ts.nx)).new D (.acc ty τ ys true)).set D s .gone)else none
  |_,_=>none)else none
 |_,_=>none
def yew{R:Type}(ts:TS D.T)(t:Nat)(r:Option (TV D.T))(k:TV D.T->TS D.T->Option R):Option R :=
 match P.underlying t with
 |some (.map _ e)=>match D.ty e,r with
  |some τ,none=>k (.map ts.nx) (ts.new D (.mp t τ []))
  |some τ,some (.int _ _)=>k (.map ts.nx) (ts.new D (.mp t τ []))
  |_,_=>none
 |_=>none
def ybs{R:Type}(ts:TS D.T)(t:Nat)(m a x:TV D.T)(k:TV D.T->TS D.T->Option R):Option R :=
 match P.underlying t,m,a with
 |some (.map b _),.map q,.str s=>match P.underlying b,fnd ts.o q with
  |some .string,some (.mp ty τ es)=>match asD D τ x with
   |.ok y=>k .any (ts.set D q (.mp ty τ (z6n es s y)))
   |_=>none
  |_,_=>none
 |_,_,_=>none
def z01i{R:Type}(ts:TS D.T)(x:TV D.T)(str:Bool)(k:TV D.T->TS D.T->Option R):Option R :=
 match x,str with
 |.ptr s 0,true=>match fnd ts.o s with
  |some (.siter l a)=>pIf (decide (a<l.length)) (k (.tup [.bool true,.int .i64 a,.int .i32 (zi0 l a).1]) (ts.set D s (.siter l (a+(zi0 l a).2)))) (k (.tup [.bool false]) ts)
  |_=>none
 |_,_=>none
def tOp{R:Type}(ts:TS D.T)(op:Op)(k:TV D.T->TS D.T->Option R)(e:Nat->Option R):Option R :=
 match op with
 |.alloc t=>match ykb (T:=D.T) P t with
  |some z=>if z.zzs then k (.ptr ts.nx 0) (ts.new D (.cells z.cells))else none
  |none=>none
 |.box _ x=>match ts.ev x with
  |some v=>if v.zzs then k (.ptr ts.nx 0) (ts.new D (.cells v.cells))else none
  |none=>none
 |.store t a x=>match ts.ev a,ts.ev x with
  |some a,some x=>yc4 P D ts t a x k e
  |_,_=>none
 |.makeMap t r=>match oev D ts r with
  |some r=>yew P D ts t r k
  |none=>none
 |.mapUpdate t m i x=>match ts.ev m,ts.ev i,ts.ev x with
  |some m,some i,some x=>ybs P D ts t m i x k
  |_,_,_=>none
 |.insert t m i x=>match ts.ev m,ts.ev i,ts.ev x with
  |some m,some i,some x=>ybs P D ts t m i x k
  |_,_,_=>none
 |.range t x=>match ts.ev x with
  |some (.str s)=>match P.underlying t with
   |some .string=>k (.ptr ts.nx 0) (ts.new D (.siter s 0))
   |_=>none
  |_=>none
 |.next i b=>match ts.ev i with
  |some i=>z01i D ts i b k
  |none=>none
 |op=>match op with
  |.call c=>match c.callee,c.args.toList,c.argTypes.toList with
   |.builtin .append,[s,x],[t,u]=>match ts.ev s,ts.ev x with
    |some s,some (.bsl q [.agg cells])=>ydd P D ts t u s q cells k e
    |some s,some x=>yp1 P D ts t u s x k
    |_,_=>none
   |.builtin .copy,[d,s],[t,u]=>match ts.ev d,ts.ev s with
    |some d,some s=>z008 P D ts t d s k
    |_,_=>none
   |_,_,_=>tP P D ts op (λv=>k v ts) e
  |op=>tP P D ts op (λv=>k v ts) e
end
inductive Sh where
 |any
 |d (t:DTy)
 |own (k:Nat)
 |ptr (k off:Nat)
 |bp (k:Nat)
 |map (k:Nat)
 |mc (t:DTy)
 |nilp
 |nilf
 |nili
 |nils
 |fn (f:Nat) (a b:List Sh)
 |iface (t:Nat) (s:Sh)
 |agg (cs:List Sh)
 |tup (cs:List Sh)
 |ref (cs:List Sh) (off:Nat)
 |dp (k off:Nat)
 |ap (k:Nat) (t:DTy) (off:Nat)
inductive OSh where
 |cells (cs:List Sh)
 |st (i:Nat)
 |acc (ty:Nat) (t:DTy) (w:Bool)
 |siter
 |mp (ty:Nat) (t:DTy)
 |mit (t:DTy)
 |bld (ty k:Nat)
 |deep (ty i:Nat)
 |deeph (ty i f k:Nat)
mutual
def Sh.tys:Sh->List DTy
 |.d t=>[t]
 |.mc t=>[.sl .str,.sl t]
 |.fn _ a b=>Sh.z4d a++Sh.z4d b
 |.iface _ s=>s.tys
 |.agg cs=>Sh.z4d cs
 |.tup cs=>Sh.z4d cs
 |.ref cs _=>Sh.z4d cs
 |.dp _ _=>[.int .i64]
 |.ap _ t _=>[.int .i64,t]
 |_=>[]
def Sh.z4d:List Sh->List DTy
 |[]=>[]
 |s::l=>s.tys++Sh.z4d l
end
end Go.Ab
namespace Go.Ab
open Go
def HL.upd{T:Nat->Type}:(l:List DTy)->HL T l->Nat->(t:DTy)->t.S T->Option (HL T l)
 |[],_,_,_,_=>none
 |t::_,x,0,a,y=>(y4k a t y).map λy=>(y,x.2)
 |_::l,x,j+1,a,y=>(HL.upd l x.2 j a y).map λz=>(x.1,z)
def HL.at{T:Nat->Type}:(l:List DTy)->HL T l->Nat->Option ((t:DTy)×t.S T)
 |[],_,_=>none
 |t::_,x,0=>some ⟨t,x.1⟩
 |_::l,x,j+1=>HL.at l x.2 j
section
variable {D:Dat}
def ymn{T:Nat->Type}:List (TO T)->Nat->List (Nat×TO T)
 |[],_=>[]
 |o::r,n=>(n,o)::ymn r (n+1)
def y5s{T:Nat->Type}(l:List Nat):List (Nat×TO T):=l.map λs=>(s,.gone)
def TS.zhk(ts:TS D.T)(b:List Nat)(a:List (TO D.T)):TS D.T :=
 {ts with o:=ymn a ts.nx++(y5s b++ts.o),nx:=ts.nx+a.length}
variable (D)
def Dat.zrn:DTy->Bool
 |.st q => !D.owns q
 |_=>true
def TS.fold{R:Type}(ts:TS D.T)(s:Nat)(k:TS D.T->Option R):Option R :=
 match fnd ts.o s with
 |some (.deep ty q xs (some (n,f,c)))=>(match D.ow q f with
  |some b=>(match fnd ts.o c with
   |some (.deep a e ys none)=>if b=a∧c≠s then z9w (ix xs n) λy=>(match HL.upd (D.fl q) (D.get q y) f (.sl (.st e)) ys with
     |some z=>k ((ts.zhk [s,c] [.deep ty q (xs.set n.toNat (D.make q z)) none]).ze5 D (TV.ren D s ts.nx))
     |none=>none)else none
   |some (.acc a d ys true)=>if b=a∧c≠s∧D.zrn d=true then z9w (ix xs n) λy=>(match HL.upd (D.fl q) (D.get q y) f (.sl d) ys with
     |some z=>k ((ts.zhk [s,c] [.deep ty q (xs.set n.toNat (D.make q z)) none]).ze5 D (TV.ren D s ts.nx))
     |none=>none)else none
   |_=>none)
  |none=>none)
 |_=>none
def TS.opn{R:Type}(ts:TS D.T)(s:Nat)(n:Int)(f:Nat)(k:TV D.T->TS D.T->Option R):Option R :=
 match fnd ts.o s with
 |some (.deep ty q xs none)=>(match D.ow q f with
  |some a=>z9w (ix xs n) λy=>(match HL.at (D.fl q) (D.get q y) f with
   |some ⟨.sl (.st d),ys⟩=>(match D.owns d with
    |true=>k (.own (ts.nx+1)) ((ts.zhk [s] [.deep ty q xs (some (n,f,ts.nx+1)),.deep a d ys none]).ze5 D (TV.ren D s ts.nx))
    |false=>k (.own (ts.nx+1)) ((ts.zhk [s] [.deep ty q xs (some (n,f,ts.nx+1)),.acc a (.st d) ys true]).ze5 D (TV.ren D s ts.nx)))
   |some ⟨.sl b,ys⟩=>(match D.zrn b && !decide (b = .int .u8)with
    |true=>k (.own (ts.nx+1)) ((ts.zhk [s] [.deep ty q xs (some (n,f,ts.nx+1)),.acc a b ys true]).ze5 D (TV.ren D s ts.nx))
    |false=>none)
   |_=>none)
  |none=>none)
 |_=>none
def TV.pl{T:Nat->Type}:TV T->Bool
 |.bool _| .int _ _| .str _| .nilp| .nils| .mapn| .nilf| .nili| .sl _ _ _=>true
 |_=>false
mutual
def TV.see(ts:TS D.T):TV D.T->TV D.T
 |.own s=>(match fnd ts.o s with
  |some (.acc _ t xs _)=>.sl t xs 0
  |some (.deep _ q xs none)=>.sl (.st q) xs 0
  |_=>.any)
 |.agg cs=>.agg (TV.yww ts cs)
 |.fn f a b=>(match a.all TV.pl&&b.all TV.pl with
  |true=>.fn f a b
  |false=>.any)
 |.bool b=>.bool b
 |.int k n=>.int k n
 |.str s=>.str s
 |.nilp=>.nilp
 |.nils=>.nils
 |.mapn=>.mapn
 |.nilf=>.nilf
 |.nili=>.nili
 |.sl t xs d=>.sl t xs 0
 |_=>.any
def TV.yww(ts:TS D.T):List (TV D.T)->List (TV D.T)
 |[]=>[]
 |v::vs=>TV.see ts v::TV.yww ts vs
end
mutual
def TV.z02b{T:Nat->Type}:TV T->List Nat
 |.own s=>[s]
 |.agg cs=>TV.yex cs
 |_=>[]
def TV.yex{T:Nat->Type}:List (TV T)->List Nat
 |[]=>[]
 |v::vs=>TV.z02b v++TV.yex vs
end
def isHole{T:Nat->Type}(ts:TS T)(s:Nat):Bool:=match fnd ts.o s with
 |some (.deep _ _ _ (some _))=>true
 |_=>false
def z00g{T:Nat->Type}(ts:TS T)(s:Nat):Bool:=match fnd ts.o s with
 |some (.deep _ _ _ _)=>true
 |_=>false
def ybr{T:Nat->Type}:Nat->TS T->Nat->Nat
 |0,_,s=>s
 |f+1,ts,s=>match fnd ts.o s with
  |some (.deep _ _ _ (some p))=>(match isHole ts p.2.2 with
   |true=>ybr f ts p.2.2
   |false=>s)
  |_=>s
def yvc{R:Type}(P:Program)(ts:TS D.T)(t:Nat)(s:Nat)(i:Int)(a:Nat)(k:TV D.T->TS D.T->Option R)(d:Nat->Option R):Option R :=
 match fnd ts.o s with
 |some (.deep _ q _ h)=>(match z017 D q a (szT P t)with
  |[]=>zyl P D ts t s i a none λv=>k v ts
  |f::_=>(match h with
   |none=>ts.opn D s i f λv b=>zyl P D ts t s i a (some (f,v)) λw=>k w b
   |some p=>(match Nat.beq p.2.1 f with
    |true=>z9w (yl4 p.1 i) λ_=>zyl P D ts t s i a (some (f,.own p.2.2)) λw=>k w ts
    |false=>d s)))
 |_=>none
end
end Go.Ab
