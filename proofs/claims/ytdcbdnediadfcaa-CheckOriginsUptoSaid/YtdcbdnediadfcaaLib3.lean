/-
  MORE OPERATIONS: what strings.Builder does with its own address and its bytes; make([]T, n).
-/
import Derived.Test.YtdcbdnediadfcaaLib2
import Derived.Lib.Builder
import Derived.Lib.UnsafeStr
import Derived.Laws.MakeOwn
import Derived.Laws.IdiomStrings
import Derived.Recover
import Derived.Maps.RangeRun
namespace Go.Ab
open Go
set_option linter.unusedSimpArgs false
set_option linter.unusedVariables false
section
variable {W : World} {g : Gh} {H : zz2} {P : Program}
theorem Rel.y8t(l i:Nat){W':World}{g':Gh}{H':zz2}{ty sz:Nat}{xs:List V}{cp:Option Nat}(hd:g'.dom l i)(hg:H'.get l i=some (.arr 0 ty sz xs cp)):Rel W' g' H' (.ap l i 0 0 0) (.pointer (some ⟨g'.ab l i,0,none⟩)):=by
 refine .ap l i 0 0 0 _ hd (λ_ _ _ _ _ _=>Qbp _) λty sz xs cp _ =>?_
 simp
def y8d(P:Program)(t:Nat):Bool:=match P.info? t with
 |some i=>match i.desc with
  |.named n _=>n == "strings.Builder"
  |_=>false
 |none=>false
def zlg(P:Program)(H:zz2)(t:Nat):Option (V×zz2):=match zeroV P t,P.info? t with
 |some z,some i=>if z.kz9&&z.cells.length==i.size&&Nat.blt 0 i.size then some (.ap H.lv H.L.length 0 0 0,H.push (.arr 0 t i.size [z] (some 1)))else none
 |_,_=>none
theorem y5w{W':World}{g':Gh}{H':zz2}{l i:Nat}{ver ty sz:Nat}{z:V}{c:Array Value}(hc:g'.cap l i=1)(h:W'.heap[g'.ab l i]? = some (.cells c ty (0,0)))(hsz:0<sz)(hl:z.cells.length=sz)(hr:zdw W' g' H' z.cells c):z42 W' g' H' l i (.arr ver ty sz [z] (some 1)):=by
 have one:∀{j:Nat}{x:V},[z][j]? = some x->j=0∧x=z:=λ{j x} hj=>by
  cases j with
  |zero=>simp at hj;exact⟨rfl,hj.symm⟩
  |succ j=>simp at hj
 refine⟨c,h,hsz,by rw[hr.1,hl,hc,Nat.one_mul],by rw[hc];decide,by rw[hc];simp,λn hn=>by injection hn with hn;rw[hc,hn],λj x hj =>?_,λj x t v hj ht =>?_,λj x t v hj ht =>?_⟩;obtain⟨_,rfl⟩:=one hj;exact hl;obtain⟨rfl,rfl⟩:=one hj;rw[Nat.zero_mul,Nat.zero_add];exact hr.2.1 t v ht;obtain⟨rfl,rfl⟩:=one hj;rw[Nat.zero_mul,Nat.zero_add];exact hr.2.2 t v ht
theorem ztd(hG:Good W g H){t:Nat}{v:V}{H':zz2}(h:zlg P H t=some (v,H')):z0y P W g H (do pure (.value (<-Instr.alloc t true (.tuple #[])))) v H':=by
 unfold zlg at h;split at h;rename_i z i hz hi;split at h;rename_i hc;simp only[Qag,Qbj,Nat.blt_eq]at hc;obtain⟨⟨c1,c2⟩,c3⟩:=hc;injection h with h;injection h with h1 h2;subst h1;subst h2;obtain⟨zc,hz1,hz2⟩:=zap (W:=W) (g:=g) (H:=H) hz;have hr:=z4k c1 hz2
 obtain⟨h1,h2⟩:=z5m hG (O:=.cells zc.cells t) (o:=.arr 0 t i.size [z] (some 1)) 1 (λW' g' H' hW hg hH hst=>by
  refine y5w (c:=zc.cells) (by rw[hg];simp[Gh.add]) ?_ c3 c2 (hr.mono hst);rw[hW,hg];simp only[Gh.add,and_self,if_true]
  exact kzt _ _)
 refine⟨.pointer (some ⟨W.heap.size,0,none⟩),_,_,.inl (by simp[Instr.alloc,hz1,newVar,newRow]),h1,h2,?_⟩;have hgt:(H.push (.arr 0 t i.size [z] (some 1))).get H.lv H.L.length=some (.arr 0 t i.size [z] (some 1)):=by rw[zz2.z62,Qbr ⟨rfl,rfl⟩]
 have:=Rel.y8t (W':=W.alloc (.cells zc.cells t)) (g':=g.add H.lv H.L.length W.heap.size 1) H.lv H.L.length (.inr ⟨rfl,rfl⟩) hgt;simpa[Gh.add]using this;cases h;cases h
def y0v(H:zz2):V->Option (Nat×Nat×Nat×Nat)
 |.ap l i ver idx off=>match H.get l i with
  |some (.arr ver' ty sz xs cp)=>match Nat.beq ver' ver&&Nat.blt (Nat.add (Nat.mul idx sz) off) (Nat.mul xs.length sz)with
   |true=>some (ty,sz,xs.length,Nat.add (Nat.mul idx sz) off)
   |false=>none
  |_=>none
 |_=>none
theorem zeq(hG:Good W g H){x:V}{c:Value}{ty sz n o:Nat}(h:y0v H x=some (ty,sz,n,o))(hx:Rel W g H x c):∃b q cells,c = .pointer (some ⟨b,o,none⟩)∧W.heap[b]? = some (.cells cells ty (0,0))∧cells.size=q * sz∧n<=q∧0<sz∧o<n * sz:=by
 unfold y0v at h;split at h;rename_i l i ver idx off;split at h;rename_i ver' ty' sz' xs cp hg;split at h;rename_i hc;simp only[Qag]at hc;have e1:ver'=ver:=Qaj hc.1;subst e1;injection h with h;injection h with a1 h;injection h with a2 h;injection h with a3 a4;subst a1;subst a2;subst a3;subst a4
 cases hx with
 |ap _ _ _ _ _ a hd hv ha=>
  obtain rfl:=ha _ _ _ _ hg;obtain⟨cc,k1,k2,k3,k3',k4,k5,k6,k7,k8⟩:=hG.obj _ _ _ hg;exact⟨_,g.cap l i,cc,rfl,k1,k3,k4,k2,by have:=hc.2;rw[Nat.blt_eq]at this;exact this⟩
 cases h;cases h;cases h
def zyh:V->V->Bool
 |.ap l i v x o,.ap l' i' v' x' o'=>Nat.beq l l'&&Nat.beq i i'&&Nat.beq v v'&&Nat.beq x x'&&Nat.beq o o'
 |_,_=>false
theorem y0y{x y:V}(h:zyh x y=true):x=y:=by
 unfold zyh at h;split at h;simp only[Qag]at h;obtain⟨⟨⟨⟨h1,h2⟩,h3⟩,h4⟩,h5⟩:=h;rw[Qaj h1,Qaj h2,Qaj h3,Qaj h4,Qaj h5];cases h
def y4o(P:Program)(H:zz2)(op:BinOp)(t:Nat)(x y:V):Option V :=
 match zyh x y,y0v H x,P.underlying t with
 |true,some _,some (.pointer e)=>match (P.info? e).isSome,op with
  |true,.eql=>some (.bool true)
  |true,.neq=>some (.bool false)
  |_,_=>none
 |_,_,_=>none
theorem zkm{tp te:TypeId}{j:TypeInfo}(a:Addr)(hp:P.underlying tp=some (.pointer te))(hte:P.info? te=some j) :
  (binOp .eql tp (.pointer (some a)) (.pointer (some a))).run P W = .ok (.bool true) W:=by
 have h:∀d:Nat,(Op.equalIn (d+1) tp (.pointer (some a)) (.pointer (some a))).run P W = .ok true W:=λd=>by
  simp[Op.equalIn,run_underlying hp,sizeOf,typeInfo,hte,run_sameAddr_same]
 simp only[binOp];simp[Op.equal,Op.maxDepth,h 9999]
theorem zxu(hG:Good W g H){op:BinOp}{t:Nat}{x y:V}{v:V}{a b:Value}(xo yo:Operand)(h:y4o P H op t x y=some v)(hx:Rel W g H x a)(hy:Rel W g H y b) :
  z0y P W g H (do pure (.value (<-(do eqGuard op t xo yo a b;binOp op t a b)))) v H:=by
 unfold y4o at h;split at h;rename_i p e h1 h2 h3;obtain rfl:=y0y h1;obtain⟨ty,sz,n,o⟩:=p;obtain⟨blk,q,cells,rfl,k1,k2,k3,k4,k5⟩:=zeq hG h2 hx
 have hb:b = .pointer (some ⟨blk,o,none⟩):=by
  obtain⟨blk',q',cells',rfl,m1,m2,m3,m4,m5⟩:=zeq hG h2 hy;unfold y0v at h2;split at h2;rename_i l i ver idx off;split at h2;rename_i ver' ty' sz' xs cp hg;split at h2;rename_i hc;simp only[Qag]at hc;obtain rfl:ver'=ver:=Qaj hc.1
  cases hx with
  |ap _ _ _ _ _ _ _ _ ha=>
   have e1:=ha _ _ _ _ hg
   cases hy with
   |ap _ _ _ _ _ _ _ _ ha'=>
    have e2:=ha' _ _ _ _ hg;rw[e1,e2]
  cases h2;cases h2;cases h2
 subst hb;split at h;rename_i hi;obtain⟨j,hj⟩:=Option.isSome_iff_exists.1 hi;injection h with h;subst h;exact⟨_,W,g,.inl (by simp[eqGuard,zkm _ h3 hj]),.refl _ _ _,hG,.bool _⟩;rename_i hi;obtain⟨j,hj⟩:=Option.isSome_iff_exists.1 hi;injection h with h;subst h;exact⟨_,W,g,.inl (by simp[eqGuard,Lib.run_neq_ptr_same _ _ h3 hj]),.refl _ _ _,hG,.bool _⟩;cases h;cases h
def y4a(H:zz2):V->Bool
 |.ap l i _ _ _=>match H.get l i with
  |some (.arr _ _ _ _ (some 1))=>true
  |_=>false
 |_=>false
def y7a(P:Program)(H:zz2)(s d:Nat)(x:V):Option V :=
 match P.underlying s,P.underlying d,y0v H x with
 |some (.pointer t),some .unsafePointer,some _=>match P.info? t with
  |some j=>match Nat.blt 0 j.size with
   |true=>some x
   |false=>none
  |none=>none
 |some .unsafePointer,some (.pointer u),some (ty,sz,n,o)=>match P.info? u with
  |some _=>match Nat.beq (P.cellsOf ty) sz&&Nat.beq n 1&&y4a H x&&liesAt P P.depth ty 1 o u 1 with
   |true=>some x
   |false=>none
  |none=>none
 |_,_,_=>none
theorem zwr(hG:Good W g H){s d:Nat}{x v:V}{c:Value}(h:y7a P H s d x=some v)(hx:Rel W g H x c):z0y P W g H (do pure (.value (<-convert s d c))) v H:=by
 unfold y7a at h;split at h;rename_i t p hs hd hp;obtain⟨ty,sz,n,o⟩:=p;obtain⟨blk,q,cells,rfl,k1,k2,k3,k4,k5⟩:=zeq hG hp hx;split at h;rename_i j hj;split at h;rename_i hz;rw[Nat.blt_eq]at hz;injection h with h;subst h;have hlt:o<cells.size:=by rw[k2];exact Qbg k5 (Qau _ k3)
 exact⟨_,W,g,.inl (by simp[Lib.run_to_unsafe W ⟨blk,o,none⟩ hs hd hj (by omega) (show W.shape? blk=some (ty,cells.size) by simp[World.shape?,k1]) hlt]),.refl _ _ _,hG,hx⟩;cases h;cases h;rename_i u ty sz n o hs hd hp;obtain⟨blk,q,cells,rfl,k1,k2,k3,k4,k5⟩:=zeq hG hp hx;split at h;rename_i j hj;split at h;rename_i hz;simp only[Qag]at hz;obtain⟨⟨⟨z1,z2⟩,z3⟩,z4⟩:=hz
 have e1:P.cellsOf ty=sz:=Qaj z1;injection h with h;subst h
 have hcells:cells.size=sz:=by
  unfold y4a at z3;split at z3;rename_i l i ver idx off;split at z3;rename_i ver' ty' sz' xs hg
  cases hx with
  |ap _ _ _ _ _ a _ _ ha=>
   simp only[y0v,hg]at hp;split at hp;rename_i hc;simp only[Qag]at hc;obtain rfl:ver'=ver:=Qaj hc.1;injection hp with hp;injection hp with a1 hp;injection hp with a2 hp;injection hp with a3 a4;have:=ha _ _ _ _ hg;injection this with e1' e2';obtain⟨cc,m1,m2,m3,m3',m4,m5,_⟩:=hG.obj _ _ _ hg;rw[<-e1',k1]at m1;injection m1 with m1;injection m1 with m1 _ _
   rw[m1,m3,m5 1 rfl,Nat.one_mul,a2];cases hp
  cases z3;cases z3
 have hq:cells.size / P.cellsOf ty=1:=by rw[hcells,e1];exact Nat.div_self k4
 exact⟨_,W,g,.inl (by simp[Lib.run_from_unsafe W (e:=ty) (cells:=cells.size) ⟨blk,o,none⟩ hs hd hj (by simp[World.shape?,k1]) (by rw[hq];exact z4)]),.refl _ _ _,hG,hx⟩;cases h;cases h;cases h
def zgi(H:zz2)(x:V):Option V:=match x with
 |.nils=>some .nilp
 |.hs l i ver off n full=>match H.get l i with
  |some (.arr ver' _ _ _ _)=>match Nat.beq ver' ver&&Nat.blt 0 n with
   |true=>some (.ap l i ver off 0)
   |false=>none
  |_=>none
 |_=>none
theorem zlc(hG:Good W g H){x v:V}{c:Value}{ts:Array TypeId}{ty:TypeId}(h:zgi H x=some v)(hx:Rel W g H x c):z0y P W g H (do pure (.value (<-Builtin.unsafeSliceData_ ts ty #[c]))) v H:=by
 unfold zgi at h;split at h;injection h with h;subst h
 cases hx with
 |nils=>exact⟨_,W,g,.inl (by simp[Lib.run_unsafeSliceData_nil]),.refl _ _ _,hG,.nilp⟩
 rename_i l i ver off n full;split at h;rename_i ver' ty' sz xs cp hg;split at h;rename_i hc;simp only[Qag]at hc;obtain rfl:ver'=ver:=Qaj hc.1;have hn:0<n:=by have:=hc.2;rwa[Nat.blt_eq]at this
 injection h with h;subst h
 cases hx with
 |hs _ _ _ _ _ _ a m cap hd hv ha=>
  obtain⟨rfl,rfl,⟨e1,e2,e3⟩,e4⟩:=ha _ _ _ _ hg;refine⟨_,W,g,.inl (by rw[Qbu,Lib.run_unsafeSliceData_row W ts ty _ _ cap (by omega)];rfl),.refl _ _ _,hG,?_⟩;refine .ap l i ver' off 0 _ hd hv λty2 sz2 xs2 cp2 h2 =>?_
  obtain⟨q1,_⟩:=ha _ _ _ _ h2;injection q1
 cases h;cases h;cases h
def ze3:List V->Option B8
 |[]=>some []
 |v::r=>match v,ze3 r with
  |.int .u8 (.ofNat m),some s=>match Nat.ble m 255 with
   |true=>some (m.toUInt8::s)
   |false=>none
  |_,_=>none
theorem ze4:∀{vs:List V}{s:B8},ze3 vs=some s->s.length=vs.length∧∀(j:Nat) (x:UInt8),s[j]? = some x->vs[j]? = some (.int .u8 x.toNat)
 |[],s,h=>by simp only[ze3,Qbo]at h;subst h;exact⟨rfl,by simp⟩
 |v::r,s,h=>by
  simp only[ze3]at h;split at h;rename_i m s' h2;split at h;rename_i hc;injection h with h;subst h;obtain⟨k1,k2⟩:=ze4 h2;refine⟨by simp[k1],λj x hj =>?_⟩
  cases j with
  |zero=>
   simp only[Qbw,Qbo]at hj ⊢;subst hj;have hc:=Nat.le_of_ble_eq_true hc
   have:(m.toUInt8).toNat=m:=by
    simp only[Nat.toUInt8,UInt8.toNat_ofNat'];omega
   rw[this];rfl
  |succ j=>simpa using k2 j x (by simpa using hj)
  cases h;cases h
def zxl(P:Program)(H:zz2)(pt:Nat)(p n:V):Option (V×zz2) :=
 match p,n with
 |.nilp,.int .i64 (.ofNat 0)=>some (.str [],H)
 |.ap l i ver 0 0,.int .i64 (.ofNat m)=>match H.get l i,P.underlying pt with
  |some (.arr ver' ty sz xs cp),some (.pointer e)=>match Nat.beq ver' ver&&Nat.beq sz 1&&Nat.beq l H.lv&&Nat.beq e ty&&Nat.beq (P.cellsOf ty) 1&&Nat.blt 0 m&&Nat.ble m xs.length&&Nat.ble m z4u with
   |true=>match ze3 (xs.take m)with
    |some s=>some (.str s,H.zj6 i)
    |none=>none
   |false=>none
  |_,_=>none
 |_,_=>none
theorem zvx(hG:Good W g H){pt it ty:Nat}{p n v:V}{H':zz2}{cp cn:Value}(h:zxl P H pt p n=some (v,H'))(hp:Rel W g H p cp)(hn:Rel W g H n cn) :
  z0y P W g H (do pure (.value (<-Builtin.unsafeString_ #[pt,it] ty #[cp,cn]))) v H':=by
 unfold zxl at h;split at h;injection h with h;injection h with h1 h2;subst h1;subst h2;cases hp;cases hn;exact⟨_,W,g,.inl (by rw[Qbu,show Int.ofNat 0=(0:Int)from rfl,Lib.run_unsafeString_none W pt it ty none];rfl),.refl _ _ _,hG,.str []⟩;rename_i l i ver m;split at h;rename_i ver' ty' sz xs cap e hg hpt;split at h;rename_i hc;simp only[Qag]at hc
 obtain⟨⟨⟨⟨⟨⟨⟨c1,c2⟩,c3⟩,c4⟩,c5⟩,c6⟩,c7⟩,c8⟩:=hc;obtain rfl:ver'=ver:=Qaj c1;obtain rfl:sz=1:=Qaj c2;obtain rfl:l=H.lv:=Qaj c3;obtain rfl:e=ty':=Qaj c4;have c5:P.cellsOf e=1:=Qaj c5;rw[Nat.blt_eq]at c6;have c7:=Nat.le_of_ble_eq_true c7;have c8:=Nat.le_of_ble_eq_true c8;unfold z4u at c8;split at h;rename_i s hs
 injection h with h;injection h with h1 h2;subst h1;subst h2;obtain⟨b1,b2⟩:=ze4 hs;have hsl:s.length=m:=by rw[b1,Qay];omega
 cases hn
 cases hp with
 |ap _ _ _ _ _ a hd hv ha=>
  obtain rfl:=ha _ _ _ _ hg;obtain⟨cc,k1,k2,k3,k3',k4,k5,k6,k7,k8⟩:=hG.obj _ _ _ hg;have hlt:=hG.lt _ _ _ hg
  have hrun:=Lib.run_unsafeString_row (P:=P) W pt it ty e hpt c5 (g.ab H.lv i) cc.size (by simp[World.shape?,k1]) s (by intro hh;rw[hh]at hsl;simp at hsl;omega) (by rw[hsl,k3];omega) (by omega) (λj x hj=>by
   have hj':=b2 j x hj;have hjm:j<m:=by rw[<-hsl];exact(Qaa.1 hj).1
   rw[Qaw,Qbr hjm]at hj';have hrel:=k8 j _ 0 _ hj' rfl;have hadd:(⟨g.ab H.lv i,0,none⟩:Addr).add j=⟨g.ab H.lv i,j,none⟩:=by unfold Addr.add;split <;> simp_all
   have hjc:j<cc.size:=by rw[k3];omega
   rw[hadd,cell_of k1 hjc];rw[Nat.mul_one,Nat.add_zero]at hrel;generalize cc.getD j undef=q at hrel
   cases hrel;rfl)
  rw[hsl]at hrun;obtain⟨g1,g2,g3,g4⟩:=y1c hG hg
  have hfz:∀k,k≠g.ab H.lv i->(W.freeze ⟨g.ab H.lv i,0,none⟩ m).heap[k]? = W.heap[k]? := λk hk=>by
   unfold World.freeze;split;rfl;simp only[Array.getElem?_modify];rw[Qbs (λe=>hk e.symm)]
  have hsize:(W.freeze ⟨g.ab H.lv i,0,none⟩ m).heap.size=W.heap.size:=by unfold World.freeze;split <;> simp
  have hos:(W.freeze ⟨g.ab H.lv i,0,none⟩ m).os=W.os∧(W.freeze ⟨g.ab H.lv i,0,none⟩ m).tape=W.tape∧(W.freeze ⟨g.ab H.lv i,0,none⟩ m).output=W.output:=by unfold World.freeze;split <;> exact⟨rfl,rfl,rfl⟩
  have hob:Own g H (g.ab H.lv i):=⟨_,_,_,hg,rfl⟩
  have hst:Step W g H (W.freeze ⟨g.ab H.lv i,0,none⟩ m) g (H.zj6 i) :=
   ⟨hos.1,hos.2.1,hos.2.2,Nat.le_of_eq hsize.symm,λb hb hno=>hfz b (λe=>hno (by rw[e];exact hob)),g2.own,g2.dom,g2.new,g2.blk,g2.arr,g2.lv,rfl⟩
  have hst2:∀l k o,(H.zj6 i).get l k=some o->o.blk g l k≠g.ab H.lv i:=λl k o ho e=>by
   obtain⟨q1,q2⟩:=zz2.z52 ho;exact q2 (hG.inj _ _ _ _ _ _ q1 hg e)
  refine⟨.string ⟨s.toArray⟩,_,g,.inl (by rw[Qbu,show Int.ofNat m=((m:Nat):Int)from rfl,hrun];rfl),hst,⟨g1.dom,λl k o ho=>by rw[hsize];exact g1.lt l k o ho,g1.inj,g1.fresh,λl k o ho =>?_,hG.glob.step hst,Qbh hG.base hst.size⟩,.str s⟩;have ho':=hG.obj l k o (zz2.z52 ho).1;exact ho'.mono hst (hfz _ (hst2 l k o ho)) rfl rfl rfl
 cases h;cases h;cases h;cases h
def zg0(P:Program)(H:zz2)(t:Nat)(n c:V):Option (V×zz2) :=
 match n,c with
 |.int _ (.ofNat n),.int _ (.ofNat c)=>match P.underlying t with
  |some (.slice e)=>match P.info? e,zeroV P e with
   |some i,some z=>match z.kz9&&Nat.beq z.cells.length i.size&&Nat.blt 0 i.size&&Nat.ble n c&&Nat.ble c 1000000&&Nat.ble i.bytes 100000 with
    |true=>some (.hs H.lv H.L.length 0 0 n false,H.push (.arr 0 e i.size (List.replicate n z) none))
    |false=>none
   |_,_=>none
  |_=>none
 |_,_=>none
theorem zkx(hG:Good W g H){t:Nat}{n c v:V}{H':zz2}{cn cc:Value}(h:zg0 P H t n c=some (v,H'))(hn:Rel W g H n cn)(hcc:Rel W g H c cc):z0y P W g H (do pure (.value (<-Instr.makeSlice t cn cc))) v H':=by
 unfold zg0 at h;split at h
 ·rename_i k1 n k2 c;split at h
  ·rename_i e ht;split at h
   ·rename_i i z hi hz;split at h
    ·rename_i hc;simp only[Qag]at hc;obtain⟨⟨⟨⟨⟨c1,c2⟩,c3⟩,c4⟩,c5⟩,c6⟩:=hc;have c2:=Qaj c2;rw[Nat.blt_eq]at c3;have c4:=Nat.le_of_ble_eq_true c4;have c5:=Nat.le_of_ble_eq_true c5;have c6:=Nat.le_of_ble_eq_true c6;injection h with h;injection h with h1 h2;subst h1;subst h2;cases hn;cases hcc
     obtain⟨zc,hz1,hz2⟩:∃zc,i.zero=some zc∧Rel W g H z zc:=by
      simp only[zeroV,hi,Option.bind_some,Qaf]at hz;obtain⟨zc,q1,rfl⟩:=hz;exact⟨zc,q1,za0 zc⟩
     obtain⟨r1,r2,r3⟩:=z4k c1 hz2;have hb:i.bytes * c<=100000 * 1000000:=Nat.mul_le_mul c6 c5;have hrun:=run_make (P:=P) W t e i zc ht hi hz1 k1 k2 (Int.ofNat n) (Int.ofNat c) (Int.natCast_nonneg n) (by show((n:Nat):Int)<=(c:Nat);omega) (by show((i.bytes:Nat):Int) * ((c:Nat):Int)<=_;rw[<-Int.natCast_mul];omega) (by show((c:Nat):Int)<=_;omega);simp only[Int.toNat,Int.ofNat_eq_natCast]at hrun
     obtain⟨h1,h2⟩:=z5m hG (O:=.cells (madeCells zc.cells (c * i.size)) e) (o:=.arr 0 e i.size (List.replicate n z) none) c (λW' g' H' hW hg hH hst=>by
      have hcap:g'.cap H.lv H.L.length=c:=by rw[hg];simp[Gh.add]
      refine⟨madeCells zc.cells (c * i.size),?_,c3,by rw[hcap,size_madeCells],by rw[hcap];unfold maxLen;omega,by rw[hcap];simpa using c4,by simp,λj x hj =>?_,λj x tt u hj htt =>?_,λj x tt u hj htt =>?_⟩;rw[hW,hg];simp only[Gh.add,and_self,if_true];exact kzt _ _
      all_goals
       rw[Qbl]at hj;split at hj;rename_i hjn;injection hj with hj;subst hj
       first
       |exact c2
       |(have htl:tt<i.size:=by rw[<-c2];exact(Qaa.1 htt).1
         rw[zf0 zc.cells c j tt i.size (by rw[r1,c2]) htl (by omega)]
         first|exact r2 tt u htt|exact(r3 tt u htt).mono hst)
       cases hj)
     refine⟨.slice (some ⟨W.heap.size,0,none⟩) n c,_,_,.inl (by rw[Qbu,show Int.ofNat n=((n:Nat):Int)from rfl,show Int.ofNat c=((c:Nat):Int)from rfl,hrun];rfl),h1,h2,?_⟩;refine .hs H.lv H.L.length 0 0 n false _ n c (.inr ⟨rfl,rfl⟩) (λ_ _ _ _ _ _=>Qbp _) λty2 sz2 xs2 cp2 hg2 =>?_
     rw[zz2.z62,Qbr ⟨rfl,rfl⟩]at hg2;injection hg2 with hg2;injection hg2 with _ _ _ e4 _;refine⟨by simp[Gh.add],rfl,⟨c4,by simp[Gh.add],λhh=>by cases hh⟩,by rw[<-e4];simp⟩
    cases h
   cases h
  cases h
 cases h
theorem zm6(hG:Good W g H){t:Nat}{n c v:V}{cn cc:Value}(h:z6p P t n c=some v)(hn:Rel W g H n cn)(hcc:Rel W g H c cc):z0y P W g H (do pure (.value (<-Instr.makeSlice t cn cc))) v H :=
 (zug hG h hn hcc).op.turns hG
def isC:Operand->Bool
 |.const _=>true
 |_=>false
def zik(P:Program)(op:BinOp)(t:Nat)(xo yo:Operand)(x y:V):Option V:=match x,y,isC xo||isC yo,P.underlying t with
 |.nili,.nili,true,some (.interface _)=>match op with
  |.eql=>some (.bool true)
  |.neq=>some (.bool false)
  |_=>none
 |_,_,_,_=>none
theorem zuk(hG:Good W g H){op:BinOp}{t:Nat}{xo yo:Operand}{x y v:V}{a b:Value}(h:zik P op t xo yo x y=some v)(hx:Rel W g H x a)(hy:Rel W g H y b) :
  z0y P W g H (do pure (.value (<-(do eqGuard op t xo yo a b;binOp op t a b)))) v H:=by
 unfold zik at h;split at h;rename_i ms hc hu;cases hx;cases hy
 have hg:(eqGuard op t xo yo .nilIface .nilIface).run P W = .ok () W:=by
  cases xo <;> cases yo <;> first|(simp[isC]at hc;done)|(cases op <;> simp[eqGuard])
 have he:∀d:Nat,(Op.equalIn (d+1) t .nilIface .nilIface).run P W = .ok true W:=λd=>by
  simp[Op.equalIn,yz3 hu]
 have hu':(Op.equal t .nilIface .nilIface).run P W = .ok true W:=he 9999;split at h;injection h with h;subst h;exact⟨_,W,g,.inl (by simp[hg,binOp_eql (a:=.nilIface) rfl,hu']),.refl _ _ _,hG,.bool _⟩;injection h with h;subst h;exact⟨_,W,g,.inl (by simp[hg,binOp_neq (a:=.nilIface) rfl,hu']),.refl _ _ _,hG,.bool _⟩;cases h;cases h
def hEq2(P:Program)(H:zz2)(op:BinOp)(t:Nat)(xo yo:Operand)(x y:V):Option V:=match zik P op t xo yo x y with
 |some v=>some v
 |none=>y4o P H op t x y
theorem y1s(hG:Good W g H){op:BinOp}{t:Nat}{xo yo:Operand}{x y v:V}{a b:Value}(h:hEq2 P H op t xo yo x y=some v)(hx:Rel W g H x a)(hy:Rel W g H y b) :
  z0y P W g H (do pure (.value (<-(do eqGuard op t xo yo a b;binOp op t a b)))) v H:=by
 unfold hEq2 at h;split at h
 rename_i u hu;injection h with h;subst h;exact zuk hG hu hx hy
 exact zxu hG xo yo h hx hy
def y6m(P:Program)(s d:Nat)(x:V):Option V:=match P.underlying s,P.underlying d with
 |some (.slice e),some .string=>match P.underlying e with
  |some (.int .u8)=>match x with
   |.nils=>some (.str [])
   |.sl 1 ws _=>(ze3 ws).map .str
   |_=>none
  |_=>none
 |_,_=>none
theorem zgl{s d e:Nat}(a:Option Addr)(c:Nat)(hs:P.underlying s=some (.slice e))(he:P.underlying e=some (.int .u8))(hd:P.underlying d=some .string):(convert s d (.slice a 0 c)).run P W = .ok (.string ⟨#[]⟩) W:=by
 rw[run_convert_bytes_string W s d e _ 0 c hs he hd];cases a <;> simp[Conv.bytesToString,loadCells]
 all_goals rfl
theorem zmz(hG:Good W g H){s d:Nat}{x v:V}{c:Value}(h:y6m P s d x=some v)(hx:Rel W g H x c):z0y P W g H (do pure (.value (<-convert s d c))) v H:=by
 unfold y6m at h;split at h;rename_i e hs hd;split at h;rename_i he;split at h;injection h with h;subst h;cases hx;exact⟨_,W,g,.inl (by simp[zgl none 0 hs he hd]),.refl _ _ _,hG,.str []⟩;rename_i ws fl;rw[Qaf]at h;obtain⟨l,hl,rfl⟩:=h;obtain⟨b1,b2⟩:=ze4 hl;have nil:ws=[]->l=[]:=λe=>Qao (by rw[b1,e];rfl)
 cases hx with
 |slnil=>
  obtain rfl:=nil rfl
  exact⟨_,W,g,.inl (by simp[zgl none 0 hs he hd]),.refl _ _ _,hG,.str []⟩
 |sle _ _ a cap hf=>
  obtain rfl:=nil rfl
  exact⟨_,W,g,.inl (by simp[zgl (some a) cap hs he hd]),.refl _ _ _,hG,.str []⟩
 |sl _ _ _ b o cap cc hb hz hcap hf hss hc h1 hr=>
  have hrun:=run_convert_bytes_back (P:=P) W s d e ⟨b,o,none⟩ cap l hs he hd λj hj=>by
   have e1:ws[j]? = some (.int .u8 l[j].toNat):=b2 j _ (Qab hj);have e2:=hc j _ 0 (.int .u8 l[j].toNat) e1 rfl;have e3:=hr j _ 0 (.int .u8 l[j].toNat) e1 rfl;generalize hq:cc j 0=q at e2 e3;cases e3;rw[<-e2]
   congr 1
   unfold Addr.add;split <;> simp_all
  rw[b1]at hrun;exact⟨_,W,g,.inl (by simp[hrun]),.refl _ _ _,hG,.str l⟩
 cases h;cases h;cases h
def zy7(P:Program)(H:zz2)(s d:Nat)(x:V):Option V:=match y7a P H s d x with
 |some v=>some v
 |none=>y6m P s d x
theorem zuq(hG:Good W g H){s d:Nat}{x v:V}{c:Value}(h:zy7 P H s d x=some v)(hx:Rel W g H x c):z0y P W g H (do pure (.value (<-convert s d c))) v H:=by
 unfold zy7 at h;split at h
 rename_i u hu;injection h with h;subst h;exact zwr hG hu hx
 exact zmz hG h hx
def zbf(P:Program)(H:zz2)(ρ:Operand->V)(op:Op):Option (V×zz2):=match op with
 |.alloc t=>match y8d P t with
  |true=>zlg P H t
  |false=>none
 |.makeSlice t n c=>zg0 P H t (ρ n) (ρ c)
 |.convert s d x=>(zy7 P H s d (ρ x)).map λv=>(v,H)
 |.binOp op t x y _=>(hEq2 P H op t x y (ρ x) (ρ y)).map λv=>(v,H)
 |.call c=>match c.callee with
  |.builtin .unsafeSliceData=>match c.args.toList with
   |[x]=>(zgi H (ρ x)).map λv=>(v,H)
   |_=>none
  |.builtin .unsafeString=>match c.args.toList,c.argTypes.toList with
   |[p,n],[pt,_]=>zxl P H pt (ρ p) (ρ n)
   |_,_=>none
  |_=>none
 |_=>none
theorem zby{ρ:Operand->V}{r:Operand->Value}{o:Oper}{v:V}{H':zz2}(hG:Good W g H)(hρ:∀x,Rel W g H (ρ x) (r x))(h:zbf P H ρ o.op=some (v,H')):z0y P W g H (execOp r o) v H':=by
 have pure':∀{q:Option V},(q.map λv=>(v,H))=some (v,H')->q=some v∧H'=H:=λ{q} h=>by
  simp only[Qaf]at h;obtain⟨u,hu,heq⟩:=h;injection heq with h1 h2;exact⟨by rw[hu,h1],h2.symm⟩
 unfold zbf at h;split at h;rename_i t heq;split at h;unfold execOp;rw[heq];exact ztd hG h;cases h;rename_i t n c heq;unfold execOp;rw[heq];exact zkx hG h (hρ n) (hρ c);rename_i s d x heq;obtain⟨h,rfl⟩:=pure' h;unfold execOp;rw[heq];exact zuq hG h (hρ x);rename_i op t x y _ heq;obtain⟨h,rfl⟩:=pure' h;unfold execOp;rw[heq];exact y1s hG h (hρ x) (hρ y);rename_i c heq;unfold execOp;rw[heq]
 obtain⟨callee,args,argTypes⟩:=c;simp only at h;split at h;split at h;rename_i x hargs;obtain⟨h,rfl⟩:=pure' h;obtain rfl:=yzm hargs;have:=zlc (P:=P) (ts:=argTypes) (ty:=o.type) hG h (hρ x);obtain⟨c,W',g',h1,h2,h3,h4⟩:=this;refine⟨c,W',g',?_,h2,h3,h4⟩
 rcases h1 with h1|⟨h1,h1'⟩
 left;rw[<-h1];simp[resolve,invoke,builtin];right;refine⟨?_,h1'⟩;rw[<-h1];simp[resolve,invoke,builtin];cases h;split at h;rename_i p n pt it hargs htys;obtain rfl:=yzm hargs;obtain rfl:=yzm htys;have:=zvx (P:=P) (it:=it) (ty:=o.type) hG h (hρ p) (hρ n);obtain⟨c,W',g',h1,h2,h3,h4⟩:=this;refine⟨c,W',g',?_,h2,h3,h4⟩
 rcases h1 with h1|⟨h1,h1'⟩
 left;rw[<-h1];simp[resolve,invoke,builtin];right;refine⟨?_,h1'⟩;rw[<-h1];simp[resolve,invoke,builtin];cases h;cases h;cases h
end
section
variable {W : World} {g : Gh} {H : zz2} {P : Program}
def zly:zz2:=⟨0,[],λ_ _=>none⟩
theorem zvn{sz:Nat}{x:V}{ys:List V}(h:z7x zly sz x=some ys)(H:zz2):z7x H sz x=some ys:=by
 have hg:∀l i,zly.get l i=none:=λl i=>by unfold zz2.get zly;split <;> simp
 cases x <;> simp_all[z7x,z3l]
def zd8(P:Program)(t u:Nat)(s x:V):Option V :=
 match s with
 |.sl sz xs true=>match P.underlying t,P.underlying u with
  |some (.slice e),some du=>match P.info? e with
   |some i=>match i.zero,z7x zly i.size x with
    |some z,some ys=>match zcu du&&decide (0<i.size)&&decide (i.bytes<=524288)&&z.cells.size==i.size&&Nat.beq sz i.size&&Nat.ble (xs.length+ys.length) z4u with
     |true=>some (.sl sz (xs++ys) false)
     |false=>none
    |_,_=>none
   |none=>none
  |_,_=>none
 |_=>none
theorem zwm{sz:Nat}{xs:List V}{c:Value}(h:Rel W g H (.sl sz xs true) c):Rel W g H (.sl sz xs false) c:=by
 cases h with
 |slnil=>exact .slnil _ _
 |sle _ _ a cap hf=>exact .sle _ _ a cap (λh=>by cases h)
 |sl _ _ _ b o cap c hb hz hcap hf hs hc h1 hr=>exact .sl _ _ _ b o cap c hb hz hcap (λh=>by cases h) hs hc h1 hr
theorem zq1(hG:Good W g H){t u ty:TypeId}{s x v:V}{cs cx:Value}(h:zd8 P t u s x=some v)(hs:Rel W g H s cs)(hx:Rel W g H x cx) :
  z0y P W g H (do pure (.value (<-Builtin.append_ #[t,u] ty #[cs,cx]))) v H:=by
 unfold zd8 at h;split at h
 case h_2=>cases h
 rename_i sz xs;split at h
 case h_2=>cases h
 rename_i e du ht hu;split at h
 case h_2=>cases h
 rename_i i hi;split at h
 case h_2=>cases h
 rename_i z ys hz hys;split at h
 case h_2=>cases h
 rename_i hc;injection h with h;subst h;simp only[Qag,Qar,Qbj]at hc;obtain⟨⟨⟨⟨⟨c1,c2⟩,c3⟩,c4⟩,c5⟩,c6⟩:=hc;have c5:=Qaj c5;have hroom:=Nat.le_of_ble_eq_true c6;subst c5;have hdu:∀k,du ≠ .int k:=λk hk=>by subst hk;simp[zcu]at c1
 obtain⟨hlen,news,n1,n2,n3,n4⟩:=zqb (P:=P) hG c2 (zvn hys H) hx;obtain⟨a,n,cap,rfl,rfl,o2,olds,o3,o4,o5,o6⟩:=z9q (P:=P) hG c2 (show z3l H i.size (.sl i.size xs true)=some xs by simp[z3l]) hs
 have hfull:cap=xs.length:=by
  cases hs with
  |slnil=>rfl
  |sle _ _ _ _ hf=>exact hf rfl
  |sl _ _ _ _ _ _ _ _ _ _ hf=>exact hf rfl
 cases ys with
 |nil=>
  have hz0:news = #[]:=by simpa using n1
  have:=zci (P:=P) (W:=W) (ty:=ty) (base:=a) ht hu hdu hi hlen (n4 W.drawn) hz0 o2;refine⟨.slice a xs.length cap,W,g,.inl (by rw[Qbu,this];rfl),.refl _ _ _,hG,?_⟩
  rw[List.append_nil];exact zwm hs
 |cons y r=>
  have hb:xs.length+(y::r).length<=268435456:=hroom
  have hbytes:(xs.length+(y::r).length) * i.bytes<=140737488355328:=by
   calc (xs.length+(y::r).length) * i.bytes<=268435456 * 524288:=Nat.mul_le_mul hb c3
    _=_:=by decide
  have hcap:cap<xs.length+(y::r).length:=by simp;omega
  obtain⟨cap',d,k1,k2,k3⟩:=zcq (P:=P) (W:=W) (ty:=ty) (base:=a) ht hu hdu hi hz hlen o6 n4 hcap (by omega) (growslice_fits hcap hbytes)
  have hsz:(olds++news++Builtin.zeroCells z.cells (cap'-(xs.length+(y::r).length))).size=cap' * i.size:=by
   rw[Array.size_append,Array.size_append,size_zeroCells,o3,n1,c4,<-Nat.add_mul,<-Nat.add_mul]
   congr 1;omega
  have hF:zcz W g H i.size (xs++y::r) (olds++news++Builtin.zeroCells z.cells (cap'-(xs.length+(y::r).length))):=by
   refine o5.append n3 (λj hj =>?_) (λj hj =>?_);rw[Array.append_assoc,zzx (by rw[o3];exact hj)];rw[Array.append_assoc,<-o3,z5v,zzx (by rw[n1];exact hj)]
  have hgr:=(Grow.drawn W d).trans (Grow.alloc {W with drawn:=d} (.cells (olds++news++Builtin.zeroCells z.cells (cap'-(xs.length+(y::r).length))) e));have hF':=hF.mono (hgr.step (g:=g) (H:=H));have hlen':xs.length+(y::r).length=(xs++y::r).length:=by simp
  refine⟨.slice (some ⟨W.heap.size,0,none⟩) (xs.length+(y::r).length) cap',_,g,.inl (by rw[Qbu,k3];rfl),hgr.step,hG.grow hgr,?_⟩;rw[show Value.slice (some ⟨W.heap.size,0,none⟩) (xs.length+(y::r).length) cap'=Value.slice (some ⟨W.heap.size,0,none⟩) (xs++y::r).length cap' by rw[hlen']]
  refine Rel.sl i.size (xs++y::r) false W.heap.size 0 cap' (λj tt=>(olds++news++Builtin.zeroCells z.cells (cap'-(xs.length+(y::r).length))).getD (j * i.size+tt) undef) (λhn=>by
   obtain⟨l,k,o,ho,hb⟩:=hn;have:=hG.lt l k o ho
   omega) c2 (by rw[<-hlen'];exact k1) (λh=>by cases h) hF'.1 (λj x tt u hj hu =>?_) hF'.2.1 hF'.2.2
  have hl:=hF'.1 j x hj;have hjl:=(Qaa.1 hj).1;have htl:=(Qaa.1 hu).1
  have hlt:j * i.size+tt<cap' * i.size:=by
   have:(j+1) * i.size<=cap' * i.size:=Qau _ (by omega);rw[Nat.succ_mul]at this;omega
  rw[Nat.zero_add];show World.cell? (({W with drawn:=d}:World).alloc _) ⟨({W with drawn:=d}:World).heap.size,_,none⟩=_;rw[World.cell?_alloc_new,Qae,Qas (by rw[hsz];exact hlt)];rfl
end
inductive zb4 where
 |ret
 |pan (v:V) (recovered:Bool)
def zb4.value:zb4->V
 |.pan v false=>v
 |_=>.nili
theorem LetsOut.mono{Q Q':Exit->Act->World->Prop}(hq:∀e a w,Q e a w->Q' e a w)(h:LetsOut Q):LetsOut Q':=by
 obtain⟨a,w,h⟩:=h;exact⟨a,w,hq _ _ _ h⟩
def zri(W:World)(g:Gh)(H:zz2):zb4->FrameMode->Prop
 |.ret,u=>u = .returning
 |.pan v r,u=>∃c,u = .panicking [{v:=c,recovered:=r}]∧Rel W g H v c
theorem zri.mono{W:World}{g:Gh}{H:zz2}{m:zb4}{u:FrameMode}(h:zri W g H m u){W':World}{g':Gh}{H':zz2}(s:Step W g H W' g' H'):zri W' g' H' m u:=by
 cases m with
 |ret=>exact h
 |pan v r=>obtain⟨c,h1,h2⟩:=h;exact⟨c,h1,h2.mono s⟩
theorem zri.run{W:World}{g:Gh}{H:zz2}{m:zb4}{u:FrameMode}(h:zri W g H m u):u ≠ .run:=by
 cases m with
 |ret=>subst h;simp
 |pan v r=>obtain⟨c,h1,h2⟩:=h;subst h1;simp
def y8p(W0:World)(g0:Gh)(H0:zz2)(c₀:Frame)(cs:List Frame)(Q:zz7->St->Prop)(m':zb4)(e:Exit)(a:Act)(cs':List Frame)(W:World):Prop :=
 ∃g σ e' u',y25 W g σ.H e e'∧(σ.e0=H0.E∧Step W0 g0 H0 W g σ.H)∧kz8 W a g σ∧cs'={c₀ with mode:=u'}::cs∧zri W g σ.H m' u'∧Q e' σ
theorem y8p.out{W0:World}{g0:Gh}{H0:zz2}{c₀:Frame}{cs:List Frame}{Q:zz7->St->Prop}{m':zb4}{a:Act}{cs':List Frame}{W:World}:¬y8p W0 g0 H0 c₀ cs Q m' .outgrown a cs' W:=λ⟨_,_,_,_,h,_⟩=>by cases h
section
variable {P : Program}
theorem zwu{n:Nat}{W:World}{g:Gh}{H:zz2}{args:List V}{cargs:Array Value}(hG:Good W g H)(hA:z84 W g H args cargs):kz8 W {tmps:=cargs++Array.replicate (n-cargs.size) undef,defers:=[]} g ⟨args++List.replicate (n-args.length) .any,H,[],H.E⟩:=by
 refine⟨hG,by simp[hA.1],λj v hj =>?_,rfl,by simp⟩;rw[Qbb]at hj;split at hj;rename_i hlt;rw[zzx (by rw[hA.1];exact hlt)];exact hA.2 j v hj;rw[Qbl]at hj;split at hj;injection hj with hj;subst hj;exact .any _;cases hj
end
def PV.v:PV->V
 |.bool b=>.bool b
 |.int k n=>.int k n
 |.str s=>.str s
theorem PV.rel{W:World}{g:Gh}{H:zz2}:∀p:PV,Rel W g H p.v p.c
 |.bool b=>.bool b
 |.int k n=>.int k n
 |.str s=>.str s
theorem PV.of{W:World}{g:Gh}{H:zz2}:∀{p:PV}{c:Value},Rel W g H p.v c->c=p.c
 |.bool b,c,h=>by cases h;rfl
 |.int k n,c,h=>by cases h;rfl
 |.str s,c,h=>by cases h;rfl
section
variable {P : Program} {W : World} {g : Gh} {H : zz2}
theorem y5b{H':zz2}{i:Nat}{es:List (PV×PV)}(hG:Good W g H)(hget:H.get H.lv i=some (.map (es.map λp=>(p.1.v,p.2.v))))(hno:¬Own g H' (g.blk H.lv i)){c:Value}(h:Rel W g H (.map H.lv i) c):Rel W g H' (.mapc es) c:=by
 obtain⟨en,clock,m1,m2,m3,m4,m5⟩:=hG.obj _ _ _ hget
 cases h with
 |map _ _ hd=>
  refine .mapc es _ en clock hno m1 ⟨by simpa using m2,m3,m4,λj p hj =>?_⟩;obtain⟨e,he,r1,r2⟩:=m5 j (p.1.v,p.2.v) (by rw[Qan,hj];rfl);exact⟨e,he,PV.of r1,PV.of r2⟩
theorem zvs(hG:Good W g H){t kt vt:Nat}{es:List (PV×PV)}{c:Value}(ht:P.underlying t=some (.map kt vt))(hx:Rel W g H (.mapc es) c):z0y P W g H (do pure (.value (<-Instr.range t c))) (.ptr H.lv H.L.length 0) (H.push (.mit es [])):=by
 cases hx with
 |mapc _ b en clock hb hw he=>
  obtain⟨h1,h2⟩:=z5m hG (O:=.mapIter (some b) clock #[] clock) (o:=.mit es []) 0 (λW' g' H' hW hg hH hst=>by
   refine⟨en,clock,b,?_,?_,?_,he⟩;rw[hW,hg];simp only[Gh.add,and_self,if_true];exact kzt _ _;intro hn;have hlt:b<W.heap.size:=(Qbk.1 hw).1;exact(hst.own _ hn).elim hb (λq=>by omega);have hlt:b<W.heap.size:=(Qbk.1 hw).1
   rw[hst.block _ hlt hb];exact hw)
  refine⟨.pointer (some ⟨W.heap.size,0,none⟩),_,_,.inl ?_,h1,h2,?_⟩;simp[Instr.range,yz3 ht,getObj,Sem.run,hw,newObj];have:=Rel.ptr (W:=W.alloc (.mapIter (some b) clock #[] clock)) (g:=g.add H.lv H.L.length W.heap.size 0) (H:=H.push (.mit es [])) H.lv H.L.length 0 (.inr ⟨rfl,rfl⟩);simpa[Gh.add]using this
theorem zdg{t len e0 sz:Nat}{ps:List (Nat×V)}{ws:List V}{cps:Array (Nat×Value)}(hG:Good W g H)(h:z3d P t len ps=some (.sl sz ws true))(hlen0:len≠0)(hu0:P.underlying t=some (.slice e0))(hl:cps.size=ps.length)
  (hr:∀(j i:Nat) (x:V),ps[j]? = some (i,x)->∃c,cps[j]? = some (i,c)∧Rel W g H x c):z0y P W g H (do pure (.value (<-Instr.buildSlice t len cps))) (.hs H.lv H.L.length 0 0 ws.length false) (H.push (.arr 0 e0 sz ws (some ws.length))):=by
 unfold z3d at h;split at h
 ·rename_i e hu;split at h
  ·rename_i z hz;split at h
   ·rename_i hc;simp only[Qag,Qbj,Qar,Qat]at hc;obtain⟨⟨⟨⟨⟨⟨⟨c1,c2⟩,c3⟩,c4⟩,c5⟩,c6⟩,c7⟩,c8⟩:=hc;injection h with h;obtain⟨inf,hi⟩:=Option.isSome_iff_exists.1 c4;have hsz:(sizeOf e).run P W = .ok (P.cellsOf e) W:=by simp[sizeOf,typeInfo,hi,Program.cellsOf]
    obtain⟨zc,hz1,hz2⟩:=zap (W:=W) (g:=g) (H:=H) hz;obtain⟨zs1,zs3,zs2⟩:=z4k c1 hz2;have hbig:¬(len * P.cellsOf e>2 ^ 24):=by omega
    by_cases h0:len=0;exact(hlen0 h0).elim
    ·try rw[Qbs h0]at h
     injection h with hsz' hws _;subst hsz';subst hws
     have he0:e0=e:=by rw[hu]at hu0;injection hu0 with hu0;injection hu0 with hu0;exact hu0.symm
     rw[he0]
     have hne:¬(len * P.cellsOf e=0):=by
      intro hm
      rcases Nat.mul_eq_zero.1 hm with q|q <;> omega
     let cells0:Array Value:=(Array.range (len * P.cellsOf e)).map (zc.cells[· % zc.cells.size]!)
     let zl:List V:=(List.range (len * P.cellsOf e)).map λi=>z.cells.getD (i % z.cells.length) .any
     have hrel0:zdw W g H zl cells0:=by
      have key:∀j v,zl[j]? = some v->∃k,z.cells[k]? = some v∧cells0.getD j undef=zc.cells.getD k undef:=λj v hj=>by
       have hjl:j<len * P.cellsOf e:=by
        have:=(Qaa.1 hj).1;simpa[zl]using this
       simp only[zl,Qan,List.getElem?_range hjl,Qbn,Qbo]at hj;have hm:j % z.cells.length<z.cells.length:=Nat.mod_lt _ (by omega)
       have hv:z.cells[j % z.cells.length]? = some v:=by
        rw[Qba,Qab hm]at hj;simp only[Option.getD_some]at hj;rw[Qab hm,hj]
       have hm2:j % zc.cells.size<zc.cells.size:=by rw[zs1];exact hm
       refine⟨_,hv,?_⟩;have hr:(Array.range (len * P.cellsOf e))[j]? = some j:=by simp[hjl]
       simp only[cells0,Qae,Array.getElem?_map,hr,Qbn,Option.getD_some];rw[getElem!_pos zc.cells (j % zc.cells.size) hm2]
       have hz':(zc.cells)[j % z.cells.length]? = some (zc.cells[j % zc.cells.size]):=by
        rw[<-zs1];exact Qas hm2
       rw[hz'];rfl
      refine⟨by simp[zl,cells0],λj v hj =>?_,λj v hj =>?_⟩
      all_goals
       obtain⟨k,hk1,hk2⟩:=key j v hj;rw[hk2]
       first|exact zs3 _ _ hk1|exact zs2 _ _ hk1
     have hfv:=zdx ps 0 zl c6 c7 (by simp[zl,c5]);simp only[Nat.zero_mul,List.take_zero,List.nil_append]at hfv;obtain⟨rs,e1,e2⟩:=z8w ps cps.toList zl cells0 _ hfv hrel0 (by simpa using hl) (λj i x hj=>by simpa using hr j i x hj)
     have hxs:∀x∈ps.map (·.2),x.cells.length=P.cellsOf e:=λx hx=>by
      obtain⟨p,hp,rfl⟩:=Qbd.1 hx;exact(c7 p hp).2
     have hlen:(ps.map (·.2)).length=len:=by simp[c5]
     have hrs:rs.size=len * P.cellsOf e:=by
      rw[e2.1]
      have:∀l:List V,(∀x∈l,x.cells.length=P.cellsOf e)->(l.flatMap V.cells).length=l.length * P.cellsOf e:=by
       intro l
       induction l with
       |nil=>intro _;simp
       |cons x l ih=>
        intro hx;rw[List.flatMap_cons,Qap,ih λy hy=>hx y (by simp[hy]),hx x (by simp),List.length_cons,Nat.succ_mul,Nat.add_comm]
      rw[this _ hxs,hlen]
     have hcl:len<=2 ^ 24:=Qbh (Nat.le_mul_of_pos_right _ c3) c8
     obtain⟨g1,g2⟩:=z5m hG (O:=.cells rs e) (o:=.arr 0 e (P.cellsOf e) (ps.map (·.2)) (some (ps.map (·.2)).length)) len (λW' g' H' hW hg hH hst=>by
      have hcap:g'.cap H.lv H.L.length=len:=by rw[hg];simp[Gh.add]
      refine⟨rs,?_,c3,by rw[hcap,hrs],by rw[hcap];exact Qbh hcl (by decide),by rw[hcap,hlen];exact Qbq _,λn hn=>by injection hn with hn;rw[hcap,<-hn,hlen],λj x hj=>hxs x (Qax hj),λj x t v hj ht=>e2.2.1 _ _ (zao _ hxs j t x v hj ht),λj x t v hj ht=>(e2.2.2 _ _ (zao _ hxs j t x v hj ht)).mono hst⟩;rw[hW,hg];simp only[Gh.add,and_self,if_true]
      exact kzt _ _)
     refine⟨.slice (some ⟨W.heap.size,0,none⟩) len len,_,_,.inl ?_,g1,g2,?_⟩;have e1':Instr.fill (λi=>some (i * P.cellsOf e,P.cellsOf e)) (Array.map (λx=>zc.cells[x % zc.cells.size]!) (Array.range (len * P.cellsOf e))) cps.toList=some rs:=e1;simp only[Instr.buildSlice,Qbu,yz3 hu,Qbv,hsz,Sem.run_ite,hbig,hne,if_false,Sem.run_pure,hz1];simp[e1',newRow];rw[hlen]
     refine .hs _ _ _ _ _ _ _ _ _ (.inr ⟨rfl,rfl⟩) (λv ty sz xs cp hg=>Qbp _) λty sz xs cp hg =>?_
     have hgp:(H.push (.arr 0 e (P.cellsOf e) (ps.map (·.2)) (some len))).get H.lv H.L.length=some (.arr 0 e (P.cellsOf e) (ps.map (·.2)) (some len)):=by
      unfold zz2.get zz2.push;simp
     rw[hgp]at hg;injection hg with hg;injection hg with _ h2 h3 h4 h5;subst h4;refine⟨by simp[Gh.add],rfl,⟨Qbq _,by simp[Gh.add],λh=>by cases h⟩,by rw[hlen];omega⟩
   cases h
  cases h
 cases h
theorem zxz{es:List (PV×PV)}{en:Array MapEntry}{clock:Nat}(he:zyf es en clock):(en.toList.map (·.born)).Nodup:=by
 rw[List.Nodup,List.pairwise_iff_getElem];intro q q' hq hq' hlt' heq;have hq2:q<en.size:=by simpa using hq
 have hq2':q'<en.size:=by simpa using hq'
 have:=he.2.2.1 q q' _ _ (Qas hq2) (Qas hq2') (by simpa using heq);omega
theorem zuy(hG:Good W g H){l i j:Nat}{es:List (PV×PV)}{vis:List Nat}{p:PV×PV}{c:Value}(hg:H.get l i=some (.mit es (vis++[j])))(hj:es[j]? = some p)(hx:Rel W g H (.ptr l i 0) c):z0y P W g H (do pure (.value (<-Instr.entry c))) (.tup [p.1.v,p.2.v]) H:=by
 cases hx with
 |ptr _ _ _ hd=>
  obtain⟨en,clock,mb,h1,h2,h3,h4⟩:=hG.obj _ _ _ hg;obtain⟨e,e1,e2,e3⟩:=h4.2.2.2 j p hj;have hbj:z17 en j=e.born:=by simp[z17,e1]
  have h1':W.heap[g.blk l i]? = some (.mapIter (some mb) clock ((vis.map (z17 en)).toArray.push e.born) clock):=by
   have:(List.map (z17 en) (vis++[j])).toArray=(vis.map (z17 en)).toArray.push e.born:=by simp[hbj]
   rw[<-this];exact h1
  have hent:=run_entry_at (P:=P) W (g.blk l i) mb clock (vis.map (z17 en)).toArray en clock e h1' h3 (by simpa using Array.mem_of_getElem? e1) (zxz h4);refine⟨.tuple #[e.key,e.val],W,g,.inl (by simp[hent]),.refl _ _ _,hG,.tup _ _ rfl λq v hq =>?_⟩
  match q with
  |0=>simp at hq;subst hq;simp only[e2];exact PV.rel _
  |1=>simp at hq;subst hq;simp only[e3];exact PV.rel _
  |q+2=>simp at hq
end
section
variable {P : Program}
theorem y2k{ops:Array Oper}{k:Nat}{σ:St}{Q:zz7->St->Prop}{o:Oper}{x:Operand}{l i:Nat}{es:List (PV×PV)}{vis:List Nat}(ho:ops[k]? = some o)(hw:yzh ops σ o=some true)(hop:o.op = .next x false)(hx:σ.ev x = .ptr l i 0)(hg:σ.H.get l i=some (.mit es vis))
  (hvis:∀q∈vis,q<es.length)
  (hend:(∀j,j<es.length->j∈vis)->z41 P ops (k+1) (σ.put o.dst (.tup [.bool false])) Q)
  (hone:∀j p,es[j]? = some p->j∉vis->z41 P ops (k+1) ({σ with H:=σ.H.set l i (.mit es (vis++[j]))}.put o.dst (.tup [.bool true,p.1.v,p.2.v])) Q):z41 P ops k σ Q:=λW0 g0 H0 W a g hB hS hG=>by
 have hk:k<ops.size:=by
  rcases Nat.lt_or_ge k ops.size with q|q
  exact q;rw[Array.getElem?_eq_none q]at ho;cases ho
 rw[show ops.size-k=(ops.size-(k+1))+1 by omega,List.range'_succ];simp only[wpOps,ho];rw[yzn hG hw,Qbr rfl];left;unfold Oper.wp;have hr:=hG.ev x;rw[hx]at hr;generalize hit:a.eval x=cx at hr
 cases hr with
 |ptr _ _ _ hd=>
  obtain⟨en,clock,mb,h1,h2,h3,h4⟩:=hG.good.obj _ _ _ hg;obtain⟨m2,m3,m4,m5⟩:=h4;replace h1:W.heap[g.blk l i]? = some (.mapIter (some mb) clock (vis.map (z17 en)).toArray clock):=h1;have hlt:g.blk l i<W.heap.size:=hG.good.lt _ _ _ hg;have hhold:∀y∈en.toList,y.born<clock:=λy hy=>m3 y (by simpa using hy)
  have hborn:∀j,j<es.length->∃e,en[j]? = some e∧z17 en j=e.born:=λj hj=>by
   have hj':j<en.size:=by rw[m2];exact hj
   exact⟨en[j],Qas hj',by simp[z17,hj']⟩
  have hinj:∀j j',j<es.length->j'<es.length->z17 en j=z17 en j'->j=j':=λj j' hj hj' he=>by
   obtain⟨e,e1,e2⟩:=hborn j hj;obtain⟨e',e3,e4⟩:=hborn j' hj';exact m4 j j' e e' e1 e3 (by rw[<-e2,<-e4,he])
  rcases run_next_at (P:=P) W o.type (g.blk l i) mb clock clock _ en clock h1 h3 hhold (Qbq _)with ⟨hz,hrr⟩|⟨e,he,w1,hw1,hrr⟩
  ·have hall:∀j,j<es.length->j∈vis:=λj hj=>by
    obtain⟨e,e1,e2⟩:=hborn j hj
    have hno:¬e∈leftOf en (vis.map (z17 en)).toArray:=λhm=>by
     have:=Array.size_pos_of_mem hm;omega
    have hmem:e∈en:=Array.mem_of_getElem? e1
    have:(vis.map (z17 en)).contains e.born=true:=by
     cases hc:(vis.map (z17 en)).contains e.born;exact(hno (by unfold leftOf;rw[Array.mem_filter];exact⟨hmem,by simpa using hc⟩)).elim;rfl
    rw[List.contains_iff_mem,Qbd]at this;obtain⟨q,hq,hqb⟩:=this;rw[<-e2]at hqb;rw[<-hinj q j (hvis q hq) hj hqb];exact hq
   have hex:(execOp a.eval o).run P W = .ok (.value (.tuple #[.bool false])) W:=by unfold execOp;rw[hop];simp[hit,hrr]
   have hn:=hG.next (.refl _ _ _) hG.good (v:=.tup [.bool false]) (c:=.tuple #[.bool false]) (.tup _ _ rfl (λj v hj=>by
    cases j with
    |zero=>simp at hj;subst hj;exact .bool _
    |succ j=>simp at hj)) o.dst
   have hH:(σ.put o.dst (.tup [.bool false])).H=σ.H:=by cases o.dst <;> rfl
   have he0:(σ.put o.dst (.tup [.bool false])).e0=σ.e0:=by cases o.dst <;> rfl
   rw[hex];exact hend hall W0 g0 H0 W _ g hB (by rw[hH,he0];exact hS) hn
  ·have he2:e∈en∧(vis.map (z17 en)).contains e.born=false:=by
    have he':e∈leftOf en (vis.map (z17 en)).toArray:=by simpa using he
    unfold leftOf at he';rw[Array.mem_filter]at he';exact⟨he'.1,by simpa using he'.2⟩
   obtain⟨j,hjl,hje⟩:=Array.getElem_of_mem he2.1;have hj:j<es.length:=by rw[<-m2];exact hjl
   have hjs:en[j]? = some e:=by rw[Qas hjl,hje]
   have hbj:z17 en j=e.born:=by simp[z17,hjs]
   have hnv:j∉vis:=λhm=>by
    have:e.born∈vis.map (z17 en):=Qbd.2 ⟨j,hm,hbj⟩;rw[<-List.contains_iff_mem,he2.2]at this;cases this
   have hp:es[j]? = some es[j]:=Qab hj;obtain⟨e',he',r1,r2⟩:=m5 j _ hp
   obtain rfl:e'=e:=by rw[hjs]at he';injection he' with h;exact h.symm
   have hw1h:w1.heap=W.heap:=by rcases hw1 with rfl|rfl <;> rfl
   have hheap:∀q,q≠g.blk l i->∀O,(Go.ChangeMaps.setBlock w1 (g.blk l i) O).heap[q]? = W.heap[q]? := λq hq O=>by
    show(w1.heap.setIfInBounds (g.blk l i) O)[q]? = _;rw[Array.getElem?_setIfInBounds_ne (λh=>hq h.symm),hw1h]
   have hat:∀O,(Go.ChangeMaps.setBlock w1 (g.blk l i) O).heap[g.blk l i]? = some O:=λO=>by
    show(w1.heap.setIfInBounds (g.blk l i) O)[g.blk l i]? = _;rw[Array.getElem?_setIfInBounds_self_of_lt (by rw[hw1h];exact hlt)]
   have hne:mb≠g.blk l i:=λe=>by rw[e,h1]at h3;cases h3
   obtain⟨s1,s2⟩:=z5y hG.good (o':=.mit es (vis++[j])) hg rfl (W':=Go.ChangeMaps.setBlock w1 (g.blk l i) (.mapIter (some mb) clock ((vis.map (z17 en)).toArray.push e'.born) clock))
    (by rcases hw1 with rfl|rfl <;> rfl) (by rcases hw1 with rfl|rfl <;> rfl) (by rcases hw1 with rfl|rfl <;> rfl)
    (by show W.heap.size<=(w1.heap.setIfInBounds _ _).size;rw[Array.size_setIfInBounds,hw1h];exact Qbq _)
    (λb hb hbn=>hheap b hbn _) (λver ty sz xs cp he=>by cases he) (λhst=>by
      refine⟨en,clock,mb,?_,λhn=>(hst.own _ hn).elim h2 (λq =>?_),?_,⟨m2,m3,m4,m5⟩⟩;rw[hat];have:(List.map (z17 en) (vis++[j])).toArray=(vis.map (z17 en)).toArray.push e'.born:=by simp[hbj]
      rw[<-this];have:=(Qbk.1 h3).1;omega
      rw[hheap _ hne];exact h3)
   have hex:(execOp a.eval o).run P W = .ok (.value (.tuple #[.bool true,e'.key,e'.val])) (Go.ChangeMaps.setBlock w1 (g.blk l i) (.mapIter (some mb) clock ((vis.map (z17 en)).toArray.push e'.born) clock)):=by
    unfold execOp;rw[hop];simp[hit,hrr]
   have hn:=hG.next s1 s2 (v:=.tup [.bool true,es[j].1.v,es[j].2.v]) (c:=.tuple #[.bool true,e'.key,e'.val]) (.tup _ _ rfl (λq v hq=>by
    match q with
    |0=>simp at hq;subst hq;exact .bool _
    |1=>simp at hq;subst hq;simp only[r1];exact PV.rel _
    |2=>simp at hq;subst hq;simp only[r2];exact PV.rel _
    |q+3=>simp at hq)) o.dst
   have hH:({σ with H:=σ.H.set l i (.mit es (vis++[j]))}.put o.dst (.tup [.bool true,es[j].1.v,es[j].2.v])).H=σ.H.set l i (.mit es (vis++[j])):=by cases o.dst <;> rfl
   have he0:({σ with H:=σ.H.set l i (.mit es (vis++[j]))}.put o.dst (.tup [.bool true,es[j].1.v,es[j].2.v])).e0=σ.e0:=by cases o.dst <;> rfl
   rw[hex];exact hone j es[j] hp hnv W0 g0 H0 _ _ g hB (by rw[hH,he0];exact⟨hS.1,hS.2.trans s1⟩) hn
end
section
variable {P : Program}
theorem y1v{σ:St}{i:Nat}{es:List (PV×PV)}(hi:σ.H.L[i]? = some (some (.map (es.map λp=>(p.1.v,p.2.v)))))(hd:σ.d=[]){os os':List (Nat×yz4)}(h5:(os.map (·.1)).Nodup)(hos:FOL (.map σ.H.lv i) (.mapc es) os os')(h4:∀p∈os,σ.H.L[p.1]? = some (some p.2)∧p.1≠i)
  {t':List V} (ht:FVL (.map σ.H.lv i) (.mapc es) σ.t t') :
  zag σ ⟨t',⟨σ.H.lv,told σ.H.L (some i) os',σ.H.E⟩,[],σ.e0⟩∧(∀p'∈os',(told σ.H.L (some i) os')[p'.1]? = some (some p'.2))∧∀n,n<σ.H.L.length->n≠i->(∀p∈os,p.1≠n)->(told σ.H.L (some i) os')[n]? = σ.H.L[n]? := by
 have hnd:(os'.map (·.1)).Nodup:=by rw[hos.map];exact h5
 have hfind:∀p'∈os',os'.find? (λp=>p.1==p'.1)=some p':=λp' hp'=>by
  cases hq:os'.find? (λp=>p.1==p'.1)with
  |none=>rw[List.find?_eq_none]at hq;have:=hq p' hp';simp at this
  |some q=>
   have hq1:=List.find?_some hq;have hq2:=List.mem_of_find?_eq_some hq;simp at hq1;obtain⟨a,ha⟩:=List.mem_iff_getElem?.1 hp';obtain⟨b,hb⟩:=List.mem_iff_getElem?.1 hq2;have ha':(os'.map (·.1))[a]? = some p'.1:=by simp[ha]
   have hb':(os'.map (·.1))[b]? = some p'.1:=by simp[hb,hq1]
   have hlt:=(Qaa.1 ha').1;have:=(List.getElem?_inj hlt hnd).1 (ha'.trans hb'.symm);subst this;rw[ha]at hb;exact hb.symm
 have hfor:∀p'∈os',∃o,σ.H.L[p'.1]? = some (some o)∧p'.1≠i∧FO (.map σ.H.lv i) (.mapc es) o p'.2:=λp' hp'=>by
  obtain⟨o,ho,hf⟩:=hos.mem p' hp';exact⟨o,(h4 _ ho).1,(h4 _ ho).2,hf⟩
 refine⟨?_,λp' hp' =>?_,λn hn hni hno =>?_⟩;refine zn9 (v:=.map σ.H.lv i) (r:=.mapc es) (z7j _ _ _) (λm o' hm =>?_) ht hd λW g hG hown hf c hc =>?_
 have hlt:m<σ.H.L.length:=by have:=(Qaa.1 hm).1;rw[z7j]at this;exact this
 rw[z4w hlt]at hm;injection hm with hm;split at hm;cases hm;split at hm;rename_i p hp;injection hm with hm;have hp1:=List.find?_some hp;simp at hp1;obtain⟨o,h1,_,h3⟩:=hfor p (List.mem_of_find?_eq_some hp);exact⟨o,by rw[<-hp1];exact h1,by rw[<-hm];exact h3⟩;refine⟨o',?_,.inl rfl⟩;rw[Qab hlt]at hm ⊢;simp at hm;rw[hm]
 have hget:σ.H.get σ.H.lv i=some (.map (es.map λp=>(p.1.v,p.2.v))):=by unfold zz2.get;rw[Qbr rfl,hi];rfl
 refine y5b hG hget (λ⟨l,i',o',ho',hob⟩ =>?_) hc
 have hgot:∃o,σ.H.get l i'=some o∧o'.blk g l i'=o.blk g l i'∧¬(l=σ.H.lv∧i'=i):=by
  unfold zz2.get at ho' ⊢;dsimp only at ho' ⊢;by_cases hl:l=σ.H.lv;rw[Qbr hl]at ho' ⊢
  cases hq:(told σ.H.L (some i) os')[i']? with
  |none=>rw[hq]at ho';simp at ho'
  |some q=>
   have hlt:i'<σ.H.L.length:=by have:=(Qaa.1 hq).1;rw[z7j]at this;exact this
   rw[z4w hlt]at hq;injection hq with hq;rw[z4w hlt]at ho';simp only[Option.join_some]at ho';split at ho';cases ho';rename_i hne;split at ho';rename_i p hp;injection ho' with ho';have hp1:=List.find?_some hp;simp at hp1;obtain⟨o,h1,_,h3⟩:=hfor p (List.mem_of_find?_eq_some hp);rw[hp1]at h1;exact⟨o,by rw[h1];rfl,by rw[<-ho'];exact h3.blk g l i',λe=>hne (by rw[e.2])⟩;exact⟨o',ho',rfl,λe=>hne (by rw[e.2])⟩
  rw[Qbs hl]at ho' ⊢;exact⟨o',ho',rfl,λe=>hl e.1⟩
 obtain⟨o,w1,w2,w3⟩:=hgot;exact w3 (hG.inj _ _ _ _ _ _ w1 hget (by rw[<-w2];exact hob));obtain⟨o,h1,h2,_⟩:=hfor p' hp';have hlt:=(Qaa.1 h1).1;rw[z4w hlt,Qbs (λe=>h2 (by injection e with e;exact e.symm)),hfind p' hp'];rw[z4w hn,Qbs (λe=>hni (by injection e with e;exact e.symm))]
 have:os'.find? (λp=>p.1==n)=none:=by
  rw[List.find?_eq_none];intro p hp;have:p.1∈os.map (·.1):=by rw[<-hos.map];exact List.mem_map_of_mem hp
  obtain⟨q,hq,hqn⟩:=Qbd.1 this;have:=hno q hq;simp;omega
 rw[this,Qab hn];rfl
end
section
variable {P : Program} {ops : Array Oper} {md : Region.Mode}
abbrev Key:=Nat×Option Nat
def cellAt(o:Option (Option yz4))(c:Nat):Option V:=match o with
 |some (some (.cells cs))=>cs[c]?
 |_=>none
def obs(H:zz2)(x:Key):Option (Option yz4)×Option V:=match x.2 with
 |none=>(H.L[x.1]?,none)
 |some c=>(none,cellAt H.L[x.1]? c)
theorem zsl{H H':zz2}{x:Key}(h:H'.L[x.1]? = H.L[x.1]?):obs H' x=obs H x:=by unfold obs;rw[h]
structure Info where
 eff:Bool
 K:Key->Prop
 W:Key->Prop
 call:Bool:=false
def zew(K:Key->Prop)(H H':zz2):Prop:=∀i,K i->obs H' i=obs H i
theorem zew.refl(K:Key->Prop)(H:zz2):zew K H H:=λ_ _=>rfl
theorem zew.trans{K:Key->Prop}{A B C:zz2}(h:zew K A B)(k:zew K B C):zew K A C:=λi hi=>(k i hi).trans (h i hi)
theorem zew.symm{K:Key->Prop}{A B:zz2}(h:zew K A B):zew K B A:=λi hi=>(h i hi).symm
def y1u(op:Op):Bool:=match op with
 |.alloc _| .box _ _| .store _ _ _=>true
 |.call c=>(match c.callee with
  |.builtin .append=>true
  |.builtin .unsafeString=>true
  |_=>false)
 |_=>false
theorem zk2{H:zz2}{ρ ρ':Operand->V}{o:Op}(h:∀x∈o.operands,ρ x=ρ' x):zbf P H ρ o=zbf P H ρ' o:=by
 cases o
 case makeSlice t n c=>simp only[zbf,h n (by simp[Op.operands]),h c (by simp[Op.operands])]
 case convert s d x=>simp only[zbf,h x (by simp[Op.operands])]
 case binOp op t x y _=>simp only[zbf,h x (by simp[Op.operands]),h y (by simp[Op.operands])]
 case call c=>
  simp only[zbf];split;split;rename_i x ha;rw[h x (by simp[Op.operands,Call.operands];right;rw[<-Array.mem_toList_iff,ha];simp)];rfl;split;rename_i p n pt it ha ht;rw[h p (by simp[Op.operands,Call.operands];right;rw[<-Array.mem_toList_iff,ha];simp),h n (by simp[Op.operands,Call.operands];right;rw[<-Array.mem_toList_iff,ha];simp)];rfl;rfl
 all_goals rfl
def QP(P:Program)(H:zz2)(ρ:Operand->V)(o:Oper)(v:V):Prop:=pv P H ρ o.op=some v∨(∃c f args,o.op = .call c∧target ρ c=some (f,args)∧zf7 P f args H v H)∨zbf P H ρ o.op=some (v,H)∨(∃t n c,o.op = .makeSlice t n c∧z6p P t (ρ n) (ρ c)=some v)∨∃c s x t u,o.op = .call c∧c.callee = .builtin .append∧c.args.toList=[s,x]∧c.argTypes.toList=[t,u]∧zd8 P t u (ρ s) (ρ x)=some v
theorem z92{H:zz2}{ρ ρ':Operand->V}{o:Oper}{v:V}(h:∀x∈o.op.operands,ρ x=ρ' x)(hq:QP P H ρ o v):QP P H ρ' o v:=by
 rcases hq with hq|⟨c,f,args,h1,h2,h3⟩|hq|⟨t,n,c,h1,h2⟩|⟨c,s,x,t,u,h1,h2,h3,h4,h5⟩
 exact .inl (by rw[<-zw8 h];exact hq);exact .inr (.inl ⟨c,f,args,h1,by rw[<-z8e (ρ:=ρ) (λx hx=>h x (by rw[h1];exact hx))];exact h2,h3⟩);exact .inr (.inr (.inl (by rw[<-zk2 h];exact hq)));exact .inr (.inr (.inr (.inl ⟨t,n,c,h1,by rw[<-h n (by rw[h1];simp[Op.operands]),<-h c (by rw[h1];simp[Op.operands])];exact h2⟩)))
 exact .inr (.inr (.inr (.inr ⟨c,s,x,t,u,h1,h2,h3,h4,by
  rw[<-h s (by rw[h1];simp[Op.operands,Call.operands];right;rw[<-Array.mem_toList_iff,h3];simp),<-h x (by rw[h1];simp[Op.operands,Call.operands];right;rw[<-Array.mem_toList_iff,h3];simp)];exact h5⟩)))
def zan(P:Program)(H:zz2)(ρ:Operand->V)(op:Op)(v:V)(H':zz2):Prop:=∃t len ps e sz ws,op = .buildSlice t len ps∧z3d P t len (partsOf ρ ps)=some (.sl sz ws true)∧len≠0∧P.underlying t=some (.slice e)∧v = .hs H.lv H.L.length 0 0 ws.length false∧H'=H.push (.arr 0 e sz ws (some ws.length))
theorem zan.sound{W:World}{g:Gh}{H H':zz2}{ρ:Operand->V}{r:Operand->Value}{o:Oper}{v:V}(hG:Good W g H)(hρ:∀x,Rel W g H (ρ x) (r x))(h:zan P H ρ o.op v H'):z0y P W g H (execOp r o) v H':=by
 obtain⟨t,len,ps,e,sz,ws,hop,b1,hlen,hu,rfl,rfl⟩:=h;unfold execOp;rw[hop];obtain⟨r1,r2⟩:=z8m hρ ps;exact zdg hG b1 hlen hu r1 r2
theorem zan.congr{H H':zz2}{ρ ρ':Operand->V}{o:Op}{v:V}(h:∀x∈o.operands,ρ x=ρ' x)(hx:zan P H ρ o v H'):zan P H ρ' o v H':=by
 obtain⟨t,len,ps,e,sz,ws,rfl,b1,b2⟩:=hx;refine⟨t,len,ps,e,sz,ws,rfl,?_,b2⟩;rw[<-b1]
 congr 1
 unfold partsOf;refine List.map_congr_left λp hp =>?_
 rw[h p.2 (List.mem_toArray.2 (Qbd.2 ⟨p,hp,rfl⟩))]
def Eff2(P:Program)(H:zz2)(ρ:Operand->V)(op:Op)(v:V)(H':zz2):Prop:=(y1u op=true∧ox P H ρ op=some (v,H'))∨zbf P H ρ op=some (v,H')∨zan P H ρ op v H'
theorem y3n{H:zz2}{ρ ρ':Operand->V}{o:Op}(he:y1u o=true)(h:∀x∈o.operands,ρ x=ρ' x):ox P H ρ o=ox P H ρ' o:=by
 cases o
 case alloc t=>rfl
 case box t x=>simp only[ox,h x (by simp[Op.operands])]
 case store t a x=>simp only[ox,h x (by simp[Op.operands]),h a (by simp[Op.operands])]
 case call c=>
  simp only[y1u]at he;split at he;rename_i hc;simp only[ox,hc];split;rename_i s x t u ha ht;rw[h s (by simp[Op.operands,Call.operands];right;rw[<-Array.mem_toList_iff,ha];simp),h x (by simp[Op.operands,Call.operands];right;rw[<-Array.mem_toList_iff,ha];simp)];rfl;rename_i hc;simp only[ox,hc,pv,z33];cases he
 all_goals cases he
theorem zbs{H H':zz2}{ρ ρ':Operand->V}{o:Op}{v:V}(h:∀x∈o.operands,ρ x=ρ' x)(hx:Eff2 P H ρ o v H'):Eff2 P H ρ' o v H' :=
 hx.imp (λq=>⟨q.1,by rw[<-y3n q.1 h];exact q.2⟩) λq=>q.imp (λq=>by rw[<-zk2 h];exact q) λq=>q.congr h
def MV(P:Program)(ops:Array Oper)(S:zz2->Prop)(c:Info)(σ:St)(o:Oper)(v:V)(H':zz2):Prop :=
 (yzh ops σ o=some false∧v = .tup []∧H'=σ.H) ∨
 (yzh ops σ o=some true∧S σ.H ∧
  ((c.eff=false∧H'=σ.H∧∀H'',S H''->zew c.K σ.H H''->QP P H'' σ.ev o v) ∨
   (c.eff=true∧True∧Eff2 P σ.H σ.ev o.op v H'∧S H'∧∀i,¬c.W i->obs H' i=obs σ.H i)))
def zzq(σ:St)(o:Oper)(v:V)(H':zz2):St:=({σ with H:=H'}:St).put o.dst v
theorem zhy{σ:St}{o:Oper}{v:V}{H':zz2}{x:Operand}(h:∀d,o.dst=some d->x ≠ .tmp d):(zzq σ o v H').ev x=σ.ev x :=
 (y3e (σ:={σ with H:=H'}) h).trans (by cases x <;> rfl)
theorem z5x{σ:St}{o:Oper}{v:V}{H':zz2}:(zzq σ o v H').H=H':=zyw
theorem z8a{σ:St}{o oj:Oper}{v:V}{H':zz2}(h:∀d,o.dst=some d->d∉oj.looksAt ops):yzh ops (zzq σ o v H') oj=yzh ops σ oj :=
 (zk9 (σ:={σ with H:=H'}) h).trans rfl
theorem zg1{σ:St}{oi oj:Oper}{v u:V}{A B C:zz2}(h:∀d,oi.dst=some d->oj.dst≠some d):zzq (zzq σ oi v A) oj u C=zzq (zzq σ oj u B) oi v C:=by
 have e1:∀(o:Oper) (w:V) (H:zz2),({zzq σ o w H with H:=C}:St)=({σ with H:=C}:St).put o.dst w:=λo w H=>by unfold zzq;cases o.dst <;> rfl
 unfold zzq at e1 ⊢;rw[e1,e1];exact put_comm v u h
theorem y7e{S:zz2->Prop}{ci cj:Info}{oi oj:Oper}(hap:oi.apart ops oj=true)(hee:¬(ci.eff=true∧cj.eff=true))(hij:ci.eff=false->cj.eff=true->∀x,ci.K x->¬cj.W x)(hji:cj.eff=false->ci.eff=true->∀x,cj.K x->¬ci.W x)
  {σ:St} {v u:V}{H1 H2:zz2}(h1:MV P ops S ci σ oi v H1) (h2:MV P ops S cj (zzq σ oi v H1) oj u H2) :
  ∃H1',MV P ops S cj σ oj u H1'∧MV P ops S ci (zzq σ oj u H1') oi v H2:=by
 obtain⟨a1,a2,a3⟩:=Oper.apart_spec hap;have evj:∀{w:V}{H:zz2},∀x∈oj.op.operands,(zzq σ oi w H).ev x=σ.ev x:=λ{w H} x hx=>zhy λd hd=>z48 (a1 d hd) x hx
 have evi:∀{w:V}{H:zz2},∀x∈oi.op.operands,(zzq σ oj w H).ev x=σ.ev x:=λ{w H} x hx=>zhy λd hd=>z48 (a3 d hd) x hx
 have wj:∀{w:V}{H:zz2},yzh ops (zzq σ oi w H) oj=yzh ops σ oj:=z8a a1;have wi:∀{w:V}{H:zz2},yzh ops (zzq σ oj w H) oi=yzh ops σ oi:=z8a a3;unfold MV at h1 h2 ⊢;rw[wj,z5x]at h2;simp only[wi,z5x]
 rcases h1 with ⟨b1,rfl,rfl⟩|⟨b1,bs,⟨b2,rfl,b3⟩|⟨b2,b3,b4,b5,b6⟩⟩
 rcases h2 with ⟨d1,rfl,rfl⟩|⟨d1,ds,⟨d2,rfl,d3⟩|⟨d2,d3,d4,d5,d6⟩⟩
 exact⟨σ.H,.inl ⟨d1,rfl,rfl⟩,.inl ⟨b1,rfl,rfl⟩⟩;exact⟨σ.H,.inr ⟨d1,ds,.inl ⟨d2,rfl,λH'' k1 k2=>z92 evj (d3 H'' k1 k2)⟩⟩,.inl ⟨b1,rfl,rfl⟩⟩;exact⟨H2,.inr ⟨d1,ds,.inr ⟨d2,d3,zbs evj d4,d5,d6⟩⟩,.inl ⟨b1,rfl,rfl⟩⟩
 rcases h2 with ⟨d1,rfl,rfl⟩|⟨d1,ds,⟨d2,rfl,d3⟩|⟨d2,d3,d4,d5,d6⟩⟩
 exact⟨σ.H,.inl ⟨d1,rfl,rfl⟩,.inr ⟨b1,bs,.inl ⟨b2,rfl,λH'' k1 k2=>z92 (λx hx=>(evi x hx).symm) (b3 H'' k1 k2)⟩⟩⟩;exact⟨σ.H,.inr ⟨d1,ds,.inl ⟨d2,rfl,λH'' k1 k2=>z92 evj (d3 H'' k1 k2)⟩⟩,.inr ⟨b1,bs,.inl ⟨b2,rfl,λH'' k1 k2=>z92 (λx hx=>(evi x hx).symm) (b3 H'' k1 k2)⟩⟩⟩
 refine⟨H2,.inr ⟨d1,ds,.inr ⟨d2,d3,zbs evj d4,d5,d6⟩⟩,.inr ⟨b1,d5,.inl ⟨b2,rfl,λH'' k1 k2=>z92 (λx hx=>(evi x hx).symm) (b3 H'' k1 (zew.trans (λx hx=>d6 x (hij b2 d2 x hx)) k2))⟩⟩⟩
 rcases h2 with ⟨d1,rfl,rfl⟩|⟨d1,ds,⟨d2,rfl,d3⟩|⟨d2,d3,d4,d5,d6⟩⟩
 exact⟨σ.H,.inl ⟨d1,rfl,rfl⟩,.inr ⟨b1,bs,.inr ⟨b2,b3,zbs (λx hx=>(evi x hx).symm) b4,b5,b6⟩⟩⟩;have hs:zew cj.K σ.H H2:=λx hx=>b6 x (hji d2 b2 x hx)
 exact⟨σ.H,.inr ⟨d1,bs,.inl ⟨d2,rfl,λH'' k1 k2=>z92 evj (d3 H'' k1 (hs.symm.trans k2))⟩⟩,.inr ⟨b1,bs,.inr ⟨b2,b3,zbs (λx hx=>(evi x hx).symm) b4,b5,b6⟩⟩⟩;exact(hee ⟨b2,d2⟩).elim
def MC(P:Program)(ops:Array Oper)(S:zz2->Prop)(c:Info)(σ:St)(o:Oper)(K:V->zz2->Prop)(Kp:V->St->Prop):Prop :=
 c.eff=true∧c.call=true∧yzh ops σ o=some true∧∃cl f args Post,o.op = .call cl∧target σ.ev cl=some (f,args)∧zkz P f args σ.H Post ∧
  (∀v H',Post (.ret v) H'->S H'∧(∀i,¬c.W i->obs H' i=obs σ.H i)∧K v H')∧∀v H',Post (.pan v) H'->Kp v {σ with H:=H'}
theorem MC.imp{S:zz2->Prop}{c:Info}{σ:St}{o:Oper}{K K':V->zz2->Prop}{Kp:V->St->Prop}(h:MC P ops S c σ o K Kp)(hk:∀v H',S H'->(∀i,¬c.W i->obs H' i=obs σ.H i)->K v H'->K' v H'):MC P ops S c σ o K' Kp:=by
 obtain⟨h1,h2,h3,cl,f,args,Post,h4,h5,h6,h7,h8⟩:=h;exact⟨h1,h2,h3,cl,f,args,Post,h4,h5,h6,λv H' hp=>by obtain⟨a,b,c⟩:=h7 v H' hp;exact⟨a,b,hk v H' a b c⟩,h8⟩
inductive Dep (md:Region.Mode) (ops:Array Oper) (a:Nat):Nat->Prop where
 |one (b:Nat) (o:Oper) (e:Edge) (ho:ops[b]? = some o) (he:e∈o.after) (hb:Region.binds md e=true) (hon:e.on=a):Dep md ops a b
 |more (b:Nat) (o:Oper) (e:Edge) (ho:ops[b]? = some o) (he:e∈o.after) (hb:Region.binds md e=true) (h:Dep md ops a e.on):Dep md ops a b
def zpk(md:Region.Mode)(ops:Array Oper)(i j:Nat):Prop:=¬Dep md ops i j∧¬Dep md ops j i
def Down(md:Region.Mode)(ops:Array Oper)(listed:Array Bool):Prop:=∀b o,ops[b]? = some o->listed.getD b false=true->∀e∈o.after,Region.binds md e=true->listed.getD e.on false=true
theorem Down.dep{listed:Array Bool}(h:Down md ops listed){a b:Nat}(hd:Dep md ops a b):listed.getD b false=true->listed.getD a false=true:=by
 induction hd with
 |one b o e ho he hb hon=>intro hl;subst hon;exact h b o ho hl e he hb
 |more b o e ho he hb _ ih=>intro hl;exact ih (h b o ho hl e he hb)
theorem Down.ready{listed:Array Bool}(h:Down md ops listed){a b:Nat}(hb:b∈Region.ready md ops listed)(hd:Dep md ops a b):listed.getD a false=true:=by
 obtain⟨_,o',ho',hall⟩:=mem_ready.1 hb
 cases hd with
 |one _ o e ho he hb hon=>rw[ho']at ho;injection ho with ho;subst ho;subst hon;exact hall e he hb
 |more _ o e ho he hb hd=>rw[ho']at ho;injection ho with ho;subst ho;exact h.dep hd (hall e he hb)
theorem Down.set{listed:Array Bool}(h:Down md ops listed){k:Nat}(hk:k∈Region.ready md ops listed):Down md ops (listed.setIfInBounds k true):=λb o ho hl e he hb=>by
 obtain⟨_,o',ho',hall⟩:=mem_ready.1 hk
 have up:∀j,listed.getD j false=true->(listed.setIfInBounds k true).getD j false=true:=λj hj=>by
  by_cases hjk:k=j;subst hjk
  rcases Nat.lt_or_ge k listed.size with q|q
  simp[Qae,q];simp[Qae,Array.getElem?_eq_none q]at hj;rw[getD_set_ne false hjk];exact hj
 refine up _ ?_;by_cases hbk:k=b;subst hbk
 rw[ho']at ho;injection ho with ho;subst ho
 exact hall e he hb;rw[getD_set_ne false hbk]at hl;exact h b o ho hl e he hb
def y5r(md:Region.Mode)(ops:Array Oper)(i j:Nat)(ci cj:Info):Prop:=zpk md ops i j->(¬(ci.eff=true∧cj.eff=true))∧(ci.eff=false->cj.eff=true->∀x,ci.K x->¬cj.W x)∧(cj.eff=false->ci.eff=true->∀x,cj.K x->¬ci.W x)
def GP(md:Region.Mode)(ops:Array Oper)(prev:List (Nat×Info))(j:Nat)(c:Info):Prop:=∀p∈prev,y5r md ops p.1 j p.2 c
section
variable (P ops) (md) (S : zz2 → Prop) (G : Nat → Info → Prop) (Kp : V → St → Prop)
def GoA(i:Nat)(K:St->Prop)(σ:St):Prop :=
 match ops[i]? with
 |none=>K σ
 |some o=>∃c,G i c∧((∃v H',c.call=false∧MV P ops S c σ o v H'∧K (zzq σ o v H'))∨MC P ops S c σ o (λv H'=>K (zzq σ o v H')) Kp)
def AM(R:St->Prop):Nat->Array Bool->St->Prop
 |0,listed,σ=>Region.ready md ops listed=[]∧R σ
 |fuel+1,listed,σ=>(Region.ready md ops listed=[]->R σ)∧∀i∈Region.ready md ops listed,GoA P ops S G Kp i (AM R fuel (listed.setIfInBounds i true)) σ
end
variable {S : zz2 → Prop} {G G' : Nat → Info → Prop} {Kp : V → St → Prop}
theorem MV.goA{i:Nat}{o:Oper}{v:V}{σ:St}{c:Info}{H':zz2}(hi:ops[i]? = some o)(hc:G i c)(hcl:c.call=false)(hy:MV P ops S c σ o v H'){K:St->Prop}(h:K (zzq σ o v H')):GoA P ops S G Kp i K σ:=by
 unfold GoA;simp only[hi];exact⟨c,hc,.inl ⟨v,H',hcl,hy,h⟩⟩
theorem AM.mono(hg:∀j c,G' j c->G j c){R:St->Prop}:∀(fuel:Nat) (listed:Array Bool) (σ:St),AM P ops md S G' Kp R fuel listed σ->AM P ops md S G Kp R fuel listed σ
 |0,_,_,h=>h
 |fuel+1,listed,σ,h=>⟨h.1,λi hi=>by
  have h1:=h.2 i hi;unfold GoA at h1 ⊢;split;rename_i ho;simp only[ho]at h1;exact AM.mono hg fuel _ _ h1;rename_i o ho;simp only[ho]at h1;obtain⟨c,h0,⟨v,H',hc,h2,h3⟩|hm⟩:=h1;exact⟨c,hg _ _ h0,.inl ⟨v,H',hc,h2,AM.mono hg fuel _ _ h3⟩⟩
  exact⟨c,hg _ _ h0,.inr (hm.imp λv H' _ _ k=>AM.mono hg fuel _ _ k)⟩⟩
theorem zts{W0:World}{g0:Gh}{H0:zz2}{i:Nat}{σ:St}{K:St->Prop}{K':Act->World->Prop}{Q':Exit->Act->World->Prop}
  (hk:∀W a g σ,K σ->(σ.e0=H0.E∧Step W0 g0 H0 W g σ.H)->kz8 W a g σ->K' a W) (hkp:∀W a g σ v c,Kp v σ->(σ.e0=H0.E∧Step W0 g0 H0 W g σ.H)->kz8 W a g σ->Rel W g σ.H v c->Q' (.panic [{v:=c,recovered:=false}]) a W)
  {W:World} {a:Act}{g:Gh}(hh:GoA P ops S G Kp i K σ) (hS:σ.e0=H0.E∧Step W0 g0 H0 W g σ.H) (hG:kz8 W a g σ):wpOp P ops Q' i K' a W:=by
 unfold GoA at hh;unfold wpOp;split;rename_i ho;simp only[ho]at hh;exact hk W a g σ hh hS hG
 ·rename_i o ho;simp only[ho]at hh;obtain⟨c0,_,hh⟩:=hh;have he0:∀{v:V}{H':zz2},(zzq σ o v H').e0=σ.e0:=λ{v H'}=>by unfold zzq;cases o.dst <;> rfl
  rcases hh with ⟨v,H',_,hy,hkk⟩|⟨_,_,hw,cl,f,args,Post,hop,ht,hc,hret,hpan⟩
  ·have fin:∀c W' g',Step W g σ.H W' g' H'->Good W' g' H'->Rel W' g' H' v c->K' (a.put o.dst c) W':=λc W' g' s1 s2 s3=>
    hk W' _ g' _ hkk (by rw[z5x,he0];exact⟨hS.1,hS.2.trans s1⟩) (hG.next s1 s2 s3 o.dst)
   rcases hy with ⟨hw,rfl,rfl⟩|⟨hw,hs,⟨_,rfl,hv⟩|⟨_,_,hv,_,_⟩⟩
   rw[yzn hG hw,Qbs (by simp)];exact fin undef W g (.refl _ _ _) hG.good (.tup [] #[] rfl (by simp));rw[yzn hG hw,Qbr rfl];left;unfold Oper.wp
   rcases hv σ.H hs (.refl _ _)with hv|⟨c,f,args,hop,ht,hcl⟩|hv|⟨t,n,cz,hop,hv⟩|⟨cc,s,x,t,u,hop,hcal,hargs,htys,hv⟩
   obtain⟨c,W',h1,h2,h3⟩:=zi3 (P:=P) hG.good (r:=a.eval) hG.ev hv;rw[h1];exact fin c W' g h2.step (hG.good.grow h2) h3;obtain⟨cargs,k1,k2⟩:=z4r (P:=P) (ty:=o.type) hG.ev ht
   have hex:(execOp a.eval o).run P W=(callFunc f cargs).run P W:=by
    rw[<-k2 W];unfold execOp;rw[hop]
   rcases hcl W g cargs hG.good k1 with ⟨e1,e2⟩|⟨c,W',g',e1,e2,e3,e4⟩
   rw[hex,e1];refine e2.mono λe W' ⟨c,g',he,s1,s2,s3⟩ =>?_
   subst he;exact fin c W' g' s1 s2 s3;rw[hex,e1];exact fin c W' g' e2 e3 e4;obtain⟨c,W',g',h1,h2,h3,h4⟩:=zby (P:=P) hG.good hG.ev hv
   rcases h1 with h1|⟨h1,h1'⟩
   rw[h1];exact fin c W' g' h2 h3 h4;rw[h1];subst h1';exact fin _ W' g' h2 h3 h4;obtain⟨c,W',g',h1,h2,h3,h4⟩:=zm6 (P:=P) hG.good hv (hG.ev n) (hG.ev cz);have hex:(execOp a.eval o).run P W=(do pure (.value (<-Instr.makeSlice t (a.eval n) (a.eval cz))):Sem Next).run P W:=by unfold execOp;rw[hop]
   rw[hex]
   rcases h1 with h1|⟨h1,h1'⟩
   rw[h1];exact fin c W' g' h2 h3 h4;rw[h1];subst h1';exact fin _ W' g' h2 h3 h4;obtain⟨c,W',g',h1,h2,h3,h4⟩:=zq1 (P:=P) (ty:=o.type) hG.good hv (hG.ev s) (hG.ev x)
   have hex:(execOp a.eval o).run P W=(do pure (.value (<-Builtin.append_ #[t,u] o.type #[a.eval s,a.eval x])):Sem Next).run P W:=by
    obtain⟨callee,args,argTypes⟩:=cc;simp only at hcal hargs htys;subst hcal;obtain rfl:=yzm hargs;obtain rfl:=yzm htys;unfold execOp;rw[hop];simp[resolve,invoke,builtin]
   rw[hex]
   rcases h1 with h1|⟨h1,h1'⟩
   rw[h1];exact fin c W' g' h2 h3 h4;rw[h1];subst h1';exact fin _ W' g' h2 h3 h4;rw[yzn hG hw,Qbr rfl];left;unfold Oper.wp;obtain⟨c,W',g',h1,h2,h3,h4⟩:=hv.elim (λq=>zne (P:=P) hG.good hG.ev q.2) (λq=>q.elim (λq=>zby (P:=P) hG.good hG.ev q) (λq=>q.sound hG.good hG.ev))
   rcases h1 with h1|⟨h1,h1'⟩
   rw[h1];exact fin c W' g' h2 h3 h4;rw[h1];subst h1';exact fin _ W' g' h2 h3 h4
  ·rw[yzn hG hw,Qbr rfl];left;unfold Oper.wp;obtain⟨cargs,k1,k2⟩:=z4r (P:=P) (ty:=o.type) hG.ev ht
   have hex:(execOp a.eval o).run P W=(callFunc f cargs).run P W:=by
    rw[<-k2 W];unfold execOp;rw[hop]
   obtain⟨e1,e2⟩:=hc W g cargs hG.good k1;rw[hex,e1];refine e2.mono λe W' ⟨o',H',g',p1,p2,p3,p4⟩ =>?_
   cases o' with
   |ret r=>
    obtain⟨c',he,hr'⟩:=p4;subst he
    exact hk W' (a.put o.dst c') g' _ (hret r H' p1).2.2 (by rw[z5x,he0];exact⟨hS.1,hS.2.trans p2⟩) (hG.next p2 p3 hr' o.dst)
   |pan v=>
    obtain⟨c',he,hr'⟩:=p4;subst he;have hn:=hG.next p2 p3 (.any undef) none;exact hkp W' a g' {σ with H:=H'} v c' (hpan v H' p1) ⟨hS.1,hS.2.trans p2⟩ hn hr'
theorem zjq{W0:World}{g0:Gh}{H0:zz2}{R:St->Prop}{Q':Exit->Act->World->Prop}(hR:∀W a g σ,R σ->(σ.e0=H0.E∧Step W0 g0 H0 W g σ.H)->kz8 W a g σ->Q' .normal a W)
  (hkp:∀W a g σ v c,Kp v σ->(σ.e0=H0.E∧Step W0 g0 H0 W g σ.H)->kz8 W a g σ->Rel W g σ.H v c->Q' (.panic [{v:=c,recovered:=false}]) a W) :
  ∀(fuel:Nat) (listed:Array Bool) (σ:St) (W:World) (a:Act) (g:Gh),AM P ops md S G Kp R fuel listed σ->(σ.e0=H0.E∧Step W0 g0 H0 W g σ.H)->kz8 W a g σ->wpAny P md ops Q' fuel listed a W
 |0,_,σ,W,a,g,h,hS,hG=>⟨h.1,hR W a g σ h.2 hS hG⟩
 |fuel+1,listed,σ,W,a,g,h,hS,hG=>⟨λh0=>hR W a g σ (h.1 h0) hS hG,λi hi=>zts (λW a g σ' hk hS hG=>zjq hR hkp fuel _ σ' W a g hk hS hG) hkp (h.2 i hi) hS hG⟩
theorem y83{ci cj:Info}{oi oj:Oper}(hap:oi.apart ops oj=true)(hci:ci.eff=false)(hij:∀x,ci.K x->¬cj.W x)(hkp:∀v (σ:St) t',Kp v σ->t'.length=σ.t.length->Kp v {σ with t:=t'})
  {σ:St} {v:V}{H1:zz2}(h1:MV P ops S ci σ oi v H1) {K:V->zz2->Prop}(h2:MC P ops S cj (zzq σ oi v H1) oj K Kp):H1=σ.H ∧
  MC P ops S cj σ oj (λu H'=>MV P ops S ci (zzq σ oj u H') oi v H'∧K u H') Kp:=by
 obtain⟨a1,a2,a3⟩:=Oper.apart_spec hap;have evj:∀{w:V}{H:zz2},∀x∈oj.op.operands,(zzq σ oi w H).ev x=σ.ev x:=λ{w H} x hx=>zhy λd hd=>z48 (a1 d hd) x hx
 have evi:∀{w:V}{H:zz2},∀x∈oi.op.operands,(zzq σ oj w H).ev x=σ.ev x:=λ{w H} x hx=>zhy λd hd=>z48 (a3 d hd) x hx
 have hH:H1=σ.H:=by
  rcases h1 with ⟨_,_,h⟩|⟨_,_,⟨_,h,_⟩|⟨h,_⟩⟩
  exact h;exact h;rw[hci]at h;cases h
 subst hH;refine⟨rfl,?_⟩;obtain⟨b1,b2,b3,cl,f,args,Post,b4,b5,b6,b7,b8⟩:=h2;rw[z8a a1]at b3;rw[z8e (ρ':=σ.ev) (λx hx=>evj x (by rw[b4];exact hx))]at b5;rw[z5x]at b6 b7;refine⟨b1,b2,b3,cl,f,args,Post,b4,b5,b6,λu H' hp =>?_,λu H' hp =>?_⟩;obtain⟨c1,c2,c3⟩:=b7 u H' hp;refine⟨c1,c2,?_,c3⟩;unfold MV at h1 ⊢;rw[z8a a3,z5x]
 rcases h1 with ⟨d1,d2,_⟩|⟨d1,d2,⟨d3,_,d4⟩|⟨h,_⟩⟩
 exact .inl ⟨d1,d2,rfl⟩;exact .inr ⟨d1,c1,.inl ⟨d3,rfl,λH'' k1 k2=>z92 (λx hx=>(evi x hx).symm) (d4 H'' k1 (zew.trans (λx hx=>c2 x (hij x hx)) k2))⟩⟩;rw[hci]at h;cases h;have:=hkp u _ σ.t (b8 u H' hp) (by unfold zzq;cases oi.dst <;> simp[St.put]);have e:({({zzq σ oi v σ.H with H:=H'}:St)with t:=σ.t}:St)={σ with H:=H'}:=by unfold zzq;cases oi.dst <;> rfl
 rw[e]at this;exact this
theorem y6o(hkp:∀v (σ:St) t',Kp v σ->t'.length=σ.t.length->Kp v {σ with t:=t'}){R:St->Prop}{i:Nat}{oi:Oper}{ci:Info}(hi:ops[i]? = some oi)(hci:G i ci)(hcc:ci.call=false)(hg:∀j c,G' j c->G j c∧y5r md ops i j ci c) :
  ∀(fuel:Nat) (listed:Array Bool) (σ:St),Down md ops listed ->
   (∀j oj,ops[j]? = some oj->j≠i->listed.getD j true=false->(∀e∈oj.after,Region.binds md e=true->e.on≠i)->oi.apart ops oj=true) ->
   i∈Region.ready md ops listed->∀v H',MV P ops S ci σ oi v H'->AM P ops md S G' Kp R fuel (listed.setIfInBounds i true) (zzq σ oi v H')->AM P ops md S G Kp R (fuel+1) listed σ:=by
 intro fuel
 induction fuel with
 |zero=>
  intro listed σ _ _ hr v H' hy H;refine⟨λh=>(by rw[h]at hr;cases hr),λj hj =>?_⟩;by_cases hji:j=i;subst hji;exact hy.goA hi hci hcc (AM.mono (λj c h=>(hg j c h).1) _ _ _ H);have:=ready_mono hj hji;rw[H.1]at this
  cases this
 |succ fuel ih=>
  intro listed σ hdown hfree hr v H' hy H;refine⟨λh=>(by rw[h]at hr;cases hr),λj hj =>?_⟩;by_cases hji:j=i;subst hji;exact hy.goA hi hci hcc (AM.mono (λj c h=>(hg j c h).1) _ _ _ H);have h1:=H.2 j (ready_mono hj hji);obtain⟨hjun,oj,hoj,hall⟩:=mem_ready.1 hj;obtain⟨hun,oi',hoi',hall'⟩:=mem_ready.1 hr
  rw[hi]at hoi';injection hoi' with hoi';subst hoi'
  have hnot:∀e∈oj.after,Region.binds md e=true->e.on≠i:=λe he hb heq=>by
   have h1:=hall e he hb;rw[heq,getD_both hun]at h1;cases h1
  have hnot':∀e∈oi.after,Region.binds md e=true->e.on≠j:=λe he hb heq=>by
   have h1:=hall' e he hb;rw[heq,getD_both hjun]at h1;cases h1
  have hfr:zpk md ops i j:=⟨λhd=>(by have:=hdown.ready hj hd;rw[getD_both hun]at this;cases this),λhd=>(by have:=hdown.ready hr hd;rw[getD_both hjun]at this;cases this)⟩;have hap:=hfree j oj hoj hji hjun hnot
  have hfree':∀k ok,ops[k]? = some ok->k≠i->(listed.setIfInBounds j true).getD k true=false ->
    (∀e∈ok.after,Region.binds md e=true->e.on≠i)->oi.apart ops ok=true:=λk ok hk hki hun hno=>by
   refine hfree k ok hk hki ?_ hno;by_cases hjk:j=k;subst hjk;exact hjun;rw[getD_set_ne true hjk]at hun;exact hun
  unfold GoA at h1 ⊢;simp only[hoj]at h1 ⊢;obtain⟨cj,hcj,⟨u,H2,hjc,hm,hk⟩|hm⟩:=h1;obtain⟨hgj,hpair⟩:=hg j cj hcj;obtain⟨p1,p2,p3⟩:=hpair hfr;obtain⟨H1',q1,q2⟩:=y7e hap p1 p2 p3 hy hm;refine⟨cj,hgj,.inl ⟨u,H1',hjc,q1,ih (listed.setIfInBounds j true) _ (hdown.set hj) hfree' (ready_mono hr (Ne.symm hji)) v H2 q2 ?_⟩⟩;rw[Array.setIfInBounds_comm _ _ hji];rw[zg1 (B:=H1') (Oper.apart_spec hap).2.1]at hk;exact hk
  obtain⟨hgj,hpair⟩:=hg j cj hcj;obtain⟨p1,p2,p3⟩:=hpair hfr
  have hie:ci.eff=false:=by
   cases he:ci.eff with
   |false=>rfl
   |true=>exact(p1 ⟨he,hm.1⟩).elim
  obtain⟨rfl,q⟩:=y83 (Kp:=Kp) hap hie (p2 hie hm.1) hkp hy hm;refine⟨cj,hgj,.inr (q.imp λu H2 _ _ ⟨q2,hk⟩=>ih (listed.setIfInBounds j true) _ (hdown.set hj) hfree' (ready_mono hr (Ne.symm hji)) v H2 q2 ?_)⟩;rw[Array.setIfInBounds_comm _ _ hji];rw[zg1 (B:=H2) (Oper.apart_spec hap).2.1]at hk;exact hk
theorem zgu{listed:Array Bool}{j:Nat}(h:listed.getD j true=false)(hj:j∈Region.ready md ops (listed.setIfInBounds j true)):False:=by
 have h1:=(mem_ready.1 hj).1;by_cases hlt:j<listed.size;simp[Qae,hlt]at h1;simp[Qae,Array.getElem?_eq_none (Nat.le_of_not_lt hlt)]at h
def zgg(md:Region.Mode)(ops:Array Oper):List Nat->Array Bool->Bool
 |[],listed=>(Region.ready md ops listed).isEmpty
 |k::r,listed=>(Region.ready md ops listed).contains k&&Region.free md ops listed k&&zgg md ops r (listed.setIfInBounds k true)
def y6p(P:Program)(ops:Array Oper)(md:Region.Mode)(S:zz2->Prop)(k b:Nat)(ks:List Nat)(prev:List (Nat×Info))(σ:St)(o:Oper)(c:Info)(K:St->Prop):Prop :=
 c.call=false∧∃ob cb,ops[b]? = some ob∧GP md ops prev b cb∧cb.call=false∧(∀j∈ks,¬zpk md ops k j∧¬zpk md ops b j) ∧
  (∃v H v' H',MV P ops S c σ o v H∧MV P ops S cb (zzq σ o v H) ob v' H'∧K (zzq (zzq σ o v H) ob v' H')) ∧
  ∃v H v' H',MV P ops S cb σ ob v H∧MV P ops S c (zzq σ ob v H) o v' H'∧K (zzq (zzq σ ob v H) o v' H')
def z45(P:Program)(ops:Array Oper)(md:Region.Mode)(S:zz2->Prop)(Kp:V->St->Prop)(R:St->Prop):List Nat->List (Nat×Info)->St->Prop
 |[],_,σ=>R σ
 |[k],prev,σ=>∃o c,ops[k]? = some o∧GP md ops prev k c∧((∃v H',c.call=false∧MV P ops S c σ o v H'∧R (zzq σ o v H'))∨MC P ops S c σ o (λv H'=>R (zzq σ o v H')) Kp)
 |k::b::ks,prev,σ=>∃o c,ops[k]? = some o∧GP md ops prev k c∧((∃v H',c.call=false∧MV P ops S c σ o v H'∧z45 P ops md S Kp R (b::ks) ((k,c)::prev) (zzq σ o v H')) ∨
  ((∀j∈b::ks,¬zpk md ops k j)∧MC P ops S c σ o (λv H'=>z45 P ops md S Kp R (b::ks) ((k,c)::prev) (zzq σ o v H')) Kp) ∨
  y6p P ops md S k b ks prev σ o c (z45 P ops md S Kp R ks prev))
theorem z9w{Kp:V->St->Prop}{R:St->Prop}{k:Nat}{ks:List Nat}{prev:List (Nat×Info)}{σ:St}:z45 P ops md S Kp R (k::ks) prev σ↔∃o c,ops[k]? = some o∧GP md ops prev k c∧((∃v H',c.call=false∧MV P ops S c σ o v H'∧z45 P ops md S Kp R ks ((k,c)::prev) (zzq σ o v H')) ∨
  ((∀j∈ks,¬zpk md ops k j)∧MC P ops S c σ o (λv H'=>z45 P ops md S Kp R ks ((k,c)::prev) (zzq σ o v H')) Kp) ∨
  ∃b l,ks=b::l∧y6p P ops md S k b l prev σ o c (z45 P ops md S Kp R l prev)):=by
 cases ks with
 |nil=>
  constructor
  rintro ⟨o,c,h1,h2,h3|h3⟩
  exact⟨o,c,h1,h2,.inl h3⟩;exact⟨o,c,h1,h2,.inr (.inl ⟨λj h=>(by cases h),h3⟩)⟩
  rintro ⟨o,c,h1,h2,h3|⟨_,h3⟩|⟨b,l,e,_⟩⟩
  exact⟨o,c,h1,h2,.inl h3⟩;exact⟨o,c,h1,h2,.inr h3⟩
  cases e
 |cons b ks=>
  constructor
  rintro ⟨o,c,h1,h2,h3|h3|h3⟩
  exact⟨o,c,h1,h2,.inl h3⟩;exact⟨o,c,h1,h2,.inr (.inl h3)⟩;exact⟨o,c,h1,h2,.inr (.inr ⟨b,ks,rfl,h3⟩)⟩
  rintro ⟨o,c,h1,h2,h3|h3|⟨b',l,e,h3⟩⟩
  exact⟨o,c,h1,h2,.inl h3⟩;exact⟨o,c,h1,h2,.inr (.inl h3)⟩;injection e with e1 e2;subst e1;subst e2;exact⟨o,c,h1,h2,.inr (.inr h3)⟩
theorem zxj(hkp:∀v (σ:St) t',Kp v σ->t'.length=σ.t.length->Kp v {σ with t:=t'}){R:St->Prop}:∀(l:List Nat) (prev:List (Nat×Info)) (listed:Array Bool) (σ:St),Down md ops listed->(∀j,listed.getD j true=false->j∈l) ->
  zgg md ops l listed=true->z45 P ops md S Kp R l prev σ->AM P ops md S (GP md ops prev) Kp R l.length listed σ
 |[],_,listed,σ,_,_,hB,h=>⟨by simpa[zgg]using hB,h⟩
 |k::l,prev,listed,σ,hdown,hlow,hB,h=>by
  obtain⟨o,c,h0,hc0,h⟩:=z9w.1 h;simp only[zgg,Qag]at hB;obtain⟨⟨hr,hf⟩,hB'⟩:=hB;have hr:k∈Region.ready md ops listed:=by simpa using hr
  have hlow':∀j,(listed.setIfInBounds k true).getD j true=false->j∈l:=λj hj=>by
   by_cases hjk:k=j;subst hjk;by_cases hlt:k<listed.size;simp[Qae,hlt]at hj;simp[Qae,Array.getElem?_eq_none (Nat.le_of_not_lt hlt)]at hj;rw[getD_set_ne true hjk]at hj
   rcases Qbi.1 (hlow j hj)with e|e
   exact(hjk e.symm).elim;exact e
  have rest:∀σ',z45 P ops md S Kp R l ((k,c)::prev) σ'->AM P ops md S (GP md ops ((k,c)::prev)) Kp R l.length (listed.setIfInBounds k true) σ':=λσ' hrest=>
   zxj hkp l _ _ _ (hdown.set hr) hlow' hB' hrest
  rcases h with ⟨v,H',hc,hy,hrest⟩|⟨hlate,hm⟩|⟨b,l',e,hc,hpp⟩
  rotate_left 2
  ·subst e;obtain⟨ob,cb,hb0,hcb0,hcb,hlate,hA,hB2⟩:=hpp;obtain⟨v,H',u,H'',m1,m2,m3⟩:=hA;obtain⟨v2,H2,u2,H3,n1,n2,n3⟩:=hB2;obtain⟨hun,oi',hoi',hall'⟩:=mem_ready.1 hr;simp only[zgg,Qag]at hB';have hrb:b∈Region.ready md ops (listed.setIfInBounds k true):=by simpa using hB'.1.1
   have hbk:b≠k:=λe=>by subst e;exact(zgu hun hrb).elim
   have two:∀j,j∈Region.ready md ops listed->j=k∨j=b:=λj hj=>by
    rcases Classical.em (j=k∨j=b)with q|q
    exact q
    exfalso
    obtain⟨hjun,oj,hoj,hall⟩:=mem_ready.1 hj
    have hm:j∈l':=by
     rcases Qbi.1 (hlow j hjun)with e|e
     exact(q (.inl e)).elim
     rcases Qbi.1 e with e|e
     exact(q (.inr e)).elim;exact e
    exact(hlate j hm).1 ⟨λhd=>(by have:=hdown.ready hj hd;rw[getD_both hun]at this;cases this),λhd=>(by have:=hdown.ready hr hd;rw[getD_both hjun]at this;cases this)⟩
   have later:∀σ',z45 P ops md S Kp R l' prev σ'->AM P ops md S (GP md ops prev) Kp R l'.length ((listed.setIfInBounds k true).setIfInBounds b true) σ':=λσ' h=>
    zxj hkp l' prev _ σ' ((hdown.set hr).set hrb) (λj hj=>by
     by_cases hjb:b=j;subst hjb;by_cases hlt:b<(listed.setIfInBounds k true).size;simp[Qae,hlt]at hj;simp[Qae,Array.getElem?_eq_none (Nat.le_of_not_lt hlt)]at hj;rw[getD_set_ne true hjb]at hj
     rcases Qbi.1 (hlow' j hj)with e|e
     exact(hjb e.symm).elim
     exact e) hB'.2 h
   have next:∀(x y:Nat) (cy:Info) (oy:Oper) (σ':St) (w:V) (Hw:zz2),ops[y]? = some oy->GP md ops prev y cy->cy.call=false->(∀j,j∈Region.ready md ops (listed.setIfInBounds x true)->j=y)->y∈Region.ready md ops (listed.setIfInBounds x true)->MV P ops S cy σ' oy w Hw ->
     AM P ops md S (GP md ops prev) Kp R l'.length ((listed.setIfInBounds x true).setIfInBounds y true) (zzq σ' oy w Hw)->AM P ops md S (GP md ops prev) Kp R (l'.length+1) (listed.setIfInBounds x true) σ' :=
    λx y cy oy σ' w Hw q1 q2 q3 q4 q5 q6 q7=>⟨λh=>(by rw[h]at q5;cases q5),λj hj=>by
     rw[q4 j hj];exact q6.goA q1 q2 q3 q7⟩
   have ready1:∀(x y:Nat),x∈Region.ready md ops listed->(x=k∧y=b∨x=b∧y=k)->∀j,j∈Region.ready md ops (listed.setIfInBounds x true)->j=y:=λx y hx hxy j hj=>by
    rcases Classical.em (j=y)with q|q
    exact q
    exfalso
    obtain⟨hjun,oj,hoj,hall⟩:=mem_ready.1 hj;have hjx:j≠x:=λe=>by subst e;exact(zgu (mem_ready.1 hx).1 hj).elim
    have hjun':listed.getD j true=false:=by rw[getD_set_ne true (Ne.symm hjx)]at hjun;exact hjun
    have hm:j∈l':=by
     rcases Qbi.1 (hlow j hjun')with e|e
     rcases hxy with ⟨e1,e2⟩|⟨e1,e2⟩
     exact(hjx (e.trans e1.symm)).elim;exact(q (e.trans e2.symm)).elim
     rcases Qbi.1 e with e|e
     rcases hxy with ⟨e1,e2⟩|⟨e1,e2⟩
     exact(q (e.trans e2.symm)).elim;exact(hjx (e.trans e1.symm)).elim;exact e
    have hyun:(listed.setIfInBounds x true).getD y false=false:=by
     have hyx:x≠y:=by rcases hxy with ⟨e1,e2⟩|⟨e1,e2⟩ <;> (rw[e1,e2];first|exact Ne.symm hbk|exact hbk)
     rw[getD_set_ne false hyx]
     rcases hxy with ⟨e1,e2⟩|⟨e1,e2⟩
     rw[e2];have:=(mem_ready.1 hrb).1;rw[getD_set_ne true (Ne.symm hbk)]at this;exact getD_both this;rw[e2];exact getD_both hun
    have hfy:¬zpk md ops y j:=by
     rcases hxy with ⟨_,e2⟩|⟨_,e2⟩
     rw[e2];exact(hlate j hm).2;rw[e2];exact(hlate j hm).1
    have hdx:=hdown.set hx;refine hfy ⟨λhd=>(by have:=hdx.ready hj hd;rw[hyun]at this;cases this),λhd =>?_⟩
    rcases hxy with ⟨e1,e2⟩|⟨e1,e2⟩
    subst e1;subst e2;have:=(hdown.set hr).ready hrb hd;rw[getD_both hjun]at this;cases this;subst e2;have:=hdown.ready hr hd;rw[getD_both hjun']at this;cases this
   refine⟨λh=>(by rw[h]at hr;cases hr),λj hj =>?_⟩
   rcases two j hj with e|e
   ·subst e;exact m1.goA h0 hc0 hc (next j b cb ob _ u H'' hb0 hcb0 hcb (ready1 j b hr (.inl ⟨rfl,rfl⟩)) hrb m2 (later _ m3))
   ·subst e;have hrk:k∈Region.ready md ops (listed.setIfInBounds j true):=ready_mono hr (Ne.symm hbk);refine n1.goA hb0 hcb0 hcb (next j k c o _ u2 H3 h0 hc0 hc (ready1 j k hj (.inr ⟨rfl,rfl⟩)) hrk n2 ?_);rw[Array.setIfInBounds_comm _ _ hbk];exact later _ n3
  exact y6o (G:=GP md ops prev) (G':=GP md ops ((k,c)::prev)) hkp h0 hc0 hc (λj c' h'=>⟨λp hp=>h' p (Qai _ hp),h' _ Qak⟩) l.length listed σ hdown (Region.free_spec h0 hf) hr v H' hy (rest _ hrest);refine⟨λh=>(by rw[h]at hr;cases hr),λj hj =>?_⟩;by_cases hjk:j=k;subst hjk;unfold GoA;simp only[h0]
  exact⟨c,hc0,.inr (hm.imp λv H' _ _ hk=>AM.mono (λj' c' h' p hp=>h' p (Qai _ hp)) _ _ _ (rest _ hk))⟩
  exfalso
  obtain⟨hjun,oj,hoj,hall⟩:=mem_ready.1 hj;obtain⟨hun,oi',hoi',hall'⟩:=mem_ready.1 hr;refine hlate j ?_ ⟨λhd=>(by have:=hdown.ready hj hd;rw[getD_both hun]at this;cases this),λhd=>(by have:=hdown.ready hr hd;rw[getD_both hjun]at this;cases this)⟩
  rcases Qbi.1 (hlow j hjun)with e|e
  exact(hjk e).elim;exact e
theorem y6s{id:Nat}{σ:St}{Q:zz7->St->Prop}(hm:P.follows .mixedOrders=true)(l:List Nat)(hB:zgg .any ops l (Array.replicate ops.size false)=true)(hl:l.length=ops.size)(hall:∀j,j<ops.size->j∈l)
  (h:z45 P ops .any S (λv σ=>∀t',t'.length=σ.t.length->Q (.panic v) {σ with t:=t'}) (Q .normal) l [] σ) :
  Sat P (.region id ops true) σ Q:=λW0 g0 H0 W a g _ hS hG=>by
 refine z6c zcr hm ?_;have hG':=hG.drawn (W.drawn+1);have hS':σ.e0=H0.E∧Step W0 g0 H0 {W with drawn:=W.drawn+1} g σ.H:=⟨hS.1,hS.2.trans (Grow.drawn W _).step⟩
 have:=zxj (P:=P) (md:=.any) (R:=Q .normal) (λv σ t' h ht=>λt'' ht''=>h t'' (ht''.trans ht)) l [] (Array.replicate ops.size false) σ (λb o _ hb=>by rw[getD_replicate_false]at hb;cases hb) (λj hj=>by
  rcases Nat.lt_or_ge j ops.size with q|q
  exact hall j q
  simp[Qae,Array.getElem?_eq_none (xs:=Array.replicate ops.size false) (i:=j) (by simpa using q)]at hj) hB h
 rw[hl]at this;exact zjq (Q':=zpz W0 g0 H0 Q) (λW a g τ hτ hS hG=>⟨g,τ,.normal,.normal,hS,hG,hτ⟩) (λW a g τ v c hτ hS hG hr=>⟨g,τ,.panic v,.panic v c hr,hS,hG,hτ τ.t rfl⟩) _ _ σ _ a g this hS' hG'
theorem zo4{H H':zz2}{t l i off:Nat}(h:H'.get l i=H.get l i):z2f P H' t (.ptr l i off)=z2f P H t (.ptr l i off):=by simp only[z2f,h]
theorem zux{off:Nat}{cs cs':List V}(h:cs'[off]? = cs[off]?):(if off+1<=cs'.length then some (V.agg ((cs'.drop off).take 1))else none)=if off+1<=cs.length then some (V.agg ((cs.drop off).take 1))else none:=by
 have e:∀l:List V,(if off+1<=l.length then some (V.agg ((l.drop off).take 1))else none)=l[off]?.map λv=>V.agg [v]:=λl=>by
  by_cases hl:off<l.length;rw[Qbr (by omega),List.drop_eq_getElem_cons hl,Qab hl];rfl;rw[Qbs (by omega),Qby (by omega)];rfl
 rw[e,e,h]
theorem y7g{t off:Nat}{cs cs':List V}(h1:P.cellsOf t=1)(h:cs'[off]? = cs[off]?):rd P t cs' off=rd P t cs off:=by
 unfold rd;rw[h1];split;rfl;exact zux h;exact zux h;exact h
theorem y1f{t off:Nat}{cs:List V}(h1:P.cellsOf t=1)(h:cs[off]? = none):rd P t cs off=none:=by
 have:=List.getElem?_eq_none_iff.1 h;unfold rd;rw[h1];split;rfl;rw[Qbs (by omega)];rw[Qbs (by omega)];exact h
theorem zkp{H H':zz2}{t i off:Nat}(h1:P.cellsOf t=1)(hl:H'.lv=H.lv)(h:cellAt H'.L[i]? off=cellAt H.L[i]? off):z2f P H' t (.ptr H.lv i off)=z2f P H t (.ptr H.lv i off):=by
 have get:∀{K:zz2},K.lv=H.lv->z2f P K t (.ptr H.lv i off)=(cellAt K.L[i]? off).bind λv=>rd P t (List.replicate off .any++[v]) off:=λ{K} hK=>by
  simp only[z2f,zz2.get,hK,if_true]
  cases hk:K.L[i]? with
  |none=>rfl
  |some o=>cases o with
   |none=>rfl
   |some o=>cases o with
    |cells cs=>
     show rd P t cs off=(cs[off]?).bind _
     cases hc:cs[off]? with
     |none=>exact y1f h1 hc
     |some v=>exact y7g h1 (by rw[hc];simp)
    |_=>rfl
 rw[get hl,get rfl,h]
theorem zda{H H':zz2}{t:Nat}{cs:List V}{off:Nat}:z2f P H' t (.ref cs off)=z2f P H t (.ref cs off):=rfl
theorem zfg{H H':zz2}{t l i ver idx off:Nat}(h:H'.get l i=H.get l i):z2f P H' t (.ap l i ver idx off)=z2f P H t (.ap l i ver idx off):=by simp only[z2f,zfe,h]
theorem zgd{H H':zz2}{t l i ver off n:Nat}{full:Bool}{y:V}(h:H'.get l i=H.get l i):yzf P H' t (.hs l i ver off n full) y=yzf P H t (.hs l i ver off n full) y:=by simp only[yzf,h]
theorem zrn{H H':zz2}{t l i ver off n:Nat}{full:Bool}(h:H'.get l i=H.get l i):za9 P H' t (.hs l i ver off n full)=za9 P H t (.hs l i ver off n full):=by simp only[za9,h]
def V.plain:V->Bool
 |.hs .. | .map .. => false
 |_=>true
theorem zxm{H H':zz2}{t:Nat}{x:V}(h:x.plain=true):za9 P H' t x=za9 P H t x:=by cases x <;> first|rfl|cases h
theorem ziw{H H':zz2}{t:Nat}{x y:V}(h:x.plain=true):yzf P H' t x y=yzf P H t x y:=by cases x <;> first|rfl|cases h
theorem zr8{H H':zz2}{t:Nat}{x:V}{a b c:Option V}(h:x.plain=true):z64 P H' t x a b c=z64 P H t x a b c:=by cases x <;> first|rfl|cases h
end
def y04(all:List Oper)(i j:Nat):Bool:=match all[j]? with
 |some o=>o.after.toList.any λe=>Region.binds .any e&&Nat.beq e.on i
 |none=>false
def y3m(all:List Oper):Nat->Nat->Nat->Bool
 |0,i,j=>y04 all i j
 |n+1,i,j=>y04 all i j||(match all[j]? with
  |some o=>o.after.toList.any λe=>Region.binds .any e&&y3m all n i e.on
  |none=>false)
def zkj(all:List Oper)(i j:Nat):Bool:=y3m all 8 i j||y3m all 8 j i
theorem zwb{ops:Array Oper}:∀(n:Nat) {i j:Nat},y3m ops.toList n i j=true->Dep .any ops i j:=λn=>by
 have edge:∀{i j:Nat},y04 ops.toList i j=true->Dep .any ops i j:=λ{i j} h=>by
  unfold y04 at h;split at h;rename_i o ho;rw[List.any_eq_true]at h;obtain⟨e,he,hb⟩:=h;simp only[Qag]at hb;exact .one j o e (by simpa using ho) (by simpa using he) hb.1 (Qaj hb.2);cases h
 induction n with
 |zero=>intro i j h;exact edge h
 |succ n ih=>
  intro i j h;simp only[y3m,Bool.or_eq_true]at h
  rcases h with h|h
  exact edge h;split at h;rename_i o ho;rw[List.any_eq_true]at h;obtain⟨e,he,hb⟩:=h;simp only[Qag]at hb;exact .more j o e (by simpa using ho) (by simpa using he) hb.1 (ih hb.2);cases h
theorem z5l{ops:Array Oper}{i j:Nat}(h:zkj ops.toList i j=true):¬zpk .any ops i j:=λhf=>by
 unfold zkj at h;rw[Bool.or_eq_true]at h
 rcases h with h|h
 exact hf.1 (zwb 8 h);exact hf.2 (zwb 8 h)
end Go.Ab
