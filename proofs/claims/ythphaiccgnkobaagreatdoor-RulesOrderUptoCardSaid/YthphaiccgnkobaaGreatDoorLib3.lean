/-
  MORE OPERATIONS: what strings.Builder does with its own address and its bytes; make([]T, n).
-/
import Derived.Test.YthphaiccgnkobaaGreatDoorLib2
import Derived.Lib.Builder
import Derived.Lib.UnsafeStr
import Derived.Laws.MakeOwn
import Derived.Laws.IdiomStrings
import Derived.Recover
import Derived.RangeFuncCalls
import Derived.RangeFuncLeaves
import Derived.Maps.RangeRun
namespace Go.Ab
open Go
set_option linter.unusedSimpArgs false
set_option linter.unusedVariables false
section
variable {W : World} {g : Gh} {H : Heap} {P : Program}
theorem Rel.yre(l i:Nat){W':World}{g':Gh}{H':Heap}{ty sz:Nat}{xs:List V}{cp:Option Nat}(hd:g'.dom l i)(hg:H'.get l i=some (.arr 0 ty sz xs cp)):Rel W' g' H' (.ap l i 0 0 0) (.pointer (some ⟨g'.ab l i,0,none⟩)):=by
 refine .ap l i 0 0 0 _ hd (λ_ _ _ _ _ _=>Qbv _) λty sz xs cp _ =>?_
 simp
def yqn(P:Program)(t:Nat):Bool:=match P.info? t with
 |some i=>match i.desc with
  |.named n _=>n == "strings.Builder"
  |_=>false
 |none=>false
def y0q(P:Program)(H:Heap)(t:Nat):Option (V×Heap):=match zeroV P t,P.info? t with
 |some z,some i=>if z.zzi&&z.cells.length==i.size&&Nat.blt 0 i.size then some (.ap H.lv H.L.length 0 0 0,H.push (.arr 0 t i.size [z] (some 1)))else none
 |_,_=>none
theorem ye7{W':World}{g':Gh}{H':Heap}{l i:Nat}{ver ty sz:Nat}{z:V}{c:Array Value}(hc:g'.cap l i=1)(h:W'.heap[g'.ab l i]? = some (.cells c ty (0,0)))(hsz:0<sz)(hl:z.cells.length=sz)(hr:zpq W' g' H' z.cells c):zal W' g' H' l i (.arr ver ty sz [z] (some 1)):=by
 have one:∀{j:Nat}{x:V},[z][j]? = some x->j=0∧x=z:=λ{j x} hj=>by
  cases j with
  |zero=>simp at hj;exact⟨rfl,hj.symm⟩
  |succ j=>simp at hj
 refine⟨c,h,hsz,by rw[hr.1,hl,hc,Nat.one_mul],by rw[hc];decide,by rw[hc];simp,λn hn=>by injection hn with hn;rw[hc,hn],λj x hj =>?_,λj x t v hj ht =>?_,λj x t v hj ht =>?_⟩;obtain⟨_,rfl⟩:=one hj;exact hl;obtain⟨rfl,rfl⟩:=one hj;rw[Nat.zero_mul,Nat.zero_add];exact hr.2.1 t v ht;obtain⟨rfl,rfl⟩:=one hj;rw[Nat.zero_mul,Nat.zero_add];exact hr.2.2 t v ht
theorem y9u(hG:Good W g H){t:Nat}{v:V}{H':Heap}(h:y0q P H t=some (v,H')):z5i P W g H (do pure (.value (<-Instr.alloc t true (.tuple #[])))) v H':=by
 unfold y0q at h;split at h;rename_i z i hz hi;split at h;rename_i hc;simp only[Qag,Qbm,Nat.blt_eq]at hc;obtain⟨⟨c1,c2⟩,c3⟩:=hc;injection h with h;injection h with h1 h2;subst h1;subst h2;obtain⟨zc,hz1,hz2⟩:=zle (W:=W) (g:=g) (H:=H) hz;have hr:=zc0 c1 hz2
 obtain⟨h1,h2⟩:=zde hG (O:=.cells zc.cells t) (o:=.arr 0 t i.size [z] (some 1)) 1 (λW' g' H' hW hg hH hst=>by
  refine ye7 (c:=zc.cells) (by rw[hg];simp[Gh.add]) ?_ c3 c2 (hr.mono hst);rw[hW,hg];simp only[Gh.add,and_self,if_true]
  exact z1h _ _)
 refine⟨.pointer (some ⟨W.heap.size,0,none⟩),_,_,.inl (by simp[Instr.alloc,hz1,newVar,newRow]),h1,h2,?_⟩;have hgt:(H.push (.arr 0 t i.size [z] (some 1))).get H.lv H.L.length=some (.arr 0 t i.size [z] (some 1)):=by rw[Heap.ze0,Qbx ⟨rfl,rfl⟩]
 have:=Rel.yre (W':=W.alloc (.cells zc.cells t)) (g':=g.add H.lv H.L.length W.heap.size 1) H.lv H.L.length (.inr ⟨rfl,rfl⟩) hgt;simpa[Gh.add]using this;cases h;cases h
def ykz(H:Heap):V->Option (Nat×Nat×Nat×Nat)
 |.ap l i ver idx off=>match H.get l i with
  |some (.arr ver' ty sz xs cp)=>match Nat.beq ver' ver&&Nat.blt (Nat.add (Nat.mul idx sz) off) (Nat.mul xs.length sz)with
   |true=>some (ty,sz,xs.length,Nat.add (Nat.mul idx sz) off)
   |false=>none
  |_=>none
 |_=>none
theorem zqy(hG:Good W g H){x:V}{c:Value}{ty sz n o:Nat}(h:ykz H x=some (ty,sz,n,o))(hx:Rel W g H x c):∃b q cells,c = .pointer (some ⟨b,o,none⟩)∧W.heap[b]? = some (.cells cells ty (0,0))∧cells.size=q * sz∧n<=q∧0<sz∧o<n * sz:=by
 unfold ykz at h;split at h;rename_i l i ver idx off;split at h;rename_i ver' ty' sz' xs cp hg;split at h;rename_i hc;simp only[Qag]at hc;have e1:ver'=ver:=Qaj hc.1;subst e1;injection h with h;injection h with a1 h;injection h with a2 h;injection h with a3 a4;subst a1;subst a2;subst a3;subst a4
 cases hx with
 |ap _ _ _ _ _ a hd hv ha=>
  obtain rfl:=ha _ _ _ _ hg;obtain⟨cc,k1,k2,k3,k3',k4,k5,k6,k7,k8⟩:=hG.obj _ _ _ hg;exact⟨_,g.cap l i,cc,rfl,k1,k3,k4,k2,by have:=hc.2;rw[Nat.blt_eq]at this;exact this⟩
 cases h;cases h;cases h
def ygm:V->V->Bool
 |.ap l i v x o,.ap l' i' v' x' o'=>Nat.beq l l'&&Nat.beq i i'&&Nat.beq v v'&&Nat.beq x x'&&Nat.beq o o'
 |_,_=>false
theorem ykg{x y:V}(h:ygm x y=true):x=y:=by
 unfold ygm at h;split at h;simp only[Qag]at h;obtain⟨⟨⟨⟨h1,h2⟩,h3⟩,h4⟩,h5⟩:=h;rw[Qaj h1,Qaj h2,Qaj h3,Qaj h4,Qaj h5];cases h
def yog(P:Program)(H:Heap)(op:BinOp)(t:Nat)(x y:V):Option V :=
 match ygm x y,ykz H x,P.underlying t with
 |true,some _,some (.pointer e)=>match (P.info? e).isSome,op with
  |true,.eql=>some (.bool true)
  |true,.neq=>some (.bool false)
  |_,_=>none
 |_,_,_=>none
theorem zyr{tp te:TypeId}{j:TypeInfo}(a:Addr)(hp:P.underlying tp=some (.pointer te))(hte:P.info? te=some j) :
  (binOp .eql tp (.pointer (some a)) (.pointer (some a))).run P W = .ok (.bool true) W:=by
 have h:∀d:Nat,(Op.equalIn (d+1) tp (.pointer (some a)) (.pointer (some a))).run P W = .ok true W:=λd=>by
  simp[Op.equalIn,run_underlying hp,sizeOf,typeInfo,hte,run_sameAddr_same]
 simp only[binOp];simp[Op.equal,Op.maxDepth,h 9999]
theorem ygk(hG:Good W g H){op:BinOp}{t:Nat}{x y:V}{v:V}{a b:Value}(xo yo:Operand)(h:yog P H op t x y=some v)(hx:Rel W g H x a)(hy:Rel W g H y b) :
  z5i P W g H (do pure (.value (<-(do eqGuard op t xo yo a b;binOp op t a b)))) v H:=by
 unfold yog at h;split at h;rename_i p e h1 h2 h3;obtain rfl:=ykg h1;obtain⟨ty,sz,n,o⟩:=p;obtain⟨blk,q,cells,rfl,k1,k2,k3,k4,k5⟩:=zqy hG h2 hx
 have hb:b = .pointer (some ⟨blk,o,none⟩):=by
  obtain⟨blk',q',cells',rfl,m1,m2,m3,m4,m5⟩:=zqy hG h2 hy;unfold ykz at h2;split at h2;rename_i l i ver idx off;split at h2;rename_i ver' ty' sz' xs cp hg;split at h2;rename_i hc;simp only[Qag]at hc;obtain rfl:ver'=ver:=Qaj hc.1
  cases hx with
  |ap _ _ _ _ _ _ _ _ ha=>
   have e1:=ha _ _ _ _ hg
   cases hy with
   |ap _ _ _ _ _ _ _ _ ha'=>
    have e2:=ha' _ _ _ _ hg;rw[e1,e2]
  cases h2;cases h2;cases h2
 subst hb;split at h;rename_i hi;obtain⟨j,hj⟩:=Option.isSome_iff_exists.1 hi;injection h with h;subst h;exact⟨_,W,g,.inl (by simp[eqGuard,zyr _ h3 hj]),.refl _ _ _,hG,.bool _⟩;rename_i hi;obtain⟨j,hj⟩:=Option.isSome_iff_exists.1 hi;injection h with h;subst h;exact⟨_,W,g,.inl (by simp[eqGuard,Lib.run_neq_ptr_same _ _ h3 hj]),.refl _ _ _,hG,.bool _⟩;cases h;cases h
def ynl(H:Heap):V->Bool
 |.ap l i _ _ _=>match H.get l i with
  |some (.arr _ _ _ _ (some 1))=>true
  |_=>false
 |_=>false
def yny(P:Program)(H:Heap)(s d:Nat)(x:V):Option V :=
 match P.underlying s,P.underlying d,ykz H x with
 |some (.pointer t),some .unsafePointer,some _=>match P.info? t with
  |some j=>match Nat.blt 0 j.size with
   |true=>some x
   |false=>none
  |none=>none
 |some .unsafePointer,some (.pointer u),some (ty,sz,n,o)=>match P.info? u with
  |some _=>match Nat.beq (P.cellsOf ty) sz&&Nat.beq n 1&&ynl H x&&liesAt P P.depth ty 1 o u 1 with
   |true=>some x
   |false=>none
  |none=>none
 |_,_,_=>none
theorem yhd(hG:Good W g H){s d:Nat}{x v:V}{c:Value}(h:yny P H s d x=some v)(hx:Rel W g H x c):z5i P W g H (do pure (.value (<-convert s d c))) v H:=by
 unfold yny at h;split at h;rename_i t p hs hd hp;obtain⟨ty,sz,n,o⟩:=p;obtain⟨blk,q,cells,rfl,k1,k2,k3,k4,k5⟩:=zqy hG hp hx;split at h;rename_i j hj;split at h;rename_i hz;rw[Nat.blt_eq]at hz;injection h with h;subst h;have hlt:o<cells.size:=by rw[k2];exact Qbj k5 (Qau _ k3)
 exact⟨_,W,g,.inl (by simp[Lib.run_to_unsafe W ⟨blk,o,none⟩ hs hd hj (by omega) (show W.shape? blk=some (ty,cells.size) by simp[World.shape?,k1]) hlt]),.refl _ _ _,hG,hx⟩;cases h;cases h;rename_i u ty sz n o hs hd hp;obtain⟨blk,q,cells,rfl,k1,k2,k3,k4,k5⟩:=zqy hG hp hx;split at h;rename_i j hj;split at h;rename_i hz;simp only[Qag]at hz;obtain⟨⟨⟨z1,z2⟩,z3⟩,z4⟩:=hz
 have e1:P.cellsOf ty=sz:=Qaj z1;injection h with h;subst h
 have hcells:cells.size=sz:=by
  unfold ynl at z3;split at z3;rename_i l i ver idx off;split at z3;rename_i ver' ty' sz' xs hg
  cases hx with
  |ap _ _ _ _ _ a _ _ ha=>
   simp only[ykz,hg]at hp;split at hp;rename_i hc;simp only[Qag]at hc;obtain rfl:ver'=ver:=Qaj hc.1;injection hp with hp;injection hp with a1 hp;injection hp with a2 hp;injection hp with a3 a4;have:=ha _ _ _ _ hg;injection this with e1' e2';obtain⟨cc,m1,m2,m3,m3',m4,m5,_⟩:=hG.obj _ _ _ hg;rw[<-e1',k1]at m1;injection m1 with m1;injection m1 with m1 _ _
   rw[m1,m3,m5 1 rfl,Nat.one_mul,a2];cases hp
  cases z3;cases z3
 have hq:cells.size / P.cellsOf ty=1:=by rw[hcells,e1];exact Nat.div_self k4
 exact⟨_,W,g,.inl (by simp[Lib.run_from_unsafe W (e:=ty) (cells:=cells.size) ⟨blk,o,none⟩ hs hd hj (by simp[World.shape?,k1]) (by rw[hq];exact z4)]),.refl _ _ _,hG,hx⟩;cases h;cases h;cases h
def ztx(H:Heap)(x:V):Option V:=match x with
 |.nils=>some .nilp
 |.hs l i ver off n full=>match H.get l i with
  |some (.arr ver' _ _ _ _)=>match Nat.beq ver' ver&&Nat.blt 0 n with
   |true=>some (.ap l i ver off 0)
   |false=>none
  |_=>none
 |_=>none
theorem y0a(hG:Good W g H){x v:V}{c:Value}{ts:Array TypeId}{ty:TypeId}(h:ztx H x=some v)(hx:Rel W g H x c):z5i P W g H (do pure (.value (<-Builtin.unsafeSliceData_ ts ty #[c]))) v H:=by
 unfold ztx at h;split at h;injection h with h;subst h
 cases hx with
 |nils=>exact⟨_,W,g,.inl (by simp[Lib.run_unsafeSliceData_nil]),.refl _ _ _,hG,.nilp⟩
 rename_i l i ver off n full;split at h;rename_i ver' ty' sz xs cp hg;split at h;rename_i hc;simp only[Qag]at hc;obtain rfl:ver'=ver:=Qaj hc.1;have hn:0<n:=by have:=hc.2;rwa[Nat.blt_eq]at this
 injection h with h;subst h
 cases hx with
 |hs _ _ _ _ _ _ a m cap hd hv ha=>
  obtain⟨rfl,rfl,⟨e1,e2,e3⟩,e4⟩:=ha _ _ _ _ hg;refine⟨_,W,g,.inl (by rw[Qca,Lib.run_unsafeSliceData_row W ts ty _ _ cap (by omega)];rfl),.refl _ _ _,hG,?_⟩;refine .ap l i ver' off 0 _ hd hv λty2 sz2 xs2 cp2 h2 =>?_
  obtain⟨q1,_⟩:=ha _ _ _ _ h2;injection q1
 cases h;cases h;cases h
def zgm:List V->Option B8
 |[]=>some []
 |v::r=>match v,zgm r with
  |.int .u8 (.ofNat m),some s=>match Nat.ble m 255 with
   |true=>some (m.toUInt8::s)
   |false=>none
  |_,_=>none
theorem zka:∀{vs:List V}{s:B8},zgm vs=some s->s.length=vs.length∧∀(j:Nat) (x:UInt8),s[j]? = some x->vs[j]? = some (.int .u8 x.toNat)
 |[],s,h=>by simp only[zgm,Qbu]at h;subst h;exact⟨rfl,by simp⟩
 |v::r,s,h=>by
  simp only[zgm]at h;split at h;rename_i m s' h2;split at h;rename_i hc;injection h with h;subst h;obtain⟨k1,k2⟩:=zka h2;refine⟨by simp[k1],λj x hj =>?_⟩
  cases j with
  |zero=>
   simp only[Qcd,Qbu]at hj ⊢;subst hj;have hc:=Nat.le_of_ble_eq_true hc
   have:(m.toUInt8).toNat=m:=by
    simp only[Nat.toUInt8,UInt8.toNat_ofNat'];omega
   rw[this];rfl
  |succ j=>simpa using k2 j x (by simpa using hj)
  cases h;cases h
def yfg(P:Program)(H:Heap)(pt:Nat)(p n:V):Option (V×Heap) :=
 match p,n with
 |.nilp,.int .i64 (.ofNat 0)=>some (.str [],H)
 |.ap l i ver 0 0,.int .i64 (.ofNat m)=>match H.get l i,P.underlying pt with
  |some (.arr ver' ty sz xs cp),some (.pointer e)=>match Nat.beq ver' ver&&Nat.beq sz 1&&Nat.beq l H.lv&&Nat.beq e ty&&Nat.beq (P.cellsOf ty) 1&&Nat.blt 0 m&&Nat.ble m xs.length&&Nat.ble m zdg with
   |true=>match zgm (xs.take m)with
    |some s=>some (.str s,H.zrk i)
    |none=>none
   |false=>none
  |_,_=>none
 |_,_=>none
theorem yd2(hG:Good W g H){pt it ty:Nat}{p n v:V}{H':Heap}{cp cn:Value}(h:yfg P H pt p n=some (v,H'))(hp:Rel W g H p cp)(hn:Rel W g H n cn) :
  z5i P W g H (do pure (.value (<-Builtin.unsafeString_ #[pt,it] ty #[cp,cn]))) v H':=by
 unfold yfg at h;split at h;injection h with h;injection h with h1 h2;subst h1;subst h2;cases hp;cases hn;exact⟨_,W,g,.inl (by rw[Qca,show Int.ofNat 0=(0:Int)from rfl,Lib.run_unsafeString_none W pt it ty none];rfl),.refl _ _ _,hG,.str []⟩;rename_i l i ver m;split at h;rename_i ver' ty' sz xs cap e hg hpt;split at h;rename_i hc;simp only[Qag]at hc
 obtain⟨⟨⟨⟨⟨⟨⟨c1,c2⟩,c3⟩,c4⟩,c5⟩,c6⟩,c7⟩,c8⟩:=hc;obtain rfl:ver'=ver:=Qaj c1;obtain rfl:sz=1:=Qaj c2;obtain rfl:l=H.lv:=Qaj c3;obtain rfl:e=ty':=Qaj c4;have c5:P.cellsOf e=1:=Qaj c5;rw[Nat.blt_eq]at c6;have c7:=Nat.le_of_ble_eq_true c7;have c8:=Nat.le_of_ble_eq_true c8;unfold zdg at c8;split at h;rename_i s hs
 injection h with h;injection h with h1 h2;subst h1;subst h2;obtain⟨b1,b2⟩:=zka hs;have hsl:s.length=m:=by rw[b1,Qay];omega
 cases hn
 cases hp with
 |ap _ _ _ _ _ a hd hv ha=>
  obtain rfl:=ha _ _ _ _ hg;obtain⟨cc,k1,k2,k3,k3',k4,k5,k6,k7,k8⟩:=hG.obj _ _ _ hg;have hlt:=hG.lt _ _ _ hg
  have hrun:=Lib.run_unsafeString_row (P:=P) W pt it ty e hpt c5 (g.ab H.lv i) cc.size (by simp[World.shape?,k1]) s (by intro hh;rw[hh]at hsl;simp at hsl;omega) (by rw[hsl,k3];omega) (by omega) (λj x hj=>by
   have hj':=b2 j x hj;have hjm:j<m:=by rw[<-hsl];exact(Qaa.1 hj).1
   rw[Qaw,Qbx hjm]at hj';have hrel:=k8 j _ 0 _ hj' rfl;have hadd:(⟨g.ab H.lv i,0,none⟩:Addr).add j=⟨g.ab H.lv i,j,none⟩:=by unfold Addr.add;split <;> simp_all
   have hjc:j<cc.size:=by rw[k3];omega
   rw[hadd,cell_of k1 hjc];rw[Nat.mul_one,Nat.add_zero]at hrel;generalize cc.getD j undef=q at hrel
   cases hrel;rfl)
  rw[hsl]at hrun;obtain⟨g1,g2,g3,g4⟩:=y7b hG hg
  have hfz:∀k,k≠g.ab H.lv i->(W.freeze ⟨g.ab H.lv i,0,none⟩ m).heap[k]? = W.heap[k]? := λk hk=>by
   unfold World.freeze;split;rfl;simp only[Qcg];rw[Qby (λe=>hk e.symm)]
  have hsize:(W.freeze ⟨g.ab H.lv i,0,none⟩ m).heap.size=W.heap.size:=by unfold World.freeze;split <;> simp
  have hos:(W.freeze ⟨g.ab H.lv i,0,none⟩ m).os=W.os∧(W.freeze ⟨g.ab H.lv i,0,none⟩ m).tape=W.tape∧(W.freeze ⟨g.ab H.lv i,0,none⟩ m).output=W.output:=by unfold World.freeze;split <;> exact⟨rfl,rfl,rfl⟩
  have hob:Own g H (g.ab H.lv i):=⟨_,_,_,hg,rfl⟩
  have hst:Step W g H (W.freeze ⟨g.ab H.lv i,0,none⟩ m) g (H.zrk i) :=
   ⟨hos.1,hos.2.1,hos.2.2,Nat.le_of_eq hsize.symm,λb hb hno=>hfz b (λe=>hno (by rw[e];exact hob)),g2.own,g2.dom,g2.new,g2.blk,g2.arr,g2.lv,rfl⟩
  have hst2:∀l k o,(H.zrk i).get l k=some o->o.blk g l k≠g.ab H.lv i:=λl k o ho e=>by
   obtain⟨q1,q2⟩:=Heap.z9j ho;exact q2 (hG.inj _ _ _ _ _ _ q1 hg e)
  refine⟨.string ⟨s.toArray⟩,_,g,.inl (by rw[Qca,show Int.ofNat m=((m:Nat):Int)from rfl,hrun];rfl),hst,⟨g1.dom,λl k o ho=>by rw[hsize];exact g1.lt l k o ho,g1.inj,g1.fresh,λl k o ho =>?_,hG.ziy.step hst,Qbk hG.base hst.size⟩,.str s⟩;have ho':=hG.obj l k o (Heap.z9j ho).1;exact ho'.mono hst (hfz _ (hst2 l k o ho)) rfl rfl rfl
 cases h;cases h;cases h;cases h
def zta(P:Program)(H:Heap)(t:Nat)(n c:V):Option (V×Heap) :=
 match n,c with
 |.int _ (.ofNat n),.int _ (.ofNat c)=>match P.underlying t with
  |some (.slice e)=>match P.info? e,zeroV P e with
   |some i,some z=>match z.zzi&&Nat.beq z.cells.length i.size&&Nat.blt 0 i.size&&Nat.ble n c&&Nat.ble c 1000000&&Nat.ble i.bytes 100000 with
    |true=>some (.hs H.lv H.L.length 0 0 n false,H.push (.arr 0 e i.size (List.replicate n z) none))
    |false=>none
   |_,_=>none
  |_=>none
 |_,_=>none
theorem y0d(hG:Good W g H){t:Nat}{n c v:V}{H':Heap}{cn cc:Value}(h:zta P H t n c=some (v,H'))(hn:Rel W g H n cn)(hcc:Rel W g H c cc):z5i P W g H (do pure (.value (<-Instr.makeSlice t cn cc))) v H':=by
 unfold zta at h;split at h
 ·rename_i k1 n k2 c;split at h
  ·rename_i e ht;split at h
   ·rename_i i z hi hz;split at h
    ·rename_i hc;simp only[Qag]at hc;obtain⟨⟨⟨⟨⟨c1,c2⟩,c3⟩,c4⟩,c5⟩,c6⟩:=hc;have c2:=Qaj c2;rw[Nat.blt_eq]at c3;have c4:=Nat.le_of_ble_eq_true c4;have c5:=Nat.le_of_ble_eq_true c5;have c6:=Nat.le_of_ble_eq_true c6;injection h with h;injection h with h1 h2;subst h1;subst h2;cases hn;cases hcc
     obtain⟨zc,hz1,hz2⟩:∃zc,i.zero=some zc∧Rel W g H z zc:=by
      simp only[zeroV,hi,Qbq,Qaf]at hz;obtain⟨zc,q1,rfl⟩:=hz;exact⟨zc,q1,zjo zc⟩
     obtain⟨r1,r2,r3⟩:=zc0 c1 hz2;have hb:i.bytes * c<=100000 * 1000000:=Nat.mul_le_mul c6 c5;have hrun:=run_make (P:=P) W t e i zc ht hi hz1 k1 k2 (Int.ofNat n) (Int.ofNat c) (Int.natCast_nonneg n) (by show((n:Nat):Int)<=(c:Nat);omega) (by show((i.bytes:Nat):Int) * ((c:Nat):Int)<=_;rw[<-Int.natCast_mul];omega) (by show((c:Nat):Int)<=_;omega);simp only[Int.toNat,Int.ofNat_eq_natCast]at hrun
     obtain⟨h1,h2⟩:=zde hG (O:=.cells (madeCells zc.cells (c * i.size)) e) (o:=.arr 0 e i.size (List.replicate n z) none) c (λW' g' H' hW hg hH hst=>by
      have hcap:g'.cap H.lv H.L.length=c:=by rw[hg];simp[Gh.add]
      refine⟨madeCells zc.cells (c * i.size),?_,c3,by rw[hcap,size_madeCells],by rw[hcap];unfold maxLen;omega,by rw[hcap];simpa using c4,by simp,λj x hj =>?_,λj x tt u hj htt =>?_,λj x tt u hj htt =>?_⟩;rw[hW,hg];simp only[Gh.add,and_self,if_true];exact z1h _ _
      all_goals
       rw[Qbo]at hj;split at hj;rename_i hjn;injection hj with hj;subst hj
       first
       |exact c2
       |(have htl:tt<i.size:=by rw[<-c2];exact(Qaa.1 htt).1
         rw[zs4 zc.cells c j tt i.size (by rw[r1,c2]) htl (by omega)]
         first|exact r2 tt u htt|exact(r3 tt u htt).mono hst)
       cases hj)
     refine⟨.slice (some ⟨W.heap.size,0,none⟩) n c,_,_,.inl (by rw[Qca,show Int.ofNat n=((n:Nat):Int)from rfl,show Int.ofNat c=((c:Nat):Int)from rfl,hrun];rfl),h1,h2,?_⟩;refine .hs H.lv H.L.length 0 0 n false _ n c (.inr ⟨rfl,rfl⟩) (λ_ _ _ _ _ _=>Qbv _) λty2 sz2 xs2 cp2 hg2 =>?_
     rw[Heap.ze0,Qbx ⟨rfl,rfl⟩]at hg2;injection hg2 with hg2;injection hg2 with _ _ _ e4 _;refine⟨by simp[Gh.add],rfl,⟨c4,by simp[Gh.add],λhh=>by cases hh⟩,by rw[<-e4];simp⟩
    cases h
   cases h
  cases h
 cases h
theorem y3b(hG:Good W g H){t:Nat}{n c v:V}{cn cc:Value}(h:zf8 P t n c=some v)(hn:Rel W g H n cn)(hcc:Rel W g H c cc):z5i P W g H (do pure (.value (<-Instr.makeSlice t cn cc))) v H :=
 (yek hG h hn hcc).op.turns hG
def isC:Operand->Bool
 |.const _=>true
 |_=>false
def zwj(P:Program)(op:BinOp)(t:Nat)(xo yo:Operand)(x y:V):Option V:=match x,y,isC xo||isC yo,P.underlying t with
 |.nili,.nili,true,some (.interface _)=>match op with
  |.eql=>some (.bool true)
  |.neq=>some (.bool false)
  |_=>none
 |_,_,_,_=>none
theorem yd8(hG:Good W g H){op:BinOp}{t:Nat}{xo yo:Operand}{x y v:V}{a b:Value}(h:zwj P op t xo yo x y=some v)(hx:Rel W g H x a)(hy:Rel W g H y b) :
  z5i P W g H (do pure (.value (<-(do eqGuard op t xo yo a b;binOp op t a b)))) v H:=by
 unfold zwj at h;split at h;rename_i ms hc hu;cases hx;cases hy
 have hg:(eqGuard op t xo yo .nilIface .nilIface).run P W = .ok () W:=by
  cases xo <;> cases yo <;> first|(simp[isC]at hc;done)|(cases op <;> simp[eqGuard])
 have he:∀d:Nat,(Op.equalIn (d+1) t .nilIface .nilIface).run P W = .ok true W:=λd=>by
  simp[Op.equalIn,yz2 hu]
 have hu':(Op.equal t .nilIface .nilIface).run P W = .ok true W:=he 9999;split at h;injection h with h;subst h;exact⟨_,W,g,.inl (by simp[hg,binOp_eql (a:=.nilIface) rfl,hu']),.refl _ _ _,hG,.bool _⟩;injection h with h;subst h;exact⟨_,W,g,.inl (by simp[hg,binOp_neq (a:=.nilIface) rfl,hu']),.refl _ _ _,hG,.bool _⟩;cases h;cases h
def hEq2(P:Program)(H:Heap)(op:BinOp)(t:Nat)(xo yo:Operand)(x y:V):Option V:=match zwj P op t xo yo x y with
 |some v=>some v
 |none=>yog P H op t x y
theorem yj6(hG:Good W g H){op:BinOp}{t:Nat}{xo yo:Operand}{x y v:V}{a b:Value}(h:hEq2 P H op t xo yo x y=some v)(hx:Rel W g H x a)(hy:Rel W g H y b) :
  z5i P W g H (do pure (.value (<-(do eqGuard op t xo yo a b;binOp op t a b)))) v H:=by
 unfold hEq2 at h;split at h
 rename_i u hu;injection h with h;subst h;exact yd8 hG hu hx hy
 exact ygk hG xo yo h hx hy
def ynp(P:Program)(s d:Nat)(x:V):Option V:=match P.underlying s,P.underlying d with
 |some (.slice e),some .string=>match P.underlying e with
  |some (.int .u8)=>match x with
   |.nils=>some (.str [])
   |.sl 1 ws _=>(zgm ws).map .str
   |_=>none
  |_=>none
 |_,_=>none
theorem zsv{s d e:Nat}(a:Option Addr)(c:Nat)(hs:P.underlying s=some (.slice e))(he:P.underlying e=some (.int .u8))(hd:P.underlying d=some .string):(convert s d (.slice a 0 c)).run P W = .ok (.string ⟨#[]⟩) W:=by
 rw[run_convert_bytes_string W s d e _ 0 c hs he hd];cases a <;> simp[Conv.bytesToString,loadCells]
 all_goals rfl
theorem y4c(hG:Good W g H){s d:Nat}{x v:V}{c:Value}(h:ynp P s d x=some v)(hx:Rel W g H x c):z5i P W g H (do pure (.value (<-convert s d c))) v H:=by
 unfold ynp at h;split at h;rename_i e hs hd;split at h;rename_i he;split at h;injection h with h;subst h;cases hx;exact⟨_,W,g,.inl (by simp[zsv none 0 hs he hd]),.refl _ _ _,hG,.str []⟩;rename_i ws fl;rw[Qaf]at h;obtain⟨l,hl,rfl⟩:=h;obtain⟨b1,b2⟩:=zka hl;have nil:ws=[]->l=[]:=λe=>Qao (by rw[b1,e];rfl)
 cases hx with
 |slnil=>
  obtain rfl:=nil rfl
  exact⟨_,W,g,.inl (by simp[zsv none 0 hs he hd]),.refl _ _ _,hG,.str []⟩
 |sle _ _ a cap hf=>
  obtain rfl:=nil rfl
  exact⟨_,W,g,.inl (by simp[zsv (some a) cap hs he hd]),.refl _ _ _,hG,.str []⟩
 |sl _ _ _ b o cap cc hb hz hcap hf hss hc h1 hr=>
  have hrun:=run_convert_bytes_back (P:=P) W s d e ⟨b,o,none⟩ cap l hs he hd λj hj=>by
   have e1:ws[j]? = some (.int .u8 l[j].toNat):=b2 j _ (Qab hj);have e2:=hc j _ 0 (.int .u8 l[j].toNat) e1 rfl;have e3:=hr j _ 0 (.int .u8 l[j].toNat) e1 rfl;generalize hq:cc j 0=q at e2 e3;cases e3;rw[<-e2]
   congr 1
   unfold Addr.add;split <;> simp_all
  rw[b1]at hrun;exact⟨_,W,g,.inl (by simp[hrun]),.refl _ _ _,hG,.str l⟩
 cases h;cases h;cases h
def yfy(P:Program)(H:Heap)(s d:Nat)(x:V):Option V:=match yny P H s d x with
 |some v=>some v
 |none=>ynp P s d x
theorem ydg(hG:Good W g H){s d:Nat}{x v:V}{c:Value}(h:yfy P H s d x=some v)(hx:Rel W g H x c):z5i P W g H (do pure (.value (<-convert s d c))) v H:=by
 unfold yfy at h;split at h
 rename_i u hu;injection h with h;subst h;exact yhd hG hu hx
 exact y4c hG h hx
def zlv(P:Program)(H:Heap)(ρ:Operand->V)(op:Op):Option (V×Heap):=match op with
 |.alloc t=>match yqn P t with
  |true=>y0q P H t
  |false=>none
 |.makeSlice t n c=>zta P H t (ρ n) (ρ c)
 |.convert s d x=>(yfy P H s d (ρ x)).map λv=>(v,H)
 |.binOp op t x y _=>(hEq2 P H op t x y (ρ x) (ρ y)).map λv=>(v,H)
 |.call c=>match c.callee with
  |.builtin .unsafeSliceData=>match c.args.toList with
   |[x]=>(ztx H (ρ x)).map λv=>(v,H)
   |_=>none
  |.builtin .unsafeString=>match c.args.toList,c.argTypes.toList with
   |[p,n],[pt,_]=>yfg P H pt (ρ p) (ρ n)
   |_,_=>none
  |_=>none
 |_=>none
theorem zn7{ρ:Operand->V}{r:Operand->Value}{o:Oper}{v:V}{H':Heap}(hG:Good W g H)(hρ:∀x,Rel W g H (ρ x) (r x))(h:zlv P H ρ o.op=some (v,H')):z5i P W g H (execOp r o) v H':=by
 have pure':∀{q:Option V},(q.map λv=>(v,H))=some (v,H')->q=some v∧H'=H:=λ{q} h=>by
  simp only[Qaf]at h;obtain⟨u,hu,heq⟩:=h;injection heq with h1 h2;exact⟨by rw[hu,h1],h2.symm⟩
 unfold zlv at h;split at h;rename_i t heq;split at h;unfold execOp;rw[heq];exact y9u hG h;cases h;rename_i t n c heq;unfold execOp;rw[heq];exact y0d hG h (hρ n) (hρ c);rename_i s d x heq;obtain⟨h,rfl⟩:=pure' h;unfold execOp;rw[heq];exact ydg hG h (hρ x);rename_i op t x y _ heq;obtain⟨h,rfl⟩:=pure' h;unfold execOp;rw[heq];exact yj6 hG h (hρ x) (hρ y);rename_i c heq;unfold execOp;rw[heq]
 obtain⟨callee,args,argTypes⟩:=c;simp only at h;split at h;split at h;rename_i x hargs;obtain⟨h,rfl⟩:=pure' h;obtain rfl:=zzw hargs;have:=y0a (P:=P) (ts:=argTypes) (ty:=o.type) hG h (hρ x);obtain⟨c,W',g',h1,h2,h3,h4⟩:=this;refine⟨c,W',g',?_,h2,h3,h4⟩
 rcases h1 with h1|⟨h1,h1'⟩
 left;rw[<-h1];simp[resolve,invoke,builtin];right;refine⟨?_,h1'⟩;rw[<-h1];simp[resolve,invoke,builtin];cases h;split at h;rename_i p n pt it hargs htys;obtain rfl:=zzw hargs;obtain rfl:=zzw htys;have:=yd2 (P:=P) (it:=it) (ty:=o.type) hG h (hρ p) (hρ n);obtain⟨c,W',g',h1,h2,h3,h4⟩:=this;refine⟨c,W',g',?_,h2,h3,h4⟩
 rcases h1 with h1|⟨h1,h1'⟩
 left;rw[<-h1];simp[resolve,invoke,builtin];right;refine⟨?_,h1'⟩;rw[<-h1];simp[resolve,invoke,builtin];cases h;cases h;cases h
end
section
variable {W : World} {g : Gh} {H : Heap} {P : Program}
def y1b:Heap:=⟨0,[],λ_ _=>none⟩
theorem ycy{sz:Nat}{x:V}{ys:List V}(h:zgv y1b sz x=some ys)(H:Heap):zgv H sz x=some ys:=by
 have hg:∀l i,y1b.get l i=none:=λl i=>by unfold Heap.get y1b;split <;> simp
 cases x <;> simp_all[zgv,z9b]
def zp1(P:Program)(t u:Nat)(s x:V):Option V :=
 match s with
 |.sl sz xs true=>match P.underlying t,P.underlying u with
  |some (.slice e),some du=>match P.info? e with
   |some i=>match i.zero,zgv y1b i.size x with
    |some z,some ys=>match zpl du&&decide (0<i.size)&&decide (i.bytes<=524288)&&z.cells.size==i.size&&Nat.beq sz i.size&&Nat.ble (xs.length+ys.length) zdg with
     |true=>some (.sl sz (xs++ys) false)
     |false=>none
    |_,_=>none
   |none=>none
  |_,_=>none
 |_=>none
theorem ygf{sz:Nat}{xs:List V}{c:Value}(h:Rel W g H (.sl sz xs true) c):Rel W g H (.sl sz xs false) c:=by
 cases h with
 |slnil=>exact .slnil _ _
 |sle _ _ a cap hf=>exact .sle _ _ a cap (λh=>by cases h)
 |sl _ _ _ b o cap c hb hz hcap hf hs hc h1 hr=>exact .sl _ _ _ b o cap c hb hz hcap (λh=>by cases h) hs hc h1 hr
theorem y70(hG:Good W g H){t u ty:TypeId}{s x v:V}{cs cx:Value}(h:zp1 P t u s x=some v)(hs:Rel W g H s cs)(hx:Rel W g H x cx) :
  z5i P W g H (do pure (.value (<-Builtin.append_ #[t,u] ty #[cs,cx]))) v H:=by
 unfold zp1 at h;split at h
 case h_2=>cases h
 rename_i sz xs;split at h
 case h_2=>cases h
 rename_i e du ht hu;split at h
 case h_2=>cases h
 rename_i i hi;split at h
 case h_2=>cases h
 rename_i z ys hz hys;split at h
 case h_2=>cases h
 rename_i hc;injection h with h;subst h;simp only[Qag,Qar,Qbm]at hc;obtain⟨⟨⟨⟨⟨c1,c2⟩,c3⟩,c4⟩,c5⟩,c6⟩:=hc;have c5:=Qaj c5;have hroom:=Nat.le_of_ble_eq_true c6;subst c5;have hdu:∀k,du ≠ .int k:=λk hk=>by subst hk;simp[zpl]at c1
 obtain⟨hlen,news,n1,n2,n3,n4⟩:=y7j (P:=P) hG c2 (ycy hys H) hx;obtain⟨a,n,cap,rfl,rfl,o2,olds,o3,o4,o5,o6⟩:=zk0 (P:=P) hG c2 (show z9b H i.size (.sl i.size xs true)=some xs by simp[z9b]) hs
 have hfull:cap=xs.length:=by
  cases hs with
  |slnil=>rfl
  |sle _ _ _ _ hf=>exact hf rfl
  |sl _ _ _ _ _ _ _ _ _ _ hf=>exact hf rfl
 cases ys with
 |nil=>
  have hz0:news = #[]:=by simpa using n1
  have:=znx (P:=P) (W:=W) (ty:=ty) (base:=a) ht hu hdu hi hlen (n4 W.drawn) hz0 o2;refine⟨.slice a xs.length cap,W,g,.inl (by rw[Qca,this];rfl),.refl _ _ _,hG,?_⟩
  rw[List.append_nil];exact ygf hs
 |cons y r=>
  have hb:xs.length+(y::r).length<=268435456:=hroom
  have hbytes:(xs.length+(y::r).length) * i.bytes<=140737488355328:=by
   calc (xs.length+(y::r).length) * i.bytes<=268435456 * 524288:=Nat.mul_le_mul hb c3
    _=_:=by decide
  have hcap:cap<xs.length+(y::r).length:=by simp;omega
  obtain⟨cap',d,k1,k2,k3⟩:=zpx (P:=P) (W:=W) (ty:=ty) (base:=a) ht hu hdu hi hz hlen o6 n4 hcap (by omega) (growslice_fits hcap hbytes)
  have hsz:(olds++news++Builtin.zeroCells z.cells (cap'-(xs.length+(y::r).length))).size=cap' * i.size:=by
   rw[Array.size_append,Array.size_append,size_zeroCells,o3,n1,c4,<-Nat.add_mul,<-Nat.add_mul]
   congr 1;omega
  have hF:zqc W g H i.size (xs++y::r) (olds++news++Builtin.zeroCells z.cells (cap'-(xs.length+(y::r).length))):=by
   refine o5.append n3 (λj hj =>?_) (λj hj =>?_);rw[Array.append_assoc,z0n (by rw[o3];exact hj)];rw[Array.append_assoc,<-o3,zeq,z0n (by rw[n1];exact hj)]
  have hgr:=(Grow.drawn W d).trans (Grow.alloc {W with drawn:=d} (.cells (olds++news++Builtin.zeroCells z.cells (cap'-(xs.length+(y::r).length))) e));have hF':=hF.mono (hgr.step (g:=g) (H:=H));have hlen':xs.length+(y::r).length=(xs++y::r).length:=by simp
  refine⟨.slice (some ⟨W.heap.size,0,none⟩) (xs.length+(y::r).length) cap',_,g,.inl (by rw[Qca,k3];rfl),hgr.step,hG.grow hgr,?_⟩;rw[show Value.slice (some ⟨W.heap.size,0,none⟩) (xs.length+(y::r).length) cap'=Value.slice (some ⟨W.heap.size,0,none⟩) (xs++y::r).length cap' by rw[hlen']]
  refine Rel.sl i.size (xs++y::r) false W.heap.size 0 cap' (λj tt=>(olds++news++Builtin.zeroCells z.cells (cap'-(xs.length+(y::r).length))).getD (j * i.size+tt) undef) (λhn=>by
   obtain⟨l,k,o,ho,hb⟩:=hn;have:=hG.lt l k o ho
   omega) c2 (by rw[<-hlen'];exact k1) (λh=>by cases h) hF'.1 (λj x tt u hj hu =>?_) hF'.2.1 hF'.2.2
  have hl:=hF'.1 j x hj;have hjl:=(Qaa.1 hj).1;have htl:=(Qaa.1 hu).1
  have hlt:j * i.size+tt<cap' * i.size:=by
   have:(j+1) * i.size<=cap' * i.size:=Qau _ (by omega);rw[Nat.succ_mul]at this;omega
  rw[Nat.zero_add];show World.cell? (({W with drawn:=d}:World).alloc _) ⟨({W with drawn:=d}:World).heap.size,_,none⟩=_;rw[World.cell?_alloc_new,Qae,Qas (by rw[hsz];exact hlt)];rfl
end
inductive zb1 where
 |ret
 |pan (v:V) (recovered:Bool)
def zb1.settle:zb1->zb1
 |.pan v true=>.ret
 |m=>m
def zb1.value:zb1->V
 |.pan v false=>v
 |_=>.nili
def zb1.zn1:zb1->zb1
 |.pan v false=>.pan v true
 |m=>m
def isRec(o:Oper):Bool:=match o.op with
 |.call c=>(match c.callee with
  |.builtin .recover=>o.guard.isNone&&c.args.isEmpty
  |_=>false)
 |_=>false
theorem LetsOut.mono{Q Q':Exit->Act->World->Prop}(hq:∀e a w,Q e a w->Q' e a w)(h:LetsOut Q):LetsOut Q':=by
 obtain⟨a,w,h⟩:=h;exact⟨a,w,hq _ _ _ h⟩
theorem Oper.y7m{P:Program}{o:Oper}{a:Act}{next next':Act->World->Prop}{Q Q':Exit->Act->World->Prop}(h:∀a w,next a w->next' a w)(hq:∀e a w,Q e a w->Q' e a w){r:Result Next}(q:o.upon P a next Q r):o.upon P a next' Q' r:=by
 unfold Oper.upon at q ⊢;split at q;exact h _ _ q;exact h _ _ q;exact h _ _ q;refine Calls.mono q λe w k =>?_
 cases e with
 |returned v=>exact h _ _ k
 |panicked c=>exact hq _ _ _ k
 |outgrown=>exact LetsOut.mono hq k
 exact Rows.mono q λv w k=>h _ _ k
 exact hq _ _ _ q;exact q.elim
theorem zmq{P:Program}{ops:Array Oper}{Q Q':Exit->Act->World->Prop}(hq:∀e a w,Q e a w->Q' e a w):∀(l:List Nat) (a:Act) (w:World),wpOps P ops Q l a w->wpOps P ops Q' l a w
 |[],a,w,h=>hq _ _ _ h
 |i::rest,a,w,h=>by
  simp only[wpOps]at h ⊢;split at h;exact zmq hq rest a w h;split at h;rename_i hw;rw[Qbx hw]
  rcases h with h|⟨h1,h2⟩
  exact .inl (Oper.y7m (λa w k=>zmq hq rest a w k) hq h);exact .inr ⟨h1,LetsOut.mono hq h2⟩;rename_i hw;rw[Qby hw];exact zmq hq rest _ w h
theorem zqr{P:Program}{ops:Array Oper}{Q:Exit->Act->List Frame->World->Prop}{cs:List Frame}(hq:∀a w,¬Q .outgrown a cs w):∀(l:List Nat) (a:Act) (w:World),wpOps P ops (λe a w=>Q e a cs w) l a w->wpOpsS P ops Q l a cs w
 |[],a,w,h=>h
 |i::rest,a,w,h=>by
  simp only[wpOps]at h;simp only[wpOpsS]
  cases ho:ops[i]? with
  |none=>
   simp only[ho]at h ⊢
   exact zqr hq rest a w h
  |some o=>
   simp only[ho]at h ⊢;split at h;rename_i hw;rw[Qbx hw]
   rcases h with h|⟨_,a',w',h⟩
   unfold Oper.wp at h;generalize hr:(execOp a.eval o).run P w=r at h ⊢;split;exact h.elim;exact Oper.y7m (λa w q=>zqr hq rest a w q) (λ_ _ _ k=>k) h;exact(hq _ _ h).elim;rename_i hw;rw[Qby hw];exact zqr hq rest _ w h
def zun(W:World)(g:Gh)(H:Heap):zb1->FrameMode->Prop
 |.ret,u=>u = .returning
 |.pan v r,u=>∃c,u = .panicking [{v:=c,recovered:=r}]∧Rel W g H v c
theorem zun.mono{W:World}{g:Gh}{H:Heap}{m:zb1}{u:FrameMode}(h:zun W g H m u){W':World}{g':Gh}{H':Heap}(s:Step W g H W' g' H'):zun W' g' H' m u:=by
 cases m with
 |ret=>exact h
 |pan v r=>obtain⟨c,h1,h2⟩:=h;exact⟨c,h1,h2.mono s⟩
theorem zun.settle{W:World}{g:Gh}{H:Heap}{m:zb1}{u:FrameMode}(h:zun W g H m u):zun W g H m.settle (settle u):=by
 cases m with
 |ret=>subst h;rfl
 |pan v r=>
  obtain⟨c,h1,h2⟩:=h;subst h1
  cases r with
  |true=>rfl
  |false=>exact⟨c,rfl,h2⟩
theorem zun.run{W:World}{g:Gh}{H:Heap}{m:zb1}{u:FrameMode}(h:zun W g H m u):u ≠ .run:=by
 cases m with
 |ret=>subst h;simp
 |pan v r=>obtain⟨c,h1,h2⟩:=h;subst h1;simp
def zux(W0:World)(g0:Gh)(H0:Heap)(c₀:Frame)(cs:List Frame)(Q:zz8->St->Prop)(m':zb1)(e:Exit)(a:Act)(cs':List Frame)(W:World):Prop :=
 ∃g σ e' u',yjr W g σ.H e e'∧(σ.e0=H0.E∧Step W0 g0 H0 W g σ.H)∧zz9 W a g σ∧cs'={c₀ with mode:=u'}::cs∧zun W g σ.H m' u'∧Q e' σ
theorem zux.out{W0:World}{g0:Gh}{H0:Heap}{c₀:Frame}{cs:List Frame}{Q:zz8->St->Prop}{m':zb1}{a:Act}{cs':List Frame}{W:World}:¬zux W0 g0 H0 c₀ cs Q m' .outgrown a cs' W:=λ⟨_,_,_,_,h,_⟩=>by cases h
theorem yni{P:Program}{c:Code}{Q Q':Exit->Act->List Frame->World->Prop}{a:Act}{cs:List Frame}{w:World}(h:c.wpS P Q a cs w)(hq:∀e a cs w,Q e a cs w->Q' e a cs w):c.wpS P Q' a cs w :=
 λb k hb hr=>let ⟨e,a',cs',w',q,r⟩:=h b k hb hr;⟨e,a',cs',w',hq _ _ _ _ q,r⟩
section
variable {P : Program}
theorem zst{n:Nat}{W:World}{g:Gh}{H:Heap}{args:List V}{cargs:Array Value}(hG:Good W g H)(hA:zgc W g H args cargs):zz9 W {tmps:=cargs++Array.replicate (n-cargs.size) undef,defers:=[]} g ⟨args++List.replicate (n-args.length) .any,H,[],H.E⟩:=by
 refine⟨hG,by simp[hA.1],λj v hj =>?_,rfl,by simp⟩;rw[Qbe]at hj;split at hj;rename_i hlt;rw[z0n (by rw[hA.1];exact hlt)];exact hA.2 j v hj;rw[Qbo]at hj;split at hj;injection hj with hj;subst hj;exact .any _;cases hj
end
end Go.Ab
namespace Go.Ab
open Go
open Go.RowKit
set_option linter.unusedVariables false
set_option linter.unusedSimpArgs false
def lnA:B8->B8
 |[]=>[]
 |c::r=>match c==10 with
  |true=>[c]
  |false=>c::lnA r
def lnB:B8->B8
 |[]=>[]
 |c::r=>match c==10 with
  |true=>r
  |false=>lnB r
def noS:B8->Bool
 |[]=>true
 |_::_=>false
theorem yld{s:B8}:noS s=true↔s=[]:=by cases s <;> simp[noS]
theorem ylf:∀s:B8,(lnB s).length<=s.length
 |[]=>Qbw _
 |c::r=>by
  have:=ylf r;simp only[lnB];split <;> simp only[List.length_cons] <;> omega
theorem yr5{s:B8}(h:s≠[]):(lnB s).length<s.length:=by
 cases s with
 |nil=>exact(h rfl).elim
 |cons c r=>
  have:=ylf r;simp only[lnB];split <;> simp only[List.length_cons] <;> omega
section
def Obj.aside:Obj->Bool
 |.loop _=>true
 |.deferred _=>true
 |_=>false
variable {W W' : World} {g g' : Gh} {H H' : Heap} {l : Nat} {rc : Loop} {z : Obj}
theorem zhk{b:Nat}{o o':Obj}(hl:W.heap[l]? = some (.loop rc))(h:W.heap[b]? = some o)(ho:∀r,o ≠ .loop r):(W.putObj l o').heap[b]? = some o:=by
 refine(World.putObj_heap_other λe =>?_).trans h
 subst e;rw[hl]at h;injection h with h;exact ho _ h.symm
theorem zby{b:Nat}{o o':Obj}(hl:W.heap[l]? = some z)(hz:Obj.aside z=true)(h:W.heap[b]? = some o)(ho:Obj.aside o=false):(W.putObj l o').heap[b]? = some o:=by
 refine(World.putObj_heap_other λe =>?_).trans h
 subst e;rw[hl]at h;injection h with h;subst h;rw[hz]at ho;cases ho
theorem ydd{a:Addr}{v:Value}{o':Obj}(hl:W.heap[l]? = some z)(hz:Obj.aside z=true)(h:W.cell? a=some v):(W.putObj l o').cell? a=some v:=by
 rw[<-h];unfold World.cell? at h ⊢;have:a.block≠l:=λe=>by rw[e,hl]at h;cases z <;> first|(cases hz;done)|(simp at h;done)
 rw[World.putObj_heap_other this]
theorem Rel.put{v:V}{c:Value}(h:Rel W g H v c)(hl:W.heap[l]? = some z)(hz:Obj.aside z=true)(o':Obj):Rel (W.putObj l o') g H v c:=by
 induction h with
 |any c=>exact .any c
 |bool b=>exact .bool b
 |int k n=>exact .int k n
 |str s=>exact .str s
 |nilp=>exact .nilp
 |ptr l i off hd=>exact .ptr l i off hd
 |ref cs off b o c hb hc h1 hr ih=>exact .ref cs off b o c hb (λj v hj=>ydd hl hz (hc j v hj)) h1 ih
 |ap l i ver idx off a hd hv ha=>exact .ap l i ver idx off a hd hv ha
 |nils=>exact .nils
 |slnil sz full=>exact .slnil sz full
 |sle sz full a cap hf=>exact .sle sz full a cap hf
 |sl sz xs full b o cap c hb hz' hcap hf hs hc h1 hr ih=>exact .sl sz xs full b o cap c hb hz' hcap hf hs (λj x t v hj ht=>ydd hl hz (hc j x t v hj ht)) h1 ih
 |hs l i ver off n full a m cap hd hv ha=>exact .hs l i ver off n full a m cap hd hv ha
 |mapn=>exact .mapn
 |map l i hd=>exact .map l i hd
 |mapc es b en clock hb hw he=>exact .mapc es b en clock hb (zby hl hz hw rfl) he
 |fn f fs cs fs' cs' h1 h2 r1 r2 i1 i2=>exact .fn f fs cs fs' cs' h1 h2 i1 i2
 |nilf=>exact .nilf
 |iface t v c h ih=>exact .iface t v c ih
 |nili=>exact .nili
 |agg vs cs hn h1 hr ih=>exact .agg vs cs hn h1 ih
 |tup vs cs hn hr ih=>exact .tup vs cs hn ih
theorem zal.put{i j:Nat}{o:zz4}(h:zal W g H i j o)(hl:W.heap[l]? = some z)(hz:Obj.aside z=true)(o':Obj):zal (W.putObj l o') g H i j o:=by
 cases o with
 |cells cs=>
  obtain⟨c,ty,h1,h2,h3,h4⟩:=h
  exact⟨c,ty,zby hl hz h1 rfl,h2,h3,λj v hj=>(h4 j v hj).put hl hz o'⟩
 |arr ver ty sz xs cp=>
  obtain⟨c,h1,h2,h3,h4,h5,h6,h7,h8,h9⟩:=h
  exact⟨c,zby hl hz h1 rfl,h2,h3,h4,h5,h6,h7,h8,λj x t v hj ht=>(h9 j x t v hj ht).put hl hz o'⟩
 |map es=>
  obtain⟨en,clock,h1,h2,h3,h4,h5⟩:=h
  exact⟨en,clock,zby hl hz h1 rfl,h2,h3,h4,λj p hj=>let ⟨e,a,b,c⟩:=h5 j p hj;⟨e,a,b.put hl hz o',c.put hl hz o'⟩⟩
 |siter s pos=>exact zby hl hz h rfl
 |mit es vis=>
  obtain⟨en,clock,mb,h1,h2,h3,h4⟩:=h;exact⟨en,clock,mb,zby hl hz h1 rfl,h2,zby hl hz h3 rfl,h4⟩
theorem Good.put(h:Good W g H)(hl:W.heap[l]? = some z)(hz:Obj.aside z=true)(o':Obj):Good (W.putObj l o') g H :=
 ⟨h.dom,λl i o ho=>by rw[World.putObj_size];exact h.lt l i o ho,h.inj,h.fresh,λl i o ho=>(h.obj l i o ho).put hl hz o',
  ⟨λk cs hk=>let ⟨a,ty,q,b⟩:=h.ziy.1 k cs hk;⟨a,ty,q,zby hl hz b rfl⟩,λk hk=>let ⟨a,v,ty,q,b,c⟩:=h.ziy.2 k hk;⟨a,v,ty,q,zby hl hz b rfl,c⟩⟩,by rw[World.putObj_size];exact h.base⟩
theorem zz9.ycr{a:Act}{σ:St}(h:zz9 W a g σ)(hl:W.heap[l]? = some (.loop rc))(o':Obj):zz9 (W.putObj l o') a g σ :=
 ⟨h.good.put hl rfl o',h.size,λj v hj=>(h.tmps j v hj).put hl rfl o',h.dlen,λj f vs hj=>by
  rcases h.defs j f vs hj with ⟨h0,caps,as,h1,h2⟩|⟨h0,D,h1,h2,h3⟩
  exact .inl ⟨h0,caps,as,h1,h2.1,λj v hj=>(h2.2 j v hj).put hl rfl o'⟩
  exact .inr ⟨h0,D,h1,zhk hl h2 (λr=>by simp),h3⟩⟩
theorem Step.ygt(h:Step W g H W' g' H')(hl:W.heap.size<=l)(o:Obj):Step W g H (W'.putObj l o) g' H' :=
 ⟨h.os,h.tape,h.output,by rw[World.putObj_size];exact h.size,λb hb hn=>(World.putObj_heap_other (by omega)).trans (h.block b hb hn),h.own,h.dom,h.new,h.blk,h.arr,h.lv,h.base⟩
theorem Step.put2(h:Step W g H W' g' H')(hl:l<W.heap.size)(o:Obj):Step (W.putObj l o) g H (W'.putObj l o) g' H' :=
 ⟨h.os,h.tape,h.output,by rw[World.putObj_size,World.putObj_size];exact h.size,λb hb hn=>by
  rw[World.putObj_size]at hb;by_cases e:b=l;subst e;rw[World.putObj_heap_same hl,World.putObj_heap_same (Qbj hl h.size)]
  rw[World.putObj_heap_other e,World.putObj_heap_other e];exact h.block b hb hn,λb hb=>by rw[World.putObj_size];exact h.own b hb,h.dom,h.new,h.blk,h.arr,h.lv,h.base⟩
end
theorem zua{W:World}{g:Gh}{H:Heap}(hG:Good W g H){b:Nat}{x:Loop}(h:W.heap[b]? = some (.loop x)):¬Own g H b:=λ⟨l,i,o,ho,hb⟩=>by
 have hr:=hG.obj l i o ho
 cases o with
 |cells cs=>obtain⟨c,ty,k,_⟩:=hr;rw[show g.blk l i=b from hb,h]at k;cases k
 |arr ver ty sz xs cp=>obtain⟨c,k,_⟩:=hr;rw[show g.ab l i=b from hb,h]at k;cases k
 |map es=>obtain⟨en,clock,k,_⟩:=hr;rw[show g.blk l i=b from hb,h]at k;cases k
 |siter s pos=>have k:W.heap[g.blk l i]? = _:=hr;rw[show g.blk l i=b from hb,h]at k;cases k
 |mit es vis=>obtain⟨en,clock,mb,k,_⟩:=hr;rw[show g.blk l i=b from hb,h]at k;cases k
section
variable {P : Program}
def ze8(P:Program)(lf:Nat):Prop :=
 (∀args w,(callFunc lf args).run P w = .ok (.enter lf args) w) ∧
 ∀(n l Bs:Nat) (K:B8->World->Prop) (Kx:World->Prop) (s:B8) (W:World),
  (∀r W,K r W->W.cell? ⟨Bs,0,none⟩=some (.string ⟨r.toArray⟩)∧W.frozen? ⟨Bs,0,none⟩=false) ->
  (∀r W W',K r W->Grow W W'->K r W') ->
  (∀r W,r≠[]->K r W->YieldAt Fence.wide (n-1) P l #[.string ⟨(lnA r).toArray⟩] (W.setCell ⟨Bs,0,none⟩ (.string ⟨(lnB r).toArray⟩)) λe W'=>
   (e = .returned (.bool true)∧K (lnB r) W')∨(e = .returned (.bool false)∧Kx W')) ->
  s.length<=4611686018427387904->K s W->CallsIn Fence.wide n P lf #[.func (.yield l) #[] #[],.pointer (some ⟨Bs,0,none⟩)] W λe W'=>(∃v,e = .returned v)∧(K [] W'∨Kx W')
def St.marked(σ:St):St:={σ with d:=(zfp,[])::σ.d}
def St.begin(τ:St)(p i:Nat)(r:B8):St:={τ with t:=τ.t.set p (.str (lnA r)),H:=τ.H.set τ.H.lv i (.cells [.str (lnB r)]),d:=[]}
def RQ(τ τs:St)(φ:zz8->St->Prop)(e:zz8)(σ':St):Prop :=
 (∀v,e ≠ .panic v)∧∀Wb gb W g a a3,Good Wb gb τs.H->(σ'.e0=τs.H.E∧Step Wb gb τs.H W g σ'.H)->zz9 Wb a gb {τ with H:=τs.H}->zz9 W a3 g σ' ->
  ∃σ'' g'',zz9 W a g'' σ''∧(σ''.e0=τs.H.E∧Step Wb gb τs.H W g'' σ''.H)∧φ e σ''
def zv9(P:Program)(lf:Nat)(go:Operand)(p:Nat)(assign body:Code)(Q:zz8->St->Prop):Nat->St->Prop
 |k,σ=>∃τ i r,zhe σ τ∧τ.e0=τ.H.E∧τ.ev go = .fn lf [] [.ptr τ.H.lv i 0]∧τ.H.get τ.H.lv i=some (.cells [.str r])∧r.length<=4611686018427387904∧(r=[]->Q .normal τ.marked) ∧
  (r≠[]->r.length<=k->match k with
   |0=>False
   |k+1=>Sat P assign (τ.begin p i r) (zz8.then (λσ1=>Sat P body σ1 (RQ τ (τ.begin p i r) λe σ''=>match e with
    |.normal=>σ''.H.get τ.H.lv i=some (.cells [.str (lnB r)])∧zv9 P lf go p assign body Q k σ''
    |e=>Q e σ''.marked)) λ_ _=>False))
theorem zz9.grow{W W':World}{a:Act}{g:Gh}{σ:St}(h:zz9 W a g σ)(k:Grow W W'):zz9 W' a g σ :=
 ⟨h.good.grow k,h.size,λj v hj=>(h.tmps j v hj).mono k.step,h.dlen,λj f vs hj=>(h.defs j f vs hj).mono h.good k.step⟩
theorem zz9.later{W W':World}{a:Act}{g g':Gh}{σ:St}{H':Heap}(h:zz9 W a g σ)(s:Step W g σ.H W' g' H')(hG:Good W' g' H'):zz9 W' a g' {σ with H:=H'} :=
 ⟨hG,h.size,λj v hj=>(h.tmps j v hj).mono s,h.dlen,λj f vs hj=>(h.defs j f vs hj).mono h.good s⟩
theorem zz9.mark{W:World}{a:Act}{g:Gh}{σ:St}(h:zz9 W a g σ){D:Nat}(hD:W.heap[D]? = some (.deferred (some [])))(hb:g.base<=D):zz9 W {a with defers:={target:=.collected D,args := #[]}::a.defers} g σ.marked :=
 ⟨h.good,h.size,h.tmps,by simp[St.marked,h.dlen],λj f vs hj=>by
  cases j with
  |zero=>simp[St.marked]at hj;obtain⟨rfl,rfl⟩:=hj;exact .inr ⟨rfl,D,rfl,hD,hb⟩
  |succ j=>exact h.defs j f vs (by simpa[St.marked]using hj)⟩
theorem ylg{W:World}{g:Gh}{H:Heap}(hG:Good W g H){l i:Nat}{r x:B8}(h:H.get l i=some (.cells [.str r])) :
  Step W g H (W.setCell ⟨g.blk l i,0,none⟩ (.string ⟨x.toArray⟩)) g (H.set l i (.cells [.str x]))∧Good (W.setCell ⟨g.blk l i,0,none⟩ (.string ⟨x.toArray⟩)) g (H.set l i (.cells [.str x])):=by
 obtain⟨c,ty,h1,h2,h3,h4⟩:=hG.obj _ _ _ h;refine zas (o':=.cells [.str x]) hG h rfl rfl rfl rfl ?_ (λb hb hne =>?_) (λver ty sz xs cp e=>by cases e) λ_ =>?_
 show W.heap.size<=(W.heap.modify _ _).size;rw[Array.size_modify];exact Qbw _;show(W.heap.modify _ _)[b]? = _;rw[Qcg,Qby (λe=>hne e.symm)]
 ·refine⟨c.setIfInBounds 0 (.string ⟨x.toArray⟩),ty,?_,by simpa using h2,λj v hj =>?_,λj v hj =>?_⟩;show(W.heap.modify _ _)[g.blk l i]? = _;rw[Qcg,Qbx rfl,h1];simp
  all_goals
   cases j with
   |succ j=>simp at hj
   |zero=>
    simp at hj;subst hj;have hsz:0<c.size:=by rw[h2];simp
    simp only[Qae,Array.getElem?_setIfInBounds,hsz,if_true,Option.getD_some]
    first|rfl|exact .str _
theorem zuu{W:World}{g:Gh}{H:Heap}(hG:Good W g H){l i:Nat}{r:B8}(h:H.get l i=some (.cells [.str r])):W.cell? ⟨g.blk l i,0,none⟩=some (.string ⟨r.toArray⟩)∧W.frozen? ⟨g.blk l i,0,none⟩=false:=by
 obtain⟨c,ty,h1,h2,h3,h4⟩:=hG.obj _ _ _ h;have hsz:0<c.size:=by rw[h2];simp
 have h5:=h4 0 _ rfl;refine⟨?_,?_⟩;unfold World.cell?;simp only[h1,Option.isSome_none,Bool.false_eq_true,if_false];rw[Qae,Qas hsz,Option.getD_some]at h5;rw[Qas hsz];generalize c[0]=z at h5;cases h5;rfl;unfold World.frozen?;simp only[h1];simp
theorem str_inj{r s:B8}(h:Value.string ⟨r.toArray⟩ = .string ⟨s.toArray⟩):r=s:=by
 injection h with h;injection h with h;injection h
theorem ypq{lf:Nat}{go:Operand}{p:Nat}{assign body:Code}{σ:St}{Q:zz8->St->Prop}(hL:ze8 P lf)(hc:(calm assign&&calm body)=true)
  (h:∀k,zv9 P lf go p assign body Q k σ):Sat P (.rangeFunc go #[p] assign body) σ Q:=λW0 g0 H0 W a g hB hS hG=>by
 intro rr hr n;have hr:rr=none:=hr.resolve_right (by simp[calm]);subst hr;simp only[Qag]at hc
 have read:∀{k σ W g},zv9 P lf go p assign body Q k σ->(σ.e0=H0.E∧Step W0 g0 H0 W g σ.H)->zz9 W a g σ->∃(g1:Gh) (Bs:Nat) (r:B8),a.eval go = .func (.func lf) #[] #[.pointer (some ⟨Bs,0,none⟩)]∧W.cell? ⟨Bs,0,none⟩=some (.string ⟨r.toArray⟩)∧W.frozen? ⟨Bs,0,none⟩=false∧r.length<=4611686018427387904:=λ{k σ W g} hk hS hG=>by
  unfold zv9 at hk;obtain⟨τ,i,r,hw,_,hev,hget,hcap,_⟩:=hk;obtain⟨g1,hS1,hG1⟩:=hw W0 g0 H0 W a g hB hS hG;have he:=hG1.ev go;rw[hev]at he;generalize a.eval go=cg at he
  cases he with
  |fn f fs cs fs' cs' n1 n2 r1 r2=>
   have e1:=r2 0 _ rfl;have hf:fs' = #[]:=Array.eq_empty_of_size_eq_zero n1
   have hcs:cs' = #[cs'.getD 0 undef]:=by
    obtain⟨l⟩:=cs'
    match l,n2 with
    |[x],_=>rfl
   generalize cs'.getD 0 undef=z at e1 hcs;cases e1;obtain⟨b1,b2⟩:=zuu hG1.good hget;exact⟨g1,_,r,by rw[hf,hcs],b1,b2,hcap⟩
 obtain⟨_,Bs,s0,hev0,hc0,hf0,hcap0⟩:=read (h 0) hS hG;refine wpIn_rangeFunc λfn hfn =>?_
 let rec':LoopState->Option Code->Loop:=λst pe=>{state:=st,pending:=pe,fn,tmps:=a.tmps,params := #[p],assign,body,defers:=W.heap.size}
 obtain⟨W1,hW1⟩:∃W1,(W.alloc (.deferred (some []))).alloc (.loop (rec' .ready none))=W1:=⟨_,rfl⟩
 have hL1:W1.heap[W.heap.size+1]? = some (.loop (rec' .ready none)):=by
  rw[<-hW1];have:=World.alloc_heap_new (W.alloc (.deferred (some []))) (.loop (rec' .ready none));rwa[World.size_alloc]at this
 have hK1:W1.heap[W.heap.size]? = some (.deferred (some [])):=by
  rw[<-hW1];exact(Below.heap_alloc _ _ _ (by simp)).trans (World.alloc_heap_new W _)
 have hgr:Grow W W1:=by rw[<-hW1];exact(Grow.alloc _ _).trans (Grow.alloc _ _)
 refine⟨W.heap.size+1,[{target:=.collected W.heap.size,args := #[]}],W1,{target:=.fn (.func lf) #[.pointer (some ⟨Bs,0,none⟩)],args := #[.func (.yield (W.heap.size+1)) #[] #[]]},W1,lf,
  #[.func (.yield (W.heap.size+1)) #[] #[]] ++ #[.pointer (some ⟨Bs,0,none⟩)],W1,?_,?_,?_,?_,λh=>(by cases h),?_⟩
 rw[<-hW1];exact run_enterLoop_outer _ _ _ _ _
 ·simp only[resolve,hev0];simp[go_sem]
 intro f' hf';trivial
 ·simp[invoke,go_sem,hL.1]
 have hlsz:W0.heap.size<=W.heap.size:=hS.2.size;have hbase:g0.base<=W.heap.size:=by rw[<-hS.2.base];exact hG.good.base
 let K:B8->World->Prop:=λ(r:B8) (W':World)=>∃k σ' g',r.length<=k∧zv9 P lf go p assign body Q k σ'∧(σ'.e0=H0.E∧Step W0 g0 H0 W' g' σ'.H)∧zz9 W' a g' σ' ∧
  W'.heap[W.heap.size+1]? = some (.loop (rec' .ready none))∧W'.heap[W.heap.size]? = some (.deferred (some []))∧W'.cell? ⟨Bs,0,none⟩=some (.string ⟨r.toArray⟩)∧W'.frozen? ⟨Bs,0,none⟩=false
 let Kx:World->Prop:=λW'=>∃c e σ' g',(c = .ret∧e = .ret∨∃id,c = .exit id∧e = .exit id)∧Q e σ'.marked∧(σ'.e0=H0.E∧Step W0 g0 H0 W' g' σ'.H)∧zz9 W' a g' σ' ∧
  W'.heap[W.heap.size+1]? = some (.loop (rec' .done (some c)))∧W'.heap[W.heap.size]? = some (.deferred (some []))
 have hcon:=hL.2 (n-1) (W.heap.size+1) Bs K Kx s0 W1 (λr W' hk =>?cell) (λr W' W'' hk hg =>?grow) (λr W' hne hk =>?round) hcap0 ?start
 case cell=>obtain⟨_,_,_,_,_,_,_,_,_,q1,q2⟩:=hk;exact⟨q1,q2⟩
 case grow=>
  obtain⟨k,σ',g',q1,q2,q3,q4,q5,q6,q7,q8⟩:=hk
  have cg:∀{a:Addr}{v:Value},W'.cell? a=some v->a.block<W'.heap.size:=λ{a v} hc=>by
   unfold World.cell? at hc
   rcases Nat.lt_or_ge a.block W'.heap.size with x|x
   exact x;simp[Array.getElem?_eq_none x]at hc
  have hb:=hg.block Bs (cg q7);refine⟨k,σ',g',q1,q2,⟨q3.1,q3.2.trans hg.step⟩,q4.grow hg,(hg.block _ (Qbn.1 q5).1).trans q5,(hg.block _ (Qbn.1 q6).1).trans q6,?_,?_⟩;rw[<-q7];unfold World.cell?;simp only[hb];rw[<-q8];unfold World.frozen?;simp only[hb]
 case start=>
  refine⟨s0.length,σ,g,Qbw _,h _,⟨hS.1,hS.2.trans hgr.step⟩,hG.grow hgr,hL1,hK1,?_,?_⟩;have hlt:Bs<W.heap.size:=zvl hc0;rw[<-hc0];unfold World.cell?;simp only[hgr.block Bs hlt];have hlt:Bs<W.heap.size:=zvl hc0;rw[<-hf0];unfold World.frozen?;simp only[hgr.block Bs hlt]
 case round=>
  obtain⟨k,σ',g',hle,hR,hS',hG',hl,hD,hcell,hfroz⟩:=hk
  cases k with
  |zero=>exact(hne (Qao (by omega))).elim
  |succ k=>
  unfold zv9 at hR;obtain⟨τ,i,r2,hw,he0,hev,hget,_,_,hrd⟩:=hR;obtain⟨g1,hS1,hG1⟩:=hw W0 g0 H0 W' a g' hB hS' hG'
  have hBs:g1.blk τ.H.lv i=Bs:=by
   have he:=hG1.ev go;rw[hev,hev0]at he
   cases he with
   |fn f fs cs fs' cs' n1 n2 r1 r2=>
    have e1:=r2 0 _ rfl;simp at e1;cases e1;rfl
  obtain⟨b1,b2⟩:=zuu hG1.good hget;rw[hBs,hcell]at b1;have hr2:r=r2:=str_inj (Option.some.inj b1);subst hr2;have hsat:=hrd hne hle;obtain⟨st1,gd1⟩:=ylg (x:=lnB r) hG1.good hget;rw[hBs]at st1 gd1
  have hlB:W.heap.size+1≠Bs:=λe=>by
   rw[<-e]at hcell;unfold World.cell? at hcell;simp only[hl]at hcell;cases hcell
  have hDB:W.heap.size≠Bs:=λe=>by
   rw[<-e]at hcell;unfold World.cell? at hcell;simp only[hD]at hcell;cases hcell
  have hl1:(W'.setCell ⟨Bs,0,none⟩ (.string ⟨(lnB r).toArray⟩)).heap[W.heap.size+1]? = some (.loop (rec' .ready none)):=(Below.heap_setCell _ _ _ _ hlB).trans hl;have hD1:(W'.setCell ⟨Bs,0,none⟩ (.string ⟨(lnB r).toArray⟩)).heap[W.heap.size]? = some (.deferred (some [])):=(Below.heap_setCell _ _ _ _ hDB).trans hD
  generalize hW1:W'.setCell ⟨Bs,0,none⟩ (.string ⟨(lnB r).toArray⟩)=W1 at st1 gd1 hl1 hD1 ⊢
  have hE:(τ.begin p i r).H.E=H0.E:=by
   rw[<-hS1.1,he0];show(τ.H.set τ.H.lv i _).E=_;unfold Heap.set;rw[Qbx rfl]
  have hGh:zz9 W1 a g1 {τ with H:=(τ.begin p i r).H}:=hG1.later st1 gd1
  have hGs:zz9 W1 {tmps:=a.tmps.setIfInBounds p (.string ⟨(lnA r).toArray⟩),defers:=[]} g1 (τ.begin p i r):=by
   have h0:zz9 W1 {tmps:=a.tmps,defers:=[]} g1 {τ with H:=(τ.begin p i r).H,d:=[]}:=⟨hGh.good,hGh.size,hGh.tmps,rfl,λj f vs hj=>by simp at hj⟩;exact h0.next (.refl _ _ _) gd1 (.str _) (some p)
  have hl1lt:W.heap.size+1<W1.heap.size:=(Qbn.1 hl1).1
  have hy:(Instr.yield (W.heap.size+1) #[.string ⟨(lnA r).toArray⟩]).run P W1 = .ok (.round (W.heap.size+1) fn (a.tmps.setIfInBounds p (.string ⟨(lnA r).toArray⟩)) assign body) W1:=by
   have:=run_yield (P:=P) (args := #[.string ⟨(lnA r).toArray⟩]) hl1 rfl;simpa[rec']using this
  refine⟨fn,_,assign,body,hy,roundIn_of_wpIn trivial ?_⟩
  let o2:Obj:=.loop (rec' .busy none)
  have a1:=hsat W1 g1 (τ.begin p i r).H W1 _ g1 ⟨gd1⟩ ⟨hS1.1.trans hE.symm,.refl _ _ _⟩ hGs (some (W.heap.size+1)) (.inr hc.1) (n-1-1);refine wpIn_mono (show assign.wpIn (Fence.wide.inRound (W.heap.size+1)) (n-1-1) P _ _ _ from a1) ?_
  rintro e am Wm ⟨gm,σ1,e',q1,q2,q3,q4⟩
  have hlm:Wm.heap[W.heap.size+1]? = some (.loop (rec' .ready none)):=(q2.2.block _ hl1lt (zua gd1 hl1)).trans hl1
  cases q1 with
  |exit id=>exact q4
  |ret=>exact q4
  |panic v c hr=>exact q4
  |normal=>
  refine⟨Wm.putObj (W.heap.size+1) o2,run_beginRound hlm rfl,?_⟩;have a2:=q4 (W1.putObj (W.heap.size+1) o2) g1 (τ.begin p i r).H (Wm.putObj (W.heap.size+1) o2) am gm ⟨gd1.put hl1 rfl o2⟩ ⟨q2.1,q2.2.put2 hl1lt o2⟩ (q3.ycr hlm o2) (some (W.heap.size+1)) (.inr hc.2) (n-1-1);refine wpIn_mono (show body.wpIn (Fence.wide.inRound (W.heap.size+1)) (n-1-1) P _ _ _ from a2) ?_
  rintro e a3 W3 ⟨g3,σ3,e',k1,k2,k3,k4⟩
  have hl2:(W1.putObj (W.heap.size+1) o2).heap[W.heap.size+1]? = some (.loop (rec' .busy none)):=World.putObj_heap_same hl1lt;have hD2:(W1.putObj (W.heap.size+1) o2).heap[W.heap.size]? = some (.deferred (some [])):=(World.putObj_heap_other (by omega)).trans hD1;have gd2:=gd1.put hl1 rfl o2
  have hl3:W3.heap[W.heap.size+1]? = some (.loop (rec' .busy none)):=(k2.2.block _ (by rw[World.putObj_size];exact hl1lt) (zua gd2 hl2)).trans hl2;have hD3:W3.heap[W.heap.size]? = some (.deferred (some [])):=(k2.2.block _ (by rw[World.putObj_size];omega) (yhk gd2 hD2)).trans hD2;obtain⟨σ'',g'',m1,m2,m3⟩:=k4.2 _ g1 W3 g3 a a3 gd2 k2 (hGh.ycr hl1 o2) k3
  have stp:Step W0 g0 H0 W3 g'' σ''.H:=((hS1.2.trans st1).ygt (by omega) o2).trans m2.2;have fin:∀jump:Option Code,(Instr.endRound (W.heap.size+1) jump).run P W3 = .ok (.bool jump.isNone) (W3.putObj (W.heap.size+1) (.loop (rec' (if jump.isNone then .ready else .done) jump))):=λjump=>run_endRound jump hl3
  have hlt3:W.heap.size+1<W3.heap.size:=(Qbn.1 hl3).1
  have out:∀(c:Code) (e:zz8),(c = .ret∧e = .ret∨∃id,c = .exit id∧e = .exit id)->Q e σ''.marked->∃v w',(Instr.endRound (W.heap.size+1) (some c)).run P W3 = .ok v w'∧((Ending.returned v = .returned (.bool true)∧K (lnB r) w')∨(Ending.returned v = .returned (.bool false)∧Kx w')):=λc e hce hq=>
   ⟨_,_,fin (some c),.inr ⟨rfl,c,e,σ'',g'',hce,hq,⟨m2.1.trans hE,stp.ygt (by omega) _⟩,m1.ycr hl3 _,World.putObj_heap_same hlt3,zhk hl3 hD3 λr=>by simp⟩⟩
  cases k1 with
  |normal=>
   obtain⟨y1,y2⟩:=m3;have hgd:=(m1.ycr hl3 (.loop (rec' .ready none))).good;have hbk:g''.blk τ.H.lv i=Bs:=by rw[<-hBs];exact m2.2.blk _ _ (hG1.good.dom _ _ _ hget)
   obtain⟨z1,z2⟩:=zuu hgd y1;rw[hbk]at z1 z2
   exact⟨_,_,fin none,.inl ⟨rfl,k,σ'',g'',by have:=yr5 hne;omega,y2,⟨m2.1.trans hE,stp.ygt (by omega) _⟩,m1.ycr hl3 _,World.putObj_heap_same hlt3,zhk hl3 hD3 λr=>by simp,z1,z2⟩⟩
  |ret=>exact out .ret .ret (.inl ⟨rfl,rfl⟩) m3
  |exit id=>exact out (.exit id) (.exit id) (.inr ⟨id,rfl,rfl⟩) m3
  |panic v c hr=>exact(k4.1 v rfl).elim
 refine(show CallsIn Fence.wide (n-1) P lf _ W1 _ from hcon).mono ?_
 rintro e W2 ⟨⟨v,rfl⟩,hk|hk⟩
 obtain⟨k,σ',g',hle,hR,hS',hG',hl,hD,hcell,hfroz⟩:=hk;unfold zv9 at hR;obtain⟨τ,i,r2,hw,he0,hev,hget,_,hq,_⟩:=hR;obtain⟨g1,hS1,hG1⟩:=hw W0 g0 H0 W2 a g' hB hS' hG'
 have hBs:g1.blk τ.H.lv i=Bs:=by
  have he:=hG1.ev go;rw[hev,hev0]at he
  cases he with
  |fn f fs cs fs' cs' n1 n2 r1 r2=>
   have e1:=r2 0 _ rfl;simp at e1;cases e1;rfl
 obtain⟨b1,b2⟩:=zuu hG1.good hget;rw[hBs,hcell]at b1;have hr2:[]=r2:=str_inj (Option.some.inj b1);refine⟨none,_,run_endLoop hl (by simp[rec']),?_⟩;exact⟨g1,τ.marked,.normal,.normal,⟨hS1.1,hS1.2.ygt (by omega) _⟩,(hG1.ycr hl _).mark (zhk hl hD λr=>by simp) (by rw[hS1.2.base];exact hbase),hq hr2.symm⟩;obtain⟨c,e,σ',g',hce,hq,hS',hG',hl,hD⟩:=hk;refine⟨some c,_,run_endLoop hl (by simp[rec']),?_⟩
 rcases hce with ⟨rfl,rfl⟩|⟨id,rfl,rfl⟩
 exact wpIn_ret ⟨g',σ'.marked,.ret,.ret,⟨hS'.1,hS'.2.ygt (by omega) _⟩,(hG'.ycr hl _).mark (zhk hl hD λr=>by simp) (by rw[hS'.2.base];exact hbase),hq⟩;exact wpIn_exit ⟨g',σ'.marked,_,.exit id,⟨hS'.1,hS'.2.ygt (by omega) _⟩,(hG'.ycr hl _).mark (zhk hl hD λr=>by simp) (by rw[hS'.2.base];exact hbase),hq⟩
end
end Go.Ab
namespace Go.Ab
open Go
set_option linter.unusedVariables false
set_option linter.unusedSimpArgs false
section
variable {P : Program} {W W' : World} {g g' : Gh} {H H' : Heap}
def Gh.at(g:Gh)(b:Nat):Gh:={g with base:=b}
theorem Rel.at{v:V}{c:Value}(h:Rel W g H v c)(b:Nat):Rel W (g.at b) H v c:=by
 induction h with
 |any c=>exact .any c
 |bool b=>exact .bool b
 |int k n=>exact .int k n
 |str s=>exact .str s
 |nilp=>exact .nilp
 |ptr l i off hd=>exact .ptr l i off hd
 |ref cs off b o c hb hc h1 hr ih=>exact .ref cs off b o c hb hc h1 ih
 |ap l i ver idx off a hd hv ha=>exact .ap l i ver idx off a hd hv ha
 |nils=>exact .nils
 |slnil sz full=>exact .slnil sz full
 |sle sz full a cap hf=>exact .sle sz full a cap hf
 |sl sz xs full b o cap c hb hz hcap hf hs hc h1 hr ih=>exact .sl sz xs full b o cap c hb hz hcap hf hs hc h1 ih
 |hs l i ver off n full a m cap hd hv ha=>exact .hs l i ver off n full a m cap hd hv ha
 |mapn=>exact .mapn
 |map l i hd=>exact .map l i hd
 |mapc es b en clock hb hw he=>exact .mapc es b en clock hb hw he
 |fn f fs cs fs' cs' h1 h2 r1 r2 i1 i2=>exact .fn f fs cs fs' cs' h1 h2 i1 i2
 |nilf=>exact .nilf
 |iface t v c h ih=>exact .iface t v c ih
 |nili=>exact .nili
 |agg vs cs hn h1 hr ih=>exact .agg vs cs hn h1 ih
 |tup vs cs hn hr ih=>exact .tup vs cs hn ih
theorem zal.at{i j:Nat}{o:zz4}(h:zal W g H i j o)(b:Nat):zal W (g.at b) H i j o:=by
 cases o with
 |cells cs=>
  obtain⟨c,ty,h1,h2,h3,h4⟩:=h
  exact⟨c,ty,h1,h2,h3,λj v hj=>(h4 j v hj).at b⟩
 |arr ver ty sz xs cp=>
  obtain⟨c,h1,h2,h3,h4,h5,h6,h7,h8,h9⟩:=h
  exact⟨c,h1,h2,h3,h4,h5,h6,h7,h8,λj x t v hj ht=>(h9 j x t v hj ht).at b⟩
 |map es=>
  obtain⟨en,clock,h1,h2,h3,h4,h5⟩:=h
  exact⟨en,clock,h1,h2,h3,h4,λj p hj=>let ⟨e,x,y,z⟩:=h5 j p hj;⟨e,x,y.at b,z.at b⟩⟩
 |siter s pos=>exact h
 |mit es vis=>exact h
theorem Good.at(h:Good W g H){b:Nat}(hb:b<=W.heap.size):Good W (g.at b) H :=
 ⟨h.dom,h.lt,h.inj,h.fresh,λl i o ho=>(h.obj l i o ho).at b,h.ziy,hb⟩
theorem Step.at(h:Step W g H W' g' H')(b:Nat):Step W (g.at b) H W' (g'.at b) H' :=
 ⟨h.os,h.tape,h.output,h.size,h.block,h.own,h.dom,h.new,h.blk,h.arr,h.lv,rfl⟩
theorem yml{σ:St}:∀rs:List ResultVar,zuq P {σ with d:=[]} rs=zuq P σ rs
 |[]=>rfl
 |r::rs=>by simp only[zuq,yml rs];cases r <;> rfl
theorem y1k{fn:Func}{σ:St}:z06 P fn {σ with d:=[]}=z06 P fn σ:=by unfold z06;rw[yml]
def yn5(P:Program)(fn:Func)(lv:Nat)(E:Nat->Nat->Option zz4)(r:V)(e:zz8)(σ:St):Prop :=
 match e with
 |.normal| .ret=>∃v,z06 P fn σ=some v∧(σ.d=[]∨σ.d=[(zfp,[])])∧σ.H.E=E∧VS σ.H (outer lv) v r
 |_=>False
theorem yjk{f:Nat}{fn:Func}{c:Code}{n:Nat}(hf:P.funcs[f]? = some fn)(hb:fn.body=some c)(hnt:fn.ntmps=n)(hent:∀args w,(callFunc f args).run P w = .ok (.enter f args) w){args:List V}{r:V}
  (h:∀lv E,Sat P c ⟨args++List.replicate (n-args.length) .any,⟨lv+1,[],E⟩,[],E⟩ (yn5 P fn lv E r)):zjt P f args r:=λH=>by
 intro W g cargs hG hA;subst hnt
 let R:Ending->World->Prop:=λe W'=>∃c' g',e = .returned c'∧Step W g H W' g' H∧Good W' g' H∧Rel W' g' H r c'
 refine .inl ⟨hent cargs W,callsIn_wide.1 (callsIn_of_wp_marks (F:=Fence.wide) (n:=0) hf hb trivial ?_ rfl)⟩;have hGb:=hG.at (Qbw W.heap.size);obtain⟨hGe,hge,hre⟩:=zsw hGb
 have hgs:zz9 W {tmps:=cargs++Array.replicate (fn.ntmps-cargs.size) undef,defers:=[]} (g.at W.heap.size) ⟨args++List.replicate (fn.ntmps-args.length) .any,⟨H.lv+1,[],H.get⟩,[],H.get⟩:=by
  refine⟨hGe,by simp[hA.1],λj v hj =>?_,rfl,by simp⟩;rw[Qbe]at hj;split at hj;rename_i hlt;rw[z0n (by rw[hA.1];exact hlt)];exact hre ((hA.2 j v hj).at _);rw[Qbo]at hj;split at hj;injection hj with hj;subst hj;exact .any _;cases hj
 refine wpIn_mono (h H.lv H.get W (g.at W.heap.size) ⟨H.lv+1,[],H.get⟩ W _ (g.at W.heap.size) ⟨hGe⟩ ⟨rfl,.refl _ _ _⟩ hgs none (.inl rfl) 0) λe a W' ⟨g1,σ,e',q1,q2,q3,q4⟩ =>?_
 have fin:∀(W':World) (a:Act) (σ:St),Step W (g.at W.heap.size) ⟨H.lv+1,[],H.get⟩ W' g1 σ.H->zz9 W' a g1 σ->∀v,z06 P fn σ=some v->σ.H.E=H.get->VS σ.H (outer H.lv) v r ->
   ∃c,(results fn a.tmps).run P W' = .ok c W'∧∃c' g',Ending.returned c = .returned c'∧Step W g H W' g' H∧Good W' g' H∧Rel W' g' H r c':=λW' a σ s3 g3 v h1 h3 h4=>by
  obtain⟨c,k1,k2⟩:=z9y g3 h1;obtain⟨g2,z1,z2,z3⟩:=y1m hGb s3.lv s3 g3.good (zxa h3 h4) k2;exact⟨c,k1,c,g2.at g.base,rfl,z1.at g.base,z2.at (Qbk hG.base z1.size),z3.at _⟩
 have key:(∃v,z06 P fn σ=some v∧(σ.d=[]∨σ.d=[(zfp,[])])∧σ.H.E=H.get∧VS σ.H (outer H.lv) v r)->LeavesInM Fence.wide 0 P fn a.tmps R a.defers .returning W':=λ⟨v,h1,h2,h3,h4⟩=>by
  rcases h2 with h2|h2
  have hd:a.defers=[]:=Qao (by rw[q3.dlen,h2];rfl);rw[hd];exact fin W' a σ q2.2 q3 v h1 h3 h4;have hl:=q3.dlen;rw[h2]at hl
  rcases q3.defs 0 zfp [] (by rw[h2];rfl)with ⟨h0,_⟩|⟨_,D,h5,h6,h7⟩
  exact absurd h0 (Nat.lt_irrefl _)
  obtain⟨d0,hd⟩:∃d0,a.defers=[d0]:=by
   match ha:a.defers,hl with
   |[x],_=>exact⟨x,rfl⟩
  rw[hd]at h5 ⊢;injection h5 with h5;subst h5;refine⟨by simp,.inl ⟨D,_,rfl,run_takeDeferred h6,?_⟩⟩;have hbs:W.heap.size<=D:=by rw[<-show g1.base=W.heap.size from q2.2.base];exact h7
  exact fin (W'.putObj D (.deferred none)) {a with defers:=[]} {σ with d:=[]} (q2.2.ygt hbs _) ⟨q3.good.put h6 rfl _,q3.size,λj v hj=>(q3.tmps j v hj).put h6 rfl _,rfl,λj f vs hj=>by simp at hj⟩ v (y1k.trans h1) h3 h4
 cases q1 with
 |normal=>exact key q4
 |ret=>exact key q4
 |exit id=>exact q4.elim
 |panic v c hr=>exact q4.elim
end
def PV.v:PV->V
 |.bool b=>.bool b
 |.int k n=>.int k n
 |.str s=>.str s
theorem PV.rel{W:World}{g:Gh}{H:Heap}:∀p:PV,Rel W g H p.v p.c
 |.bool b=>.bool b
 |.int k n=>.int k n
 |.str s=>.str s
theorem PV.of{W:World}{g:Gh}{H:Heap}:∀{p:PV}{c:Value},Rel W g H p.v c->c=p.c
 |.bool b,c,h=>by cases h;rfl
 |.int k n,c,h=>by cases h;rfl
 |.str s,c,h=>by cases h;rfl
section
variable {P : Program} {W : World} {g : Gh} {H : Heap}
theorem yna{H':Heap}{i:Nat}{es:List (PV×PV)}(hG:Good W g H)(hget:H.get H.lv i=some (.map (es.map λp=>(p.1.v,p.2.v))))(hno:¬Own g H' (g.blk H.lv i)){c:Value}(h:Rel W g H (.map H.lv i) c):Rel W g H' (.mapc es) c:=by
 obtain⟨en,clock,m1,m2,m3,m4,m5⟩:=hG.obj _ _ _ hget
 cases h with
 |map _ _ hd=>
  refine .mapc es _ en clock hno m1 ⟨by simpa using m2,m3,m4,λj p hj =>?_⟩;obtain⟨e,he,r1,r2⟩:=m5 j (p.1.v,p.2.v) (by rw[Qan,hj];rfl);exact⟨e,he,PV.of r1,PV.of r2⟩
theorem yeb(hG:Good W g H){t kt vt:Nat}{es:List (PV×PV)}{c:Value}(ht:P.underlying t=some (.map kt vt))(hx:Rel W g H (.mapc es) c):z5i P W g H (do pure (.value (<-Instr.range t c))) (.ptr H.lv H.L.length 0) (H.push (.mit es [])):=by
 cases hx with
 |mapc _ b en clock hb hw he=>
  obtain⟨h1,h2⟩:=zde hG (O:=.mapIter (some b) clock #[] clock) (o:=.mit es []) 0 (λW' g' H' hW hg hH hst=>by
   refine⟨en,clock,b,?_,?_,?_,he⟩;rw[hW,hg];simp only[Gh.add,and_self,if_true];exact z1h _ _;intro hn;have hlt:b<W.heap.size:=(Qbn.1 hw).1;exact(hst.own _ hn).elim hb (λq=>by omega);have hlt:b<W.heap.size:=(Qbn.1 hw).1
   rw[hst.block _ hlt hb];exact hw)
  refine⟨.pointer (some ⟨W.heap.size,0,none⟩),_,_,.inl ?_,h1,h2,?_⟩;simp[Instr.range,yz2 ht,getObj,Sem.run,hw,newObj];have:=Rel.ptr (W:=W.alloc (.mapIter (some b) clock #[] clock)) (g:=g.add H.lv H.L.length W.heap.size 0) (H:=H.push (.mit es [])) H.lv H.L.length 0 (.inr ⟨rfl,rfl⟩);simpa[Gh.add]using this
theorem zot{t len e0 sz:Nat}{ps:List (Nat×V)}{ws:List V}{cps:Array (Nat×Value)}(hG:Good W g H)(h:z90 P t len ps=some (.sl sz ws true))(hlen0:len≠0)(hu0:P.underlying t=some (.slice e0))(hl:cps.size=ps.length)
  (hr:∀(j i:Nat) (x:V),ps[j]? = some (i,x)->∃c,cps[j]? = some (i,c)∧Rel W g H x c):z5i P W g H (do pure (.value (<-Instr.buildSlice t len cps))) (.hs H.lv H.L.length 0 0 ws.length false) (H.push (.arr 0 e0 sz ws (some ws.length))):=by
 unfold z90 at h;split at h
 ·rename_i e hu;split at h
  ·rename_i z hz;split at h
   ·rename_i hc;simp only[Qag,Qbm,Qar,Qat]at hc;obtain⟨⟨⟨⟨⟨⟨⟨c1,c2⟩,c3⟩,c4⟩,c5⟩,c6⟩,c7⟩,c8⟩:=hc;injection h with h;obtain⟨inf,hi⟩:=Option.isSome_iff_exists.1 c4;have hsz:(sizeOf e).run P W = .ok (P.cellsOf e) W:=by simp[sizeOf,typeInfo,hi,Program.cellsOf]
    obtain⟨zc,hz1,hz2⟩:=zle (W:=W) (g:=g) (H:=H) hz;obtain⟨zs1,zs3,zs2⟩:=zc0 c1 hz2;have hbig:¬(len * P.cellsOf e>2 ^ 24):=by omega
    by_cases h0:len=0;exact(hlen0 h0).elim
    ·try rw[Qby h0]at h
     injection h with hsz' hws _;subst hsz';subst hws
     have he0:e0=e:=by rw[hu]at hu0;injection hu0 with hu0;injection hu0 with hu0;exact hu0.symm
     rw[he0]
     have hne:¬(len * P.cellsOf e=0):=by
      intro hm
      rcases Nat.mul_eq_zero.1 hm with q|q <;> omega
     let cells0:Array Value:=(Array.range (len * P.cellsOf e)).map (zc.cells[· % zc.cells.size]!)
     let zl:List V:=(List.range (len * P.cellsOf e)).map λi=>z.cells.getD (i % z.cells.length) .any
     have hrel0:zpq W g H zl cells0:=by
      have key:∀j v,zl[j]? = some v->∃k,z.cells[k]? = some v∧cells0.getD j undef=zc.cells.getD k undef:=λj v hj=>by
       have hjl:j<len * P.cellsOf e:=by
        have:=(Qaa.1 hj).1;simpa[zl]using this
       simp only[zl,Qan,List.getElem?_range hjl,Qbr,Qbu]at hj;have hm:j % z.cells.length<z.cells.length:=Nat.mod_lt _ (by omega)
       have hv:z.cells[j % z.cells.length]? = some v:=by
        rw[Qba,Qab hm]at hj;simp only[Option.getD_some]at hj;rw[Qab hm,hj]
       have hm2:j % zc.cells.size<zc.cells.size:=by rw[zs1];exact hm
       refine⟨_,hv,?_⟩;have hr:(Array.range (len * P.cellsOf e))[j]? = some j:=by simp[hjl]
       simp only[cells0,Qae,Array.getElem?_map,hr,Qbr,Option.getD_some];rw[getElem!_pos zc.cells (j % zc.cells.size) hm2]
       have hz':(zc.cells)[j % z.cells.length]? = some (zc.cells[j % zc.cells.size]):=by
        rw[<-zs1];exact Qas hm2
       rw[hz'];rfl
      refine⟨by simp[zl,cells0],λj v hj =>?_,λj v hj =>?_⟩
      all_goals
       obtain⟨k,hk1,hk2⟩:=key j v hj;rw[hk2]
       first|exact zs3 _ _ hk1|exact zs2 _ _ hk1
     have hfv:=zoq ps 0 zl c6 c7 (by simp[zl,c5]);simp only[Nat.zero_mul,List.take_zero,List.nil_append]at hfv;obtain⟨rs,e1,e2⟩:=zi9 ps cps.toList zl cells0 _ hfv hrel0 (by simpa using hl) (λj i x hj=>by simpa using hr j i x hj)
     have hxs:∀x∈ps.map (·.2),x.cells.length=P.cellsOf e:=λx hx=>by
      obtain⟨p,hp,rfl⟩:=Qbg.1 hx;exact(c7 p hp).2
     have hlen:(ps.map (·.2)).length=len:=by simp[c5]
     have hrs:rs.size=len * P.cellsOf e:=by
      rw[e2.1]
      have:∀l:List V,(∀x∈l,x.cells.length=P.cellsOf e)->(l.flatMap V.cells).length=l.length * P.cellsOf e:=by
       intro l
       induction l with
       |nil=>intro _;simp
       |cons x l ih=>
        intro hx;rw[List.flatMap_cons,Qap,ih λy hy=>hx y (by simp[hy]),hx x (by simp),List.length_cons,Nat.succ_mul,Nat.add_comm]
      rw[this _ hxs,hlen]
     have hcl:len<=2 ^ 24:=Qbk (Nat.le_mul_of_pos_right _ c3) c8
     obtain⟨g1,g2⟩:=zde hG (O:=.cells rs e) (o:=.arr 0 e (P.cellsOf e) (ps.map (·.2)) (some (ps.map (·.2)).length)) len (λW' g' H' hW hg hH hst=>by
      have hcap:g'.cap H.lv H.L.length=len:=by rw[hg];simp[Gh.add]
      refine⟨rs,?_,c3,by rw[hcap,hrs],by rw[hcap];exact Qbk hcl (by decide),by rw[hcap,hlen];exact Qbw _,λn hn=>by injection hn with hn;rw[hcap,<-hn,hlen],λj x hj=>hxs x (Qax hj),λj x t v hj ht=>e2.2.1 _ _ (zlp _ hxs j t x v hj ht),λj x t v hj ht=>(e2.2.2 _ _ (zlp _ hxs j t x v hj ht)).mono hst⟩;rw[hW,hg];simp only[Gh.add,and_self,if_true]
      exact z1h _ _)
     refine⟨.slice (some ⟨W.heap.size,0,none⟩) len len,_,_,.inl ?_,g1,g2,?_⟩;have e1':Instr.fill (λi=>some (i * P.cellsOf e,P.cellsOf e)) (Array.map (λx=>zc.cells[x % zc.cells.size]!) (Array.range (len * P.cellsOf e))) cps.toList=some rs:=e1;simp only[Instr.buildSlice,Qca,yz2 hu,Qcb,hsz,Sem.run_ite,hbig,hne,if_false,Sem.run_pure,hz1];simp[e1',newRow];rw[hlen]
     refine .hs _ _ _ _ _ _ _ _ _ (.inr ⟨rfl,rfl⟩) (λv ty sz xs cp hg=>Qbv _) λty sz xs cp hg =>?_
     have hgp:(H.push (.arr 0 e (P.cellsOf e) (ps.map (·.2)) (some len))).get H.lv H.L.length=some (.arr 0 e (P.cellsOf e) (ps.map (·.2)) (some len)):=by
      unfold Heap.get Heap.push;simp
     rw[hgp]at hg;injection hg with hg;injection hg with _ h2 h3 h4 h5;subst h4;refine⟨by simp[Gh.add],rfl,⟨Qbw _,by simp[Gh.add],λh=>by cases h⟩,by rw[hlen];omega⟩
   cases h
  cases h
 cases h
theorem ygg{es:List (PV×PV)}{en:Array MapEntry}{clock:Nat}(he:yf9 es en clock):(en.toList.map (·.born)).Nodup:=by
 rw[List.Nodup,List.pairwise_iff_getElem];intro q q' hq hq' hlt' heq;have hq2:q<en.size:=by simpa using hq
 have hq2':q'<en.size:=by simpa using hq'
 have:=he.2.2.1 q q' _ _ (Qas hq2) (Qas hq2') (by simpa using heq);omega
theorem ye4(hG:Good W g H){l i j:Nat}{es:List (PV×PV)}{vis:List Nat}{p:PV×PV}{c:Value}(hg:H.get l i=some (.mit es (vis++[j])))(hj:es[j]? = some p)(hx:Rel W g H (.ptr l i 0) c):z5i P W g H (do pure (.value (<-Instr.entry c))) (.tup [p.1.v,p.2.v]) H:=by
 cases hx with
 |ptr _ _ _ hd=>
  obtain⟨en,clock,mb,h1,h2,h3,h4⟩:=hG.obj _ _ _ hg;obtain⟨e,e1,e2,e3⟩:=h4.2.2.2 j p hj;have hbj:z6b en j=e.born:=by simp[z6b,e1]
  have h1':W.heap[g.blk l i]? = some (.mapIter (some mb) clock ((vis.map (z6b en)).toArray.push e.born) clock):=by
   have:(List.map (z6b en) (vis++[j])).toArray=(vis.map (z6b en)).toArray.push e.born:=by simp[hbj]
   rw[<-this];exact h1
  have hent:=run_entry_at (P:=P) W (g.blk l i) mb clock (vis.map (z6b en)).toArray en clock e h1' h3 (by simpa using Array.mem_of_getElem? e1) (ygg h4);refine⟨.tuple #[e.key,e.val],W,g,.inl (by simp[hent]),.refl _ _ _,hG,.tup _ _ rfl λq v hq =>?_⟩
  match q with
  |0=>simp at hq;subst hq;simp only[e2];exact PV.rel _
  |1=>simp at hq;subst hq;simp only[e3];exact PV.rel _
  |q+2=>simp at hq
end
section
variable {P : Program}
theorem ykc{ops:Array Oper}{k:Nat}{σ:St}{Q:zz8->St->Prop}{o:Oper}{x:Operand}{l i:Nat}{es:List (PV×PV)}{vis:List Nat}(ho:ops[k]? = some o)(hw:zzt ops σ o=some true)(hop:o.op = .next x false)(hx:σ.ev x = .ptr l i 0)(hg:σ.H.get l i=some (.mit es vis))
  (hvis:∀q∈vis,q<es.length)
  (hend:(∀j,j<es.length->j∈vis)->zai P ops (k+1) (σ.put o.dst (.tup [.bool false])) Q)
  (hone:∀j p,es[j]? = some p->j∉vis->zai P ops (k+1) ({σ with H:=σ.H.set l i (.mit es (vis++[j]))}.put o.dst (.tup [.bool true,p.1.v,p.2.v])) Q):zai P ops k σ Q:=λW0 g0 H0 W a g hB hS hG=>by
 have hk:k<ops.size:=by
  rcases Nat.lt_or_ge k ops.size with q|q
  exact q;rw[Array.getElem?_eq_none q]at ho;cases ho
 rw[show ops.size-k=(ops.size-(k+1))+1 by omega,List.range'_succ];simp only[wpOps,ho];rw[kzx hG hw,Qbx rfl];left;unfold Oper.wp;have hr:=hG.ev x;rw[hx]at hr;generalize hit:a.eval x=cx at hr
 cases hr with
 |ptr _ _ _ hd=>
  obtain⟨en,clock,mb,h1,h2,h3,h4⟩:=hG.good.obj _ _ _ hg;obtain⟨m2,m3,m4,m5⟩:=h4;replace h1:W.heap[g.blk l i]? = some (.mapIter (some mb) clock (vis.map (z6b en)).toArray clock):=h1;have hlt:g.blk l i<W.heap.size:=hG.good.lt _ _ _ hg;have hhold:∀y∈en.toList,y.born<clock:=λy hy=>m3 y (by simpa using hy)
  have hborn:∀j,j<es.length->∃e,en[j]? = some e∧z6b en j=e.born:=λj hj=>by
   have hj':j<en.size:=by rw[m2];exact hj
   exact⟨en[j],Qas hj',by simp[z6b,hj']⟩
  have hinj:∀j j',j<es.length->j'<es.length->z6b en j=z6b en j'->j=j':=λj j' hj hj' he=>by
   obtain⟨e,e1,e2⟩:=hborn j hj;obtain⟨e',e3,e4⟩:=hborn j' hj';exact m4 j j' e e' e1 e3 (by rw[<-e2,<-e4,he])
  rcases run_next_at (P:=P) W o.type (g.blk l i) mb clock clock _ en clock h1 h3 hhold (Qbw _)with ⟨hz,hrr⟩|⟨e,he,w1,hw1,hrr⟩
  ·have hall:∀j,j<es.length->j∈vis:=λj hj=>by
    obtain⟨e,e1,e2⟩:=hborn j hj
    have hno:¬e∈leftOf en (vis.map (z6b en)).toArray:=λhm=>by
     have:=Array.size_pos_of_mem hm;omega
    have hmem:e∈en:=Array.mem_of_getElem? e1
    have:(vis.map (z6b en)).contains e.born=true:=by
     cases hc:(vis.map (z6b en)).contains e.born;exact(hno (by unfold leftOf;rw[Array.mem_filter];exact⟨hmem,by simpa using hc⟩)).elim;rfl
    rw[List.contains_iff_mem,Qbg]at this;obtain⟨q,hq,hqb⟩:=this;rw[<-e2]at hqb;rw[<-hinj q j (hvis q hq) hj hqb];exact hq
   have hex:(execOp a.eval o).run P W = .ok (.value (.tuple #[.bool false])) W:=by unfold execOp;rw[hop];simp[hit,hrr]
   have hn:=hG.next (.refl _ _ _) hG.good (v:=.tup [.bool false]) (c:=.tuple #[.bool false]) (.tup _ _ rfl (λj v hj=>by
    cases j with
    |zero=>simp at hj;subst hj;exact .bool _
    |succ j=>simp at hj)) o.dst
   have hH:(σ.put o.dst (.tup [.bool false])).H=σ.H:=by cases o.dst <;> rfl
   have he0:(σ.put o.dst (.tup [.bool false])).e0=σ.e0:=by cases o.dst <;> rfl
   rw[hex];exact hend hall W0 g0 H0 W _ g hB (by rw[hH,he0];exact hS) hn
  ·have he2:e∈en∧(vis.map (z6b en)).contains e.born=false:=by
    have he':e∈leftOf en (vis.map (z6b en)).toArray:=by simpa using he
    unfold leftOf at he';rw[Array.mem_filter]at he';exact⟨he'.1,by simpa using he'.2⟩
   obtain⟨j,hjl,hje⟩:=Array.getElem_of_mem he2.1;have hj:j<es.length:=by rw[<-m2];exact hjl
   have hjs:en[j]? = some e:=by rw[Qas hjl,hje]
   have hbj:z6b en j=e.born:=by simp[z6b,hjs]
   have hnv:j∉vis:=λhm=>by
    have:e.born∈vis.map (z6b en):=Qbg.2 ⟨j,hm,hbj⟩;rw[<-List.contains_iff_mem,he2.2]at this;cases this
   have hp:es[j]? = some es[j]:=Qab hj;obtain⟨e',he',r1,r2⟩:=m5 j _ hp
   obtain rfl:e'=e:=by rw[hjs]at he';injection he' with h;exact h.symm
   have hw1h:w1.heap=W.heap:=by rcases hw1 with rfl|rfl <;> rfl
   have hheap:∀q,q≠g.blk l i->∀O,(Go.ChangeMaps.setBlock w1 (g.blk l i) O).heap[q]? = W.heap[q]? := λq hq O=>by
    show(w1.heap.setIfInBounds (g.blk l i) O)[q]? = _;rw[Array.getElem?_setIfInBounds_ne (λh=>hq h.symm),hw1h]
   have hat:∀O,(Go.ChangeMaps.setBlock w1 (g.blk l i) O).heap[g.blk l i]? = some O:=λO=>by
    show(w1.heap.setIfInBounds (g.blk l i) O)[g.blk l i]? = _;rw[Array.getElem?_setIfInBounds_self_of_lt (by rw[hw1h];exact hlt)]
   have hne:mb≠g.blk l i:=λe=>by rw[e,h1]at h3;cases h3
   obtain⟨s1,s2⟩:=zas hG.good (o':=.mit es (vis++[j])) hg rfl (W':=Go.ChangeMaps.setBlock w1 (g.blk l i) (.mapIter (some mb) clock ((vis.map (z6b en)).toArray.push e'.born) clock))
    (by rcases hw1 with rfl|rfl <;> rfl) (by rcases hw1 with rfl|rfl <;> rfl) (by rcases hw1 with rfl|rfl <;> rfl)
    (by show W.heap.size<=(w1.heap.setIfInBounds _ _).size;rw[Array.size_setIfInBounds,hw1h];exact Qbw _)
    (λb hb hbn=>hheap b hbn _) (λver ty sz xs cp he=>by cases he) (λhst=>by
      refine⟨en,clock,mb,?_,λhn=>(hst.own _ hn).elim h2 (λq =>?_),?_,⟨m2,m3,m4,m5⟩⟩;rw[hat];have:(List.map (z6b en) (vis++[j])).toArray=(vis.map (z6b en)).toArray.push e'.born:=by simp[hbj]
      rw[<-this];have:=(Qbn.1 h3).1;omega
      rw[hheap _ hne];exact h3)
   have hex:(execOp a.eval o).run P W = .ok (.value (.tuple #[.bool true,e'.key,e'.val])) (Go.ChangeMaps.setBlock w1 (g.blk l i) (.mapIter (some mb) clock ((vis.map (z6b en)).toArray.push e'.born) clock)):=by
    unfold execOp;rw[hop];simp[hit,hrr]
   have hn:=hG.next s1 s2 (v:=.tup [.bool true,es[j].1.v,es[j].2.v]) (c:=.tuple #[.bool true,e'.key,e'.val]) (.tup _ _ rfl (λq v hq=>by
    match q with
    |0=>simp at hq;subst hq;exact .bool _
    |1=>simp at hq;subst hq;simp only[r1];exact PV.rel _
    |2=>simp at hq;subst hq;simp only[r2];exact PV.rel _
    |q+3=>simp at hq)) o.dst
   have hH:({σ with H:=σ.H.set l i (.mit es (vis++[j]))}.put o.dst (.tup [.bool true,es[j].1.v,es[j].2.v])).H=σ.H.set l i (.mit es (vis++[j])):=by cases o.dst <;> rfl
   have he0:({σ with H:=σ.H.set l i (.mit es (vis++[j]))}.put o.dst (.tup [.bool true,es[j].1.v,es[j].2.v])).e0=σ.e0:=by cases o.dst <;> rfl
   rw[hex];exact hone j es[j] hp hnv W0 g0 H0 _ _ g hB (by rw[hH,he0];exact⟨hS.1,hS.2.trans s1⟩) hn
end
section
variable {P : Program}
theorem ykk{σ:St}{i:Nat}{es:List (PV×PV)}(hi:σ.H.L[i]? = some (some (.map (es.map λp=>(p.1.v,p.2.v)))))(hd:σ.d=[]){os os':List (Nat×zz4)}(h5:(os.map (·.1)).Nodup)(hos:FOL (.map σ.H.lv i) (.mapc es) os os')(h4:∀p∈os,σ.H.L[p.1]? = some (some p.2)∧p.1≠i)
  {t':List V} (ht:FVL (.map σ.H.lv i) (.mapc es) σ.t t') :
  zhe σ ⟨t',⟨σ.H.lv,told σ.H.L (some i) os',σ.H.E⟩,[],σ.e0⟩∧(∀p'∈os',(told σ.H.L (some i) os')[p'.1]? = some (some p'.2))∧∀n,n<σ.H.L.length->n≠i->(∀p∈os,p.1≠n)->(told σ.H.L (some i) os')[n]? = σ.H.L[n]? := by
 have hnd:(os'.map (·.1)).Nodup:=by rw[hos.map];exact h5
 have hfind:∀p'∈os',os'.find? (λp=>p.1==p'.1)=some p':=λp' hp'=>by
  cases hq:os'.find? (λp=>p.1==p'.1)with
  |none=>rw[List.find?_eq_none]at hq;have:=hq p' hp';simp at this
  |some q=>
   have hq1:=List.find?_some hq;have hq2:=List.mem_of_find?_eq_some hq;simp at hq1;obtain⟨a,ha⟩:=List.mem_iff_getElem?.1 hp';obtain⟨b,hb⟩:=List.mem_iff_getElem?.1 hq2;have ha':(os'.map (·.1))[a]? = some p'.1:=by simp[ha]
   have hb':(os'.map (·.1))[b]? = some p'.1:=by simp[hb,hq1]
   have hlt:=(Qaa.1 ha').1;have:=(List.getElem?_inj hlt hnd).1 (ha'.trans hb'.symm);subst this;rw[ha]at hb;exact hb.symm
 have hfor:∀p'∈os',∃o,σ.H.L[p'.1]? = some (some o)∧p'.1≠i∧FO (.map σ.H.lv i) (.mapc es) o p'.2:=λp' hp'=>by
  obtain⟨o,ho,hf⟩:=hos.mem p' hp';exact⟨o,(h4 _ ho).1,(h4 _ ho).2,hf⟩
 refine⟨?_,λp' hp' =>?_,λn hn hni hno =>?_⟩;refine y46 (v:=.map σ.H.lv i) (r:=.mapc es) (zft _ _ _) (λm o' hm =>?_) ht hd λW g hG hown hf c hc =>?_
 have hlt:m<σ.H.L.length:=by have:=(Qaa.1 hm).1;rw[zft]at this;exact this
 rw[zcu hlt]at hm;injection hm with hm;split at hm;cases hm;split at hm;rename_i p hp;injection hm with hm;have hp1:=List.find?_some hp;simp at hp1;obtain⟨o,h1,_,h3⟩:=hfor p (List.mem_of_find?_eq_some hp);exact⟨o,by rw[<-hp1];exact h1,by rw[<-hm];exact h3⟩;refine⟨o',?_,.inl rfl⟩;rw[Qab hlt]at hm ⊢;simp at hm;rw[hm]
 have hget:σ.H.get σ.H.lv i=some (.map (es.map λp=>(p.1.v,p.2.v))):=by unfold Heap.get;rw[Qbx rfl,hi];rfl
 refine yna hG hget (λ⟨l,i',o',ho',hob⟩ =>?_) hc
 have hgot:∃o,σ.H.get l i'=some o∧o'.blk g l i'=o.blk g l i'∧¬(l=σ.H.lv∧i'=i):=by
  unfold Heap.get at ho' ⊢;dsimp only at ho' ⊢;by_cases hl:l=σ.H.lv;rw[Qbx hl]at ho' ⊢
  cases hq:(told σ.H.L (some i) os')[i']? with
  |none=>rw[hq]at ho';simp at ho'
  |some q=>
   have hlt:i'<σ.H.L.length:=by have:=(Qaa.1 hq).1;rw[zft]at this;exact this
   rw[zcu hlt]at hq;injection hq with hq;rw[zcu hlt]at ho';simp only[Option.join_some]at ho';split at ho';cases ho';rename_i hne;split at ho';rename_i p hp;injection ho' with ho';have hp1:=List.find?_some hp;simp at hp1;obtain⟨o,h1,_,h3⟩:=hfor p (List.mem_of_find?_eq_some hp);rw[hp1]at h1;exact⟨o,by rw[h1];rfl,by rw[<-ho'];exact h3.blk g l i',λe=>hne (by rw[e.2])⟩;exact⟨o',ho',rfl,λe=>hne (by rw[e.2])⟩
  rw[Qby hl]at ho' ⊢;exact⟨o',ho',rfl,λe=>hl e.1⟩
 obtain⟨o,w1,w2,w3⟩:=hgot;exact w3 (hG.inj _ _ _ _ _ _ w1 hget (by rw[<-w2];exact hob));obtain⟨o,h1,h2,_⟩:=hfor p' hp';have hlt:=(Qaa.1 h1).1;rw[zcu hlt,Qby (λe=>h2 (by injection e with e;exact e.symm)),hfind p' hp'];rw[zcu hn,Qby (λe=>hni (by injection e with e;exact e.symm))]
 have:os'.find? (λp=>p.1==n)=none:=by
  rw[List.find?_eq_none];intro p hp;have:p.1∈os.map (·.1):=by rw[<-hos.map];exact List.mem_map_of_mem hp
  obtain⟨q,hq,hqn⟩:=Qbg.1 this;have:=hno q hq;simp;omega
 rw[this,Qab hn];rfl
end
section
variable {P : Program} {ops : Array Oper} {md : Region.Mode}
abbrev Key:=Nat×Option Nat
def cellAt(o:Option (Option zz4))(c:Nat):Option V:=match o with
 |some (some (.cells cs))=>cs[c]?
 |_=>none
def obs(H:Heap)(x:Key):Option (Option zz4)×Option V:=match x.2 with
 |none=>(H.L[x.1]?,none)
 |some c=>(none,cellAt H.L[x.1]? c)
theorem ygy{H H':Heap}{x:Key}(h:H'.L[x.1]? = H.L[x.1]?):obs H' x=obs H x:=by unfold obs;rw[h]
structure Info where
 eff:Bool
 K:Key->Prop
 W:Key->Prop
 call:Bool:=false
def zrf(K:Key->Prop)(H H':Heap):Prop:=∀i,K i->obs H' i=obs H i
theorem zrf.refl(K:Key->Prop)(H:Heap):zrf K H H:=λ_ _=>rfl
theorem zrf.trans{K:Key->Prop}{A B C:Heap}(h:zrf K A B)(k:zrf K B C):zrf K A C:=λi hi=>(k i hi).trans (h i hi)
theorem zrf.symm{K:Key->Prop}{A B:Heap}(h:zrf K A B):zrf K B A:=λi hi=>(h i hi).symm
def yip(op:Op):Bool:=match op with
 |.alloc _| .box _ _| .store _ _ _=>true
 |.call c=>(match c.callee with
  |.builtin .append=>true
  |.builtin .unsafeString=>true
  |_=>false)
 |_=>false
theorem zxg{H:Heap}{ρ ρ':Operand->V}{o:Op}(h:∀x∈o.operands,ρ x=ρ' x):zlv P H ρ o=zlv P H ρ' o:=by
 cases o
 case makeSlice t n c=>simp only[zlv,h n (by simp[Op.operands]),h c (by simp[Op.operands])]
 case convert s d x=>simp only[zlv,h x (by simp[Op.operands])]
 case binOp op t x y _=>simp only[zlv,h x (by simp[Op.operands]),h y (by simp[Op.operands])]
 case call c=>
  simp only[zlv];split;split;rename_i x ha;rw[h x (by simp[Op.operands,Call.operands];right;rw[<-Array.mem_toList_iff,ha];simp)];rfl;split;rename_i p n pt it ha ht;rw[h p (by simp[Op.operands,Call.operands];right;rw[<-Array.mem_toList_iff,ha];simp),h n (by simp[Op.operands,Call.operands];right;rw[<-Array.mem_toList_iff,ha];simp)];rfl;rfl
 all_goals rfl
def QP(P:Program)(H:Heap)(ρ:Operand->V)(o:Oper)(v:V):Prop:=pv P H ρ o.op=some v∨(∃c f args,o.op = .call c∧target ρ c=some (f,args)∧zsi P f args H v H)∨zlv P H ρ o.op=some (v,H)∨(∃t n c,o.op = .makeSlice t n c∧zf8 P t (ρ n) (ρ c)=some v)∨∃c s x t u,o.op = .call c∧c.callee = .builtin .append∧c.args.toList=[s,x]∧c.argTypes.toList=[t,u]∧zp1 P t u (ρ s) (ρ x)=some v
theorem zi2{H:Heap}{ρ ρ':Operand->V}{o:Oper}{v:V}(h:∀x∈o.op.operands,ρ x=ρ' x)(hq:QP P H ρ o v):QP P H ρ' o v:=by
 rcases hq with hq|⟨c,f,args,h1,h2,h3⟩|hq|⟨t,n,c,h1,h2⟩|⟨c,s,x,t,u,h1,h2,h3,h4,h5⟩
 exact .inl (by rw[<-ydz h];exact hq);exact .inr (.inl ⟨c,f,args,h1,by rw[<-zgy (ρ:=ρ) (λx hx=>h x (by rw[h1];exact hx))];exact h2,h3⟩);exact .inr (.inr (.inl (by rw[<-zxg h];exact hq)));exact .inr (.inr (.inr (.inl ⟨t,n,c,h1,by rw[<-h n (by rw[h1];simp[Op.operands]),<-h c (by rw[h1];simp[Op.operands])];exact h2⟩)))
 exact .inr (.inr (.inr (.inr ⟨c,s,x,t,u,h1,h2,h3,h4,by
  rw[<-h s (by rw[h1];simp[Op.operands,Call.operands];right;rw[<-Array.mem_toList_iff,h3];simp),<-h x (by rw[h1];simp[Op.operands,Call.operands];right;rw[<-Array.mem_toList_iff,h3];simp)];exact h5⟩)))
def zlc(P:Program)(H:Heap)(ρ:Operand->V)(op:Op)(v:V)(H':Heap):Prop:=∃t len ps e sz ws,op = .buildSlice t len ps∧z90 P t len (partsOf ρ ps)=some (.sl sz ws true)∧len≠0∧P.underlying t=some (.slice e)∧v = .hs H.lv H.L.length 0 0 ws.length false∧H'=H.push (.arr 0 e sz ws (some ws.length))
theorem zlc.sound{W:World}{g:Gh}{H H':Heap}{ρ:Operand->V}{r:Operand->Value}{o:Oper}{v:V}(hG:Good W g H)(hρ:∀x,Rel W g H (ρ x) (r x))(h:zlc P H ρ o.op v H'):z5i P W g H (execOp r o) v H':=by
 obtain⟨t,len,ps,e,sz,ws,hop,b1,hlen,hu,rfl,rfl⟩:=h;unfold execOp;rw[hop];obtain⟨r1,r2⟩:=zho hρ ps;exact zot hG b1 hlen hu r1 r2
theorem zlc.congr{H H':Heap}{ρ ρ':Operand->V}{o:Op}{v:V}(h:∀x∈o.operands,ρ x=ρ' x)(hx:zlc P H ρ o v H'):zlc P H ρ' o v H':=by
 obtain⟨t,len,ps,e,sz,ws,rfl,b1,b2⟩:=hx;refine⟨t,len,ps,e,sz,ws,rfl,?_,b2⟩;rw[<-b1]
 congr 1
 unfold partsOf;refine List.map_congr_left λp hp =>?_
 rw[h p.2 (List.mem_toArray.2 (Qbg.2 ⟨p,hp,rfl⟩))]
def Eff2(P:Program)(H:Heap)(ρ:Operand->V)(op:Op)(v:V)(H':Heap):Prop:=(yip op=true∧ox P H ρ op=some (v,H'))∨zlv P H ρ op=some (v,H')∨zlc P H ρ op v H'
theorem yo7{H:Heap}{ρ ρ':Operand->V}{o:Op}(he:yip o=true)(h:∀x∈o.operands,ρ x=ρ' x):ox P H ρ o=ox P H ρ' o:=by
 cases o
 case alloc t=>rfl
 case box t x=>simp only[ox,h x (by simp[Op.operands])]
 case store t a x=>simp only[ox,h x (by simp[Op.operands]),h a (by simp[Op.operands])]
 case call c=>
  simp only[yip]at he;split at he;rename_i hc;simp only[ox,hc];split;rename_i s x t u ha ht;rw[h s (by simp[Op.operands,Call.operands];right;rw[<-Array.mem_toList_iff,ha];simp),h x (by simp[Op.operands,Call.operands];right;rw[<-Array.mem_toList_iff,ha];simp)];rfl;rename_i hc;simp only[ox,hc,pv,z8i];cases he
 all_goals cases he
theorem zn3{H H':Heap}{ρ ρ':Operand->V}{o:Op}{v:V}(h:∀x∈o.operands,ρ x=ρ' x)(hx:Eff2 P H ρ o v H'):Eff2 P H ρ' o v H' :=
 hx.imp (λq=>⟨q.1,by rw[<-yo7 q.1 h];exact q.2⟩) λq=>q.imp (λq=>by rw[<-zxg h];exact q) λq=>q.congr h
def MV(P:Program)(ops:Array Oper)(S:Heap->Prop)(c:Info)(σ:St)(o:Oper)(v:V)(H':Heap):Prop :=
 (zzt ops σ o=some false∧v = .tup []∧H'=σ.H) ∨
 (zzt ops σ o=some true∧S σ.H ∧
  ((c.eff=false∧H'=σ.H∧∀H'',S H''->zrf c.K σ.H H''->QP P H'' σ.ev o v) ∨
   (c.eff=true∧True∧Eff2 P σ.H σ.ev o.op v H'∧S H'∧∀i,¬c.W i->obs H' i=obs σ.H i)))
def z50(σ:St)(o:Oper)(v:V)(H':Heap):St:=({σ with H:=H'}:St).put o.dst v
theorem zuv{σ:St}{o:Oper}{v:V}{H':Heap}{x:Operand}(h:∀d,o.dst=some d->x ≠ .tmp d):(z50 σ o v H').ev x=σ.ev x :=
 (ynv (σ:={σ with H:=H'}) h).trans (by cases x <;> rfl)
theorem zqv{σ:St}{o:Oper}{v:V}{H':Heap}:(z50 σ o v H').H=H':=ylm
theorem zh6{σ:St}{o oj:Oper}{v:V}{H':Heap}(h:∀d,o.dst=some d->d∉oj.looksAt ops):zzt ops (z50 σ o v H') oj=zzt ops σ oj :=
 (zy9 (σ:={σ with H:=H'}) h).trans rfl
theorem y3e{σ:St}{oi oj:Oper}{v u:V}{A B C:Heap}(h:∀d,oi.dst=some d->oj.dst≠some d):z50 (z50 σ oi v A) oj u C=z50 (z50 σ oj u B) oi v C:=by
 have e1:∀(o:Oper) (w:V) (H:Heap),({z50 σ o w H with H:=C}:St)=({σ with H:=C}:St).put o.dst w:=λo w H=>by unfold z50;cases o.dst <;> rfl
 unfold z50 at e1 ⊢;rw[e1,e1];exact put_comm v u h
theorem yq1{S:Heap->Prop}{ci cj:Info}{oi oj:Oper}(hap:oi.apart ops oj=true)(hee:¬(ci.eff=true∧cj.eff=true))(hij:ci.eff=false->cj.eff=true->∀x,ci.K x->¬cj.W x)(hji:cj.eff=false->ci.eff=true->∀x,cj.K x->¬ci.W x)
  {σ:St} {v u:V}{H1 H2:Heap}(h1:MV P ops S ci σ oi v H1) (h2:MV P ops S cj (z50 σ oi v H1) oj u H2) :
  ∃H1',MV P ops S cj σ oj u H1'∧MV P ops S ci (z50 σ oj u H1') oi v H2:=by
 obtain⟨a1,a2,a3⟩:=Oper.apart_spec hap;have evj:∀{w:V}{H:Heap},∀x∈oj.op.operands,(z50 σ oi w H).ev x=σ.ev x:=λ{w H} x hx=>zuv λd hd=>zb2 (a1 d hd) x hx
 have evi:∀{w:V}{H:Heap},∀x∈oi.op.operands,(z50 σ oj w H).ev x=σ.ev x:=λ{w H} x hx=>zuv λd hd=>zb2 (a3 d hd) x hx
 have wj:∀{w:V}{H:Heap},zzt ops (z50 σ oi w H) oj=zzt ops σ oj:=zh6 a1;have wi:∀{w:V}{H:Heap},zzt ops (z50 σ oj w H) oi=zzt ops σ oi:=zh6 a3;unfold MV at h1 h2 ⊢;rw[wj,zqv]at h2;simp only[wi,zqv]
 rcases h1 with ⟨b1,rfl,rfl⟩|⟨b1,bs,⟨b2,rfl,b3⟩|⟨b2,b3,b4,b5,b6⟩⟩
 rcases h2 with ⟨d1,rfl,rfl⟩|⟨d1,ds,⟨d2,rfl,d3⟩|⟨d2,d3,d4,d5,d6⟩⟩
 exact⟨σ.H,.inl ⟨d1,rfl,rfl⟩,.inl ⟨b1,rfl,rfl⟩⟩;exact⟨σ.H,.inr ⟨d1,ds,.inl ⟨d2,rfl,λH'' k1 k2=>zi2 evj (d3 H'' k1 k2)⟩⟩,.inl ⟨b1,rfl,rfl⟩⟩;exact⟨H2,.inr ⟨d1,ds,.inr ⟨d2,d3,zn3 evj d4,d5,d6⟩⟩,.inl ⟨b1,rfl,rfl⟩⟩
 rcases h2 with ⟨d1,rfl,rfl⟩|⟨d1,ds,⟨d2,rfl,d3⟩|⟨d2,d3,d4,d5,d6⟩⟩
 exact⟨σ.H,.inl ⟨d1,rfl,rfl⟩,.inr ⟨b1,bs,.inl ⟨b2,rfl,λH'' k1 k2=>zi2 (λx hx=>(evi x hx).symm) (b3 H'' k1 k2)⟩⟩⟩;exact⟨σ.H,.inr ⟨d1,ds,.inl ⟨d2,rfl,λH'' k1 k2=>zi2 evj (d3 H'' k1 k2)⟩⟩,.inr ⟨b1,bs,.inl ⟨b2,rfl,λH'' k1 k2=>zi2 (λx hx=>(evi x hx).symm) (b3 H'' k1 k2)⟩⟩⟩
 refine⟨H2,.inr ⟨d1,ds,.inr ⟨d2,d3,zn3 evj d4,d5,d6⟩⟩,.inr ⟨b1,d5,.inl ⟨b2,rfl,λH'' k1 k2=>zi2 (λx hx=>(evi x hx).symm) (b3 H'' k1 (zrf.trans (λx hx=>d6 x (hij b2 d2 x hx)) k2))⟩⟩⟩
 rcases h2 with ⟨d1,rfl,rfl⟩|⟨d1,ds,⟨d2,rfl,d3⟩|⟨d2,d3,d4,d5,d6⟩⟩
 exact⟨σ.H,.inl ⟨d1,rfl,rfl⟩,.inr ⟨b1,bs,.inr ⟨b2,b3,zn3 (λx hx=>(evi x hx).symm) b4,b5,b6⟩⟩⟩;have hs:zrf cj.K σ.H H2:=λx hx=>b6 x (hji d2 b2 x hx)
 exact⟨σ.H,.inr ⟨d1,bs,.inl ⟨d2,rfl,λH'' k1 k2=>zi2 evj (d3 H'' k1 (hs.symm.trans k2))⟩⟩,.inr ⟨b1,bs,.inr ⟨b2,b3,zn3 (λx hx=>(evi x hx).symm) b4,b5,b6⟩⟩⟩;exact(hee ⟨b2,d2⟩).elim
def MC(P:Program)(ops:Array Oper)(S:Heap->Prop)(c:Info)(σ:St)(o:Oper)(K:V->Heap->Prop)(Kp:V->St->Prop):Prop :=
 c.eff=true∧c.call=true∧zzt ops σ o=some true∧∃cl f args Post,o.op = .call cl∧target σ.ev cl=some (f,args)∧zni P f args σ.H Post ∧
  (∀v H',Post (.ret v) H'->S H'∧(∀i,¬c.W i->obs H' i=obs σ.H i)∧K v H')∧∀v H',Post (.pan v) H'->Kp v {σ with H:=H'}
theorem MC.imp{S:Heap->Prop}{c:Info}{σ:St}{o:Oper}{K K':V->Heap->Prop}{Kp:V->St->Prop}(h:MC P ops S c σ o K Kp)(hk:∀v H',S H'->(∀i,¬c.W i->obs H' i=obs σ.H i)->K v H'->K' v H'):MC P ops S c σ o K' Kp:=by
 obtain⟨h1,h2,h3,cl,f,args,Post,h4,h5,h6,h7,h8⟩:=h;exact⟨h1,h2,h3,cl,f,args,Post,h4,h5,h6,λv H' hp=>by obtain⟨a,b,c⟩:=h7 v H' hp;exact⟨a,b,hk v H' a b c⟩,h8⟩
inductive Dep (md:Region.Mode) (ops:Array Oper) (a:Nat):Nat->Prop where
 |one (b:Nat) (o:Oper) (e:Edge) (ho:ops[b]? = some o) (he:e∈o.after) (hb:Region.binds md e=true) (hon:e.on=a):Dep md ops a b
 |more (b:Nat) (o:Oper) (e:Edge) (ho:ops[b]? = some o) (he:e∈o.after) (hb:Region.binds md e=true) (h:Dep md ops a e.on):Dep md ops a b
def Free(md:Region.Mode)(ops:Array Oper)(i j:Nat):Prop:=¬Dep md ops i j∧¬Dep md ops j i
def Down(md:Region.Mode)(ops:Array Oper)(listed:Array Bool):Prop:=∀b o,ops[b]? = some o->listed.getD b false=true->∀e∈o.after,Region.binds md e=true->listed.getD e.on false=true
theorem Down.dep{listed:Array Bool}(h:Down md ops listed){a b:Nat}(hd:Dep md ops a b):listed.getD b false=true->listed.getD a false=true:=by
 induction hd with
 |one b o e ho he hb hon=>intro hl;subst hon;exact h b o ho hl e he hb
 |more b o e ho he hb _ ih=>intro hl;exact ih (h b o ho hl e he hb)
theorem Down.ready{listed:Array Bool}(h:Down md ops listed){a b:Nat}(hb:b∈Region.ready md ops listed)(hd:Dep md ops a b):listed.getD a false=true:=by
 obtain⟨_,o',ho',hall⟩:=mem_ready.1 hb
 cases hd with
 |one _ o e ho he hb hon=>rw[ho']at ho;injection ho with ho;subst ho;subst hon;exact hall e he hb
 |more _ o e ho he hb hd=>rw[ho']at ho;injection ho with ho;subst ho;exact h.dep hd (hall e he hb)
theorem Down.set{listed:Array Bool}(h:Down md ops listed){k:Nat}(hk:k∈Region.ready md ops listed):Down md ops (listed.setIfInBounds k true):=λb o ho hl e he hb=>by
 obtain⟨_,o',ho',hall⟩:=mem_ready.1 hk
 have up:∀j,listed.getD j false=true->(listed.setIfInBounds k true).getD j false=true:=λj hj=>by
  by_cases hjk:k=j;subst hjk
  rcases Nat.lt_or_ge k listed.size with q|q
  simp[Qae,q];simp[Qae,Array.getElem?_eq_none q]at hj;rw[getD_set_ne false hjk];exact hj
 refine up _ ?_;by_cases hbk:k=b;subst hbk
 rw[ho']at ho;injection ho with ho;subst ho
 exact hall e he hb;rw[getD_set_ne false hbk]at hl;exact h b o ho hl e he hb
def ymn(md:Region.Mode)(ops:Array Oper)(i j:Nat)(ci cj:Info):Prop:=Free md ops i j->(¬(ci.eff=true∧cj.eff=true))∧(ci.eff=false->cj.eff=true->∀x,ci.K x->¬cj.W x)∧(cj.eff=false->ci.eff=true->∀x,cj.K x->¬ci.W x)
def GP(md:Region.Mode)(ops:Array Oper)(prev:List (Nat×Info))(j:Nat)(c:Info):Prop:=∀p∈prev,ymn md ops p.1 j p.2 c
section
variable (P ops) (md) (S : Heap → Prop) (G : Nat → Info → Prop) (Kp : V → St → Prop)
def GoA(i:Nat)(K:St->Prop)(σ:St):Prop :=
 match ops[i]? with
 |none=>K σ
 |some o=>∃c,G i c∧((∃v H',c.call=false∧MV P ops S c σ o v H'∧K (z50 σ o v H'))∨MC P ops S c σ o (λv H'=>K (z50 σ o v H')) Kp)
def AM(R:St->Prop):Nat->Array Bool->St->Prop
 |0,listed,σ=>Region.ready md ops listed=[]∧R σ
 |fuel+1,listed,σ=>(Region.ready md ops listed=[]->R σ)∧∀i∈Region.ready md ops listed,GoA P ops S G Kp i (AM R fuel (listed.setIfInBounds i true)) σ
end
variable {S : Heap → Prop} {G G' : Nat → Info → Prop} {Kp : V → St → Prop}
theorem MV.goA{i:Nat}{o:Oper}{v:V}{σ:St}{c:Info}{H':Heap}(hi:ops[i]? = some o)(hc:G i c)(hcl:c.call=false)(hy:MV P ops S c σ o v H'){K:St->Prop}(h:K (z50 σ o v H')):GoA P ops S G Kp i K σ:=by
 unfold GoA;simp only[hi];exact⟨c,hc,.inl ⟨v,H',hcl,hy,h⟩⟩
theorem AM.mono(hg:∀j c,G' j c->G j c){R:St->Prop}:∀(fuel:Nat) (listed:Array Bool) (σ:St),AM P ops md S G' Kp R fuel listed σ->AM P ops md S G Kp R fuel listed σ
 |0,_,_,h=>h
 |fuel+1,listed,σ,h=>⟨h.1,λi hi=>by
  have h1:=h.2 i hi;unfold GoA at h1 ⊢;split;rename_i ho;simp only[ho]at h1;exact AM.mono hg fuel _ _ h1;rename_i o ho;simp only[ho]at h1;obtain⟨c,h0,⟨v,H',hc,h2,h3⟩|hm⟩:=h1;exact⟨c,hg _ _ h0,.inl ⟨v,H',hc,h2,AM.mono hg fuel _ _ h3⟩⟩
  exact⟨c,hg _ _ h0,.inr (hm.imp λv H' _ _ k=>AM.mono hg fuel _ _ k)⟩⟩
theorem yed{W0:World}{g0:Gh}{H0:Heap}{i:Nat}{σ:St}{K:St->Prop}{K':Act->World->Prop}{Q':Exit->Act->World->Prop}
  (hk:∀W a g σ,K σ->(σ.e0=H0.E∧Step W0 g0 H0 W g σ.H)->zz9 W a g σ->K' a W) (hkp:∀W a g σ v c,Kp v σ->(σ.e0=H0.E∧Step W0 g0 H0 W g σ.H)->zz9 W a g σ->Rel W g σ.H v c->Q' (.panic [{v:=c,recovered:=false}]) a W)
  {W:World} {a:Act}{g:Gh}(hh:GoA P ops S G Kp i K σ) (hS:σ.e0=H0.E∧Step W0 g0 H0 W g σ.H) (hG:zz9 W a g σ):wpOp P ops Q' i K' a W:=by
 unfold GoA at hh;unfold wpOp;split;rename_i ho;simp only[ho]at hh;exact hk W a g σ hh hS hG
 ·rename_i o ho;simp only[ho]at hh;obtain⟨c0,_,hh⟩:=hh;have he0:∀{v:V}{H':Heap},(z50 σ o v H').e0=σ.e0:=λ{v H'}=>by unfold z50;cases o.dst <;> rfl
  rcases hh with ⟨v,H',_,hy,hkk⟩|⟨_,_,hw,cl,f,args,Post,hop,ht,hc,hret,hpan⟩
  ·have fin:∀c W' g',Step W g σ.H W' g' H'->Good W' g' H'->Rel W' g' H' v c->K' (a.put o.dst c) W':=λc W' g' s1 s2 s3=>
    hk W' _ g' _ hkk (by rw[zqv,he0];exact⟨hS.1,hS.2.trans s1⟩) (hG.next s1 s2 s3 o.dst)
   rcases hy with ⟨hw,rfl,rfl⟩|⟨hw,hs,⟨_,rfl,hv⟩|⟨_,_,hv,_,_⟩⟩
   rw[kzx hG hw,Qby (by simp)];exact fin undef W g (.refl _ _ _) hG.good (.tup [] #[] rfl (by simp));rw[kzx hG hw,Qbx rfl];left;unfold Oper.wp
   rcases hv σ.H hs (.refl _ _)with hv|⟨c,f,args,hop,ht,hcl⟩|hv|⟨t,n,cz,hop,hv⟩|⟨cc,s,x,t,u,hop,hcal,hargs,htys,hv⟩
   obtain⟨c,W',h1,h2,h3⟩:=zvn (P:=P) hG.good (r:=a.eval) hG.ev hv;rw[h1];exact fin c W' g h2.step (hG.good.grow h2) h3;obtain⟨cargs,k1,k2⟩:=zbf (P:=P) (ty:=o.type) hG.ev ht
   have hex:(execOp a.eval o).run P W=(callFunc f cargs).run P W:=by
    rw[<-k2 W];unfold execOp;rw[hop]
   rcases hcl W g cargs hG.good k1 with ⟨e1,e2⟩|⟨c,W',g',e1,e2,e3,e4⟩
   rw[hex,e1];refine e2.mono λe W' ⟨c,g',he,s1,s2,s3⟩ =>?_
   subst he;exact fin c W' g' s1 s2 s3;rw[hex,e1];exact fin c W' g' e2 e3 e4;obtain⟨c,W',g',h1,h2,h3,h4⟩:=zn7 (P:=P) hG.good hG.ev hv
   rcases h1 with h1|⟨h1,h1'⟩
   rw[h1];exact fin c W' g' h2 h3 h4;rw[h1];subst h1';exact fin _ W' g' h2 h3 h4;obtain⟨c,W',g',h1,h2,h3,h4⟩:=y3b (P:=P) hG.good hv (hG.ev n) (hG.ev cz);have hex:(execOp a.eval o).run P W=(do pure (.value (<-Instr.makeSlice t (a.eval n) (a.eval cz))):Sem Next).run P W:=by unfold execOp;rw[hop]
   rw[hex]
   rcases h1 with h1|⟨h1,h1'⟩
   rw[h1];exact fin c W' g' h2 h3 h4;rw[h1];subst h1';exact fin _ W' g' h2 h3 h4;obtain⟨c,W',g',h1,h2,h3,h4⟩:=y70 (P:=P) (ty:=o.type) hG.good hv (hG.ev s) (hG.ev x)
   have hex:(execOp a.eval o).run P W=(do pure (.value (<-Builtin.append_ #[t,u] o.type #[a.eval s,a.eval x])):Sem Next).run P W:=by
    obtain⟨callee,args,argTypes⟩:=cc;simp only at hcal hargs htys;subst hcal;obtain rfl:=zzw hargs;obtain rfl:=zzw htys;unfold execOp;rw[hop];simp[resolve,invoke,builtin]
   rw[hex]
   rcases h1 with h1|⟨h1,h1'⟩
   rw[h1];exact fin c W' g' h2 h3 h4;rw[h1];subst h1';exact fin _ W' g' h2 h3 h4;rw[kzx hG hw,Qbx rfl];left;unfold Oper.wp;obtain⟨c,W',g',h1,h2,h3,h4⟩:=hv.elim (λq=>y2y (P:=P) hG.good hG.ev q.2) (λq=>q.elim (λq=>zn7 (P:=P) hG.good hG.ev q) (λq=>q.sound hG.good hG.ev))
   rcases h1 with h1|⟨h1,h1'⟩
   rw[h1];exact fin c W' g' h2 h3 h4;rw[h1];subst h1';exact fin _ W' g' h2 h3 h4
  ·rw[kzx hG hw,Qbx rfl];left;unfold Oper.wp;obtain⟨cargs,k1,k2⟩:=zbf (P:=P) (ty:=o.type) hG.ev ht
   have hex:(execOp a.eval o).run P W=(callFunc f cargs).run P W:=by
    rw[<-k2 W];unfold execOp;rw[hop]
   obtain⟨e1,e2⟩:=hc W g cargs hG.good k1;rw[hex,e1];refine e2.mono λe W' ⟨o',H',g',p1,p2,p3,p4⟩ =>?_
   cases o' with
   |ret r=>
    obtain⟨c',he,hr'⟩:=p4;subst he
    exact hk W' (a.put o.dst c') g' _ (hret r H' p1).2.2 (by rw[zqv,he0];exact⟨hS.1,hS.2.trans p2⟩) (hG.next p2 p3 hr' o.dst)
   |pan v=>
    obtain⟨c',he,hr'⟩:=p4;subst he;have hn:=hG.next p2 p3 (.any undef) none;exact hkp W' a g' {σ with H:=H'} v c' (hpan v H' p1) ⟨hS.1,hS.2.trans p2⟩ hn hr'
theorem zxk{W0:World}{g0:Gh}{H0:Heap}{R:St->Prop}{Q':Exit->Act->World->Prop}(hR:∀W a g σ,R σ->(σ.e0=H0.E∧Step W0 g0 H0 W g σ.H)->zz9 W a g σ->Q' .normal a W)
  (hkp:∀W a g σ v c,Kp v σ->(σ.e0=H0.E∧Step W0 g0 H0 W g σ.H)->zz9 W a g σ->Rel W g σ.H v c->Q' (.panic [{v:=c,recovered:=false}]) a W) :
  ∀(fuel:Nat) (listed:Array Bool) (σ:St) (W:World) (a:Act) (g:Gh),AM P ops md S G Kp R fuel listed σ->(σ.e0=H0.E∧Step W0 g0 H0 W g σ.H)->zz9 W a g σ->wpAny P md ops Q' fuel listed a W
 |0,_,σ,W,a,g,h,hS,hG=>⟨h.1,hR W a g σ h.2 hS hG⟩
 |fuel+1,listed,σ,W,a,g,h,hS,hG=>⟨λh0=>hR W a g σ (h.1 h0) hS hG,λi hi=>yed (λW a g σ' hk hS hG=>zxk hR hkp fuel _ σ' W a g hk hS hG) hkp (h.2 i hi) hS hG⟩
theorem ypb{ci cj:Info}{oi oj:Oper}(hap:oi.apart ops oj=true)(hci:ci.eff=false)(hij:∀x,ci.K x->¬cj.W x)(hkp:∀v (σ:St) t',Kp v σ->t'.length=σ.t.length->Kp v {σ with t:=t'})
  {σ:St} {v:V}{H1:Heap}(h1:MV P ops S ci σ oi v H1) {K:V->Heap->Prop}(h2:MC P ops S cj (z50 σ oi v H1) oj K Kp):H1=σ.H ∧
  MC P ops S cj σ oj (λu H'=>MV P ops S ci (z50 σ oj u H') oi v H'∧K u H') Kp:=by
 obtain⟨a1,a2,a3⟩:=Oper.apart_spec hap;have evj:∀{w:V}{H:Heap},∀x∈oj.op.operands,(z50 σ oi w H).ev x=σ.ev x:=λ{w H} x hx=>zuv λd hd=>zb2 (a1 d hd) x hx
 have evi:∀{w:V}{H:Heap},∀x∈oi.op.operands,(z50 σ oj w H).ev x=σ.ev x:=λ{w H} x hx=>zuv λd hd=>zb2 (a3 d hd) x hx
 have hH:H1=σ.H:=by
  rcases h1 with ⟨_,_,h⟩|⟨_,_,⟨_,h,_⟩|⟨h,_⟩⟩
  exact h;exact h;rw[hci]at h;cases h
 subst hH;refine⟨rfl,?_⟩;obtain⟨b1,b2,b3,cl,f,args,Post,b4,b5,b6,b7,b8⟩:=h2;rw[zh6 a1]at b3;rw[zgy (ρ':=σ.ev) (λx hx=>evj x (by rw[b4];exact hx))]at b5;rw[zqv]at b6 b7;refine⟨b1,b2,b3,cl,f,args,Post,b4,b5,b6,λu H' hp =>?_,λu H' hp =>?_⟩;obtain⟨c1,c2,c3⟩:=b7 u H' hp;refine⟨c1,c2,?_,c3⟩;unfold MV at h1 ⊢;rw[zh6 a3,zqv]
 rcases h1 with ⟨d1,d2,_⟩|⟨d1,d2,⟨d3,_,d4⟩|⟨h,_⟩⟩
 exact .inl ⟨d1,d2,rfl⟩;exact .inr ⟨d1,c1,.inl ⟨d3,rfl,λH'' k1 k2=>zi2 (λx hx=>(evi x hx).symm) (d4 H'' k1 (zrf.trans (λx hx=>c2 x (hij x hx)) k2))⟩⟩;rw[hci]at h;cases h;have:=hkp u _ σ.t (b8 u H' hp) (by unfold z50;cases oi.dst <;> simp[St.put]);have e:({({z50 σ oi v σ.H with H:=H'}:St)with t:=σ.t}:St)={σ with H:=H'}:=by unfold z50;cases oi.dst <;> rfl
 rw[e]at this;exact this
theorem ynz(hkp:∀v (σ:St) t',Kp v σ->t'.length=σ.t.length->Kp v {σ with t:=t'}){R:St->Prop}{i:Nat}{oi:Oper}{ci:Info}(hi:ops[i]? = some oi)(hci:G i ci)(hcc:ci.call=false)(hg:∀j c,G' j c->G j c∧ymn md ops i j ci c) :
  ∀(fuel:Nat) (listed:Array Bool) (σ:St),Down md ops listed ->
   (∀j oj,ops[j]? = some oj->j≠i->listed.getD j true=false->(∀e∈oj.after,Region.binds md e=true->e.on≠i)->oi.apart ops oj=true) ->
   i∈Region.ready md ops listed->∀v H',MV P ops S ci σ oi v H'->AM P ops md S G' Kp R fuel (listed.setIfInBounds i true) (z50 σ oi v H')->AM P ops md S G Kp R (fuel+1) listed σ:=by
 intro fuel
 induction fuel with
 |zero=>
  intro listed σ _ _ hr v H' hy H;refine⟨λh=>(by rw[h]at hr;cases hr),λj hj =>?_⟩;by_cases hji:j=i;subst hji;exact hy.goA hi hci hcc (AM.mono (λj c h=>(hg j c h).1) _ _ _ H);have:=ready_mono hj hji;rw[H.1]at this
  cases this
 |succ fuel ih=>
  intro listed σ hdown hfree hr v H' hy H;refine⟨λh=>(by rw[h]at hr;cases hr),λj hj =>?_⟩;by_cases hji:j=i;subst hji;exact hy.goA hi hci hcc (AM.mono (λj c h=>(hg j c h).1) _ _ _ H);have h1:=H.2 j (ready_mono hj hji);obtain⟨hjun,oj,hoj,hall⟩:=mem_ready.1 hj;obtain⟨hun,oi',hoi',hall'⟩:=mem_ready.1 hr
  rw[hi]at hoi';injection hoi' with hoi';subst hoi'
  have hnot:∀e∈oj.after,Region.binds md e=true->e.on≠i:=λe he hb heq=>by
   have h1:=hall e he hb;rw[heq,getD_both hun]at h1;cases h1
  have hnot':∀e∈oi.after,Region.binds md e=true->e.on≠j:=λe he hb heq=>by
   have h1:=hall' e he hb;rw[heq,getD_both hjun]at h1;cases h1
  have hfr:Free md ops i j:=⟨λhd=>(by have:=hdown.ready hj hd;rw[getD_both hun]at this;cases this),λhd=>(by have:=hdown.ready hr hd;rw[getD_both hjun]at this;cases this)⟩;have hap:=hfree j oj hoj hji hjun hnot
  have hfree':∀k ok,ops[k]? = some ok->k≠i->(listed.setIfInBounds j true).getD k true=false ->
    (∀e∈ok.after,Region.binds md e=true->e.on≠i)->oi.apart ops ok=true:=λk ok hk hki hun hno=>by
   refine hfree k ok hk hki ?_ hno;by_cases hjk:j=k;subst hjk;exact hjun;rw[getD_set_ne true hjk]at hun;exact hun
  unfold GoA at h1 ⊢;simp only[hoj]at h1 ⊢;obtain⟨cj,hcj,⟨u,H2,hjc,hm,hk⟩|hm⟩:=h1;obtain⟨hgj,hpair⟩:=hg j cj hcj;obtain⟨p1,p2,p3⟩:=hpair hfr;obtain⟨H1',q1,q2⟩:=yq1 hap p1 p2 p3 hy hm;refine⟨cj,hgj,.inl ⟨u,H1',hjc,q1,ih (listed.setIfInBounds j true) _ (hdown.set hj) hfree' (ready_mono hr (Ne.symm hji)) v H2 q2 ?_⟩⟩;rw[Array.setIfInBounds_comm _ _ hji];rw[y3e (B:=H1') (Oper.apart_spec hap).2.1]at hk;exact hk
  obtain⟨hgj,hpair⟩:=hg j cj hcj;obtain⟨p1,p2,p3⟩:=hpair hfr
  have hie:ci.eff=false:=by
   cases he:ci.eff with
   |false=>rfl
   |true=>exact(p1 ⟨he,hm.1⟩).elim
  obtain⟨rfl,q⟩:=ypb (Kp:=Kp) hap hie (p2 hie hm.1) hkp hy hm;refine⟨cj,hgj,.inr (q.imp λu H2 _ _ ⟨q2,hk⟩=>ih (listed.setIfInBounds j true) _ (hdown.set hj) hfree' (ready_mono hr (Ne.symm hji)) v H2 q2 ?_)⟩;rw[Array.setIfInBounds_comm _ _ hji];rw[y3e (B:=H2) (Oper.apart_spec hap).2.1]at hk;exact hk
def zwm(md:Region.Mode)(ops:Array Oper):List Nat->Array Bool->Bool
 |[],listed=>(Region.ready md ops listed).isEmpty
 |k::r,listed=>(Region.ready md ops listed).contains k&&Region.free md ops listed k&&zwm md ops r (listed.setIfInBounds k true)
def zky(P:Program)(ops:Array Oper)(md:Region.Mode)(S:Heap->Prop)(Kp:V->St->Prop)(R:St->Prop):List Nat->List (Nat×Info)->St->Prop
 |[],_,σ=>R σ
 |k::ks,prev,σ=>∃o c,ops[k]? = some o∧GP md ops prev k c∧((∃v H',c.call=false∧MV P ops S c σ o v H'∧zky P ops md S Kp R ks ((k,c)::prev) (z50 σ o v H')) ∨
  ((∀j∈ks,¬Free md ops k j)∧MC P ops S c σ o (λv H'=>zky P ops md S Kp R ks ((k,c)::prev) (z50 σ o v H')) Kp))
theorem yn9(hkp:∀v (σ:St) t',Kp v σ->t'.length=σ.t.length->Kp v {σ with t:=t'}){R:St->Prop}:∀(l:List Nat) (prev:List (Nat×Info)) (listed:Array Bool) (σ:St),Down md ops listed->(∀j,listed.getD j true=false->j∈l) ->
  zwm md ops l listed=true->zky P ops md S Kp R l prev σ->AM P ops md S (GP md ops prev) Kp R l.length listed σ
 |[],_,listed,σ,_,_,hB,h=>⟨by simpa[zwm]using hB,h⟩
 |k::l,prev,listed,σ,hdown,hlow,hB,h=>by
  obtain⟨o,c,h0,hc0,h⟩:=h;simp only[zwm,Qag]at hB;obtain⟨⟨hr,hf⟩,hB'⟩:=hB;have hr:k∈Region.ready md ops listed:=by simpa using hr
  have hlow':∀j,(listed.setIfInBounds k true).getD j true=false->j∈l:=λj hj=>by
   by_cases hjk:k=j;subst hjk;by_cases hlt:k<listed.size;simp[Qae,hlt]at hj;simp[Qae,Array.getElem?_eq_none (Nat.le_of_not_lt hlt)]at hj;rw[getD_set_ne true hjk]at hj
   rcases Qbl.1 (hlow j hj)with e|e
   exact(hjk e.symm).elim;exact e
  have rest:∀σ',zky P ops md S Kp R l ((k,c)::prev) σ'->AM P ops md S (GP md ops ((k,c)::prev)) Kp R l.length (listed.setIfInBounds k true) σ':=λσ' hrest=>
   yn9 hkp l _ _ _ (hdown.set hr) hlow' hB' hrest
  rcases h with ⟨v,H',hc,hy,hrest⟩|⟨hlate,hm⟩
  exact ynz (G:=GP md ops prev) (G':=GP md ops ((k,c)::prev)) hkp h0 hc0 hc (λj c' h'=>⟨λp hp=>h' p (Qai _ hp),h' _ Qak⟩) l.length listed σ hdown (Region.free_spec h0 hf) hr v H' hy (rest _ hrest);refine⟨λh=>(by rw[h]at hr;cases hr),λj hj =>?_⟩;by_cases hjk:j=k;subst hjk;unfold GoA;simp only[h0]
  exact⟨c,hc0,.inr (hm.imp λv H' _ _ hk=>AM.mono (λj' c' h' p hp=>h' p (Qai _ hp)) _ _ _ (rest _ hk))⟩
  exfalso
  obtain⟨hjun,oj,hoj,hall⟩:=mem_ready.1 hj;obtain⟨hun,oi',hoi',hall'⟩:=mem_ready.1 hr;refine hlate j ?_ ⟨λhd=>(by have:=hdown.ready hj hd;rw[getD_both hun]at this;cases this),λhd=>(by have:=hdown.ready hr hd;rw[getD_both hjun]at this;cases this)⟩
  rcases Qbl.1 (hlow j hjun)with e|e
  exact(hjk e).elim;exact e
theorem yop{id:Nat}{σ:St}{Q:zz8->St->Prop}(hm:P.follows .mixedOrders=true)(l:List Nat)(hB:zwm .any ops l (Array.replicate ops.size false)=true)(hl:l.length=ops.size)(hall:∀j,j<ops.size->j∈l)
  (h:zky P ops .any S (λv σ=>∀t',t'.length=σ.t.length->Q (.panic v) {σ with t:=t'}) (Q .normal) l [] σ) :
  Sat P (.region id ops true) σ Q:=λW0 g0 H0 W a g _ hS hG=>by
 refine zdq zpz hm ?_;have hG':=hG.drawn (W.drawn+1);have hS':σ.e0=H0.E∧Step W0 g0 H0 {W with drawn:=W.drawn+1} g σ.H:=⟨hS.1,hS.2.trans (Grow.drawn W _).step⟩
 have:=yn9 (P:=P) (md:=.any) (R:=Q .normal) (λv σ t' h ht=>λt'' ht''=>h t'' (ht''.trans ht)) l [] (Array.replicate ops.size false) σ (λb o _ hb=>by rw[getD_replicate_false]at hb;cases hb) (λj hj=>by
  rcases Nat.lt_or_ge j ops.size with q|q
  exact hall j q
  simp[Qae,Array.getElem?_eq_none (xs:=Array.replicate ops.size false) (i:=j) (by simpa using q)]at hj) hB h
 rw[hl]at this;exact zxk (Q':=y55 W0 g0 H0 Q) (λW a g τ hτ hS hG=>⟨g,τ,.normal,.normal,hS,hG,hτ⟩) (λW a g τ v c hτ hS hG hr=>⟨g,τ,.panic v,.panic v c hr,hS,hG,hτ τ.t rfl⟩) _ _ σ _ a g this hS' hG'
theorem y4q{H H':Heap}{t l i off:Nat}(h:H'.get l i=H.get l i):z7g P H' t (.ptr l i off)=z7g P H t (.ptr l i off):=by simp only[z7g,h]
theorem yeo{off:Nat}{cs cs':List V}(h:cs'[off]? = cs[off]?):(if off+1<=cs'.length then some (V.agg ((cs'.drop off).take 1))else none)=if off+1<=cs.length then some (V.agg ((cs.drop off).take 1))else none:=by
 have e:∀l:List V,(if off+1<=l.length then some (V.agg ((l.drop off).take 1))else none)=l[off]?.map λv=>V.agg [v]:=λl=>by
  by_cases hl:off<l.length;rw[Qbx (by omega),List.drop_eq_getElem_cons hl,Qab hl];rfl;rw[Qby (by omega),Qcf (by omega)];rfl
 rw[e,e,h]
theorem yqc{t off:Nat}{cs cs':List V}(h1:P.cellsOf t=1)(h:cs'[off]? = cs[off]?):rd P t cs' off=rd P t cs off:=by
 unfold rd;rw[h1];split;rfl;exact yeo h;exact yeo h;exact h
theorem yj3{t off:Nat}{cs:List V}(h1:P.cellsOf t=1)(h:cs[off]? = none):rd P t cs off=none:=by
 have:=List.getElem?_eq_none_iff.1 h;unfold rd;rw[h1];split;rfl;rw[Qby (by omega)];rw[Qby (by omega)];exact h
theorem y04{H H':Heap}{t i off:Nat}(h1:P.cellsOf t=1)(hl:H'.lv=H.lv)(h:cellAt H'.L[i]? off=cellAt H.L[i]? off):z7g P H' t (.ptr H.lv i off)=z7g P H t (.ptr H.lv i off):=by
 have get:∀{K:Heap},K.lv=H.lv->z7g P K t (.ptr H.lv i off)=(cellAt K.L[i]? off).bind λv=>rd P t (List.replicate off .any++[v]) off:=λ{K} hK=>by
  simp only[z7g,Heap.get,hK,if_true]
  cases hk:K.L[i]? with
  |none=>rfl
  |some o=>cases o with
   |none=>rfl
   |some o=>cases o with
    |cells cs=>
     show rd P t cs off=(cs[off]?).bind _
     cases hc:cs[off]? with
     |none=>exact yj3 h1 hc
     |some v=>exact yqc h1 (by rw[hc];simp)
    |_=>rfl
 rw[get hl,get rfl,h]
theorem zpj{H H':Heap}{t:Nat}{cs:List V}{off:Nat}:z7g P H' t (.ref cs off)=z7g P H t (.ref cs off):=rfl
theorem zsq{H H':Heap}{t l i ver idx off:Nat}(h:H'.get l i=H.get l i):z7g P H' t (.ap l i ver idx off)=z7g P H t (.ap l i ver idx off):=by simp only[z7g,zse,h]
theorem ztf{H H':Heap}{t l i ver off n:Nat}{full:Bool}{y:V}(h:H'.get l i=H.get l i):kzm P H' t (.hs l i ver off n full) y=kzm P H t (.hs l i ver off n full) y:=by simp only[kzm,h]
theorem y8x{H H':Heap}{t l i ver off n:Nat}{full:Bool}(h:H'.get l i=H.get l i):zkr P H' t (.hs l i ver off n full)=zkr P H t (.hs l i ver off n full):=by simp only[zkr,h]
def V.plain:V->Bool
 |.hs .. | .map .. => false
 |_=>true
theorem yfa{H H':Heap}{t:Nat}{x:V}(h:x.plain=true):zkr P H' t x=zkr P H t x:=by cases x <;> first|rfl|cases h
theorem zvy{H H':Heap}{t:Nat}{x y:V}(h:x.plain=true):kzm P H' t x y=kzm P H t x y:=by cases x <;> first|rfl|cases h
theorem yb0{H H':Heap}{t:Nat}{x:V}{a b c:Option V}(h:x.plain=true):zdu P H' t x a b c=zdu P H t x a b c:=by cases x <;> first|rfl|cases h
end
def yik(all:List Oper)(i j:Nat):Bool:=match all[j]? with
 |some o=>o.after.toList.any λe=>Region.binds .any e&&Nat.beq e.on i
 |none=>false
def yng(all:List Oper):Nat->Nat->Nat->Bool
 |0,i,j=>yik all i j
 |n+1,i,j=>yik all i j||(match all[j]? with
  |some o=>o.after.toList.any λe=>Region.binds .any e&&yng all n i e.on
  |none=>false)
def y8p(all:List Oper)(i j:Nat):Bool:=yng all 8 i j||yng all 8 j i
theorem ydf{ops:Array Oper}:∀(n:Nat) {i j:Nat},yng ops.toList n i j=true->Dep .any ops i j:=λn=>by
 have edge:∀{i j:Nat},yik ops.toList i j=true->Dep .any ops i j:=λ{i j} h=>by
  unfold yik at h;split at h;rename_i o ho;rw[List.any_eq_true]at h;obtain⟨e,he,hb⟩:=h;simp only[Qag]at hb;exact .one j o e (by simpa using ho) (by simpa using he) hb.1 (Qaj hb.2);cases h
 induction n with
 |zero=>intro i j h;exact edge h
 |succ n ih=>
  intro i j h;simp only[yng,Bool.or_eq_true]at h
  rcases h with h|h
  exact edge h;split at h;rename_i o ho;rw[List.any_eq_true]at h;obtain⟨e,he,hb⟩:=h;simp only[Qag]at hb;exact .more j o e (by simpa using ho) (by simpa using he) hb.1 (ih hb.2);cases h
theorem zhj{ops:Array Oper}{i j:Nat}(h:y8p ops.toList i j=true):¬Free .any ops i j:=λhf=>by
 unfold y8p at h;rw[Bool.or_eq_true]at h
 rcases h with h|h
 exact hf.1 (ydf 8 h);exact hf.2 (ydf 8 h)
end Go.Ab
