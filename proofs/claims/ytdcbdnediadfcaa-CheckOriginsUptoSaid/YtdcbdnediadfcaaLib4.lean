/-
  TYPED VALUES: a machine over data of Lean types, run by the kernel. Definitions.
-/
import Derived.Test.YtdcbdnediadfcaaLib2
import Derived.Test.YtdcbdnediadfcaaLib3
import Derived.RangeFuncCalls
import Derived.RangeFuncLeaves
namespace Go.Ab
open Go
set_option linter.unusedVariables false
def pIf{α:Type}(b:Bool)(x y:Option α):Option α:=match b with|true=>x|false=>y
theorem zlf{α:Type}(b:Bool)(x y:Option α):pIf b x y=if b then x else y:=by cases b <;> rfl
def z0p{α β:Type}(o:Option α)(k:α->Option β):Option β:=o.bind k
noncomputable def zjw{α R:Type}(es:List (B8×α))(f:B8->α->List (B8×α)->Option R)(g:Option R):Option R :=
 open Classical in
 match es with
 |[]=>g
 |[e]=>f e.1 e.2 []
 |e::e'::r=>if h:∃z,∀i p,(e::e'::r)[i]? = some p->f p.1 p.2 ((e::e'::r).eraseIdx i)=some z then some h.choose else none
def pOp{α:Type}(o:Oper)(x:Option α):Option α:=x
inductive Res (X R:Type) where
 |ok (r:R)
 |pan (x:X)
def zvo{X R S:Type}(o:Res X R)(f:R->Option S)(g:X->Option S):Option S:=match o with
 |.ok r=>f r
 |.pan x=>g x
inductive DTy where
 |bool
 |int (k:IntKind)
 |str
 |nat
 |sl (t:DTy)
 |st (i:Nat)
 deriving DecidableEq
def DTy.S(T:Nat->Type):DTy->Type
 |.bool=>Bool
 |.int _=>Int
 |.str=>B8
 |.nat=>Nat
 |.sl t=>List (t.S T)
 |.st i=>T i
def HL(T:Nat->Type):List DTy->Type
 |[]=>Unit
 |t::l=>t.S T×HL T l
def HL.app{T:Nat->Type}:{a b:List DTy}->HL T a->HL T b->HL T (a++b)
 |[],_,_,y=>y
 |_::_,_,x,y=>(x.1,HL.app x.2 y)
def HL.fst{T:Nat->Type}:(a:List DTy)->{b:List DTy}->HL T (a++b)->HL T a
 |[],_,_=>()
 |_::a,_,x=>(x.1,HL.fst a x.2)
def HL.snd{T:Nat->Type}:(a:List DTy)->{b:List DTy}->HL T (a++b)->HL T b
 |[],_,x=>x
 |_::a,_,x=>HL.snd a x.2
structure Dat where
 T:Nat->Type
 fl:Nat->List DTy
 get:∀i,T i->HL T (fl i)
 make:∀i,HL T (fl i)->T i
 enc:∀i,T i->V
 ty:Nat->Option DTy
 ow:Nat->Nat->Option Nat:=λ_ _=>none
inductive TV (T:Nat->Type):Type where
 |any
 |bool (b:Bool)
 |int (k:IntKind) (n:Int)
 |str (s:B8)
 |nilp
 |nils
 |mapn
 |nilf
 |nili
 |sl (t:DTy) (xs:List (t.S T)) (fl:Nat)
 |own (s:Nat)
 |osl (s:Nat) (lo:Int)
 |ptr (s off:Nat)
 |bp (s off:Nat)
 |ref (cs:List (TV T)) (off:Nat)
 |ap (s:Nat) (t:DTy) (i:Int) (x:t.S T) (off:Nat)
 |map (s:Nat)
 |mc (t:DTy) (es:List (B8×t.S T))
 |fn (f:Nat) (first caps:List (TV T))
 |iface (t:Nat) (v:TV T)
 |agg (cs:List (TV T))
 |tup (vs:List (TV T))
 |dp (s:Nat) (i:Int) (off:Nat)
 |bsl (i:Nat) (cs:List (TV T))
inductive TO (T:Nat->Type):Type where
 |cells (cs:List (TV T))
 |acc (ty:Nat) (t:DTy) (xs:List (t.S T)) (w:Bool)
 |siter (s:B8) (pos:Nat)
 |mp (ty:Nat) (t:DTy) (es:List (B8×t.S T))
 |mit (t:DTy) (last:Option (B8×t.S T)) (es:List (B8×t.S T))
 |bld (ty:Nat) (b:Option Nat)
 |gone
 |rig
 |deep (ty i:Nat) (xs:List (T i)) (h:Option (Int×Nat×Nat))
structure TS(T:Nat->Type) where
 t:List (Nat×TV T)
 o:List (Nat×TO T)
 nx:Nat
 nt:Nat
 d:List (Nat×List (TV T)):=[]
 g:List (Option Nat):=[]
def fnd{α:Type}:List (Nat×α)->Nat->Option α
 |[],_=>none
 |(i,a)::r,j=>match Nat.beq i j with
  |true=>some a
  |false=>fnd r j
section
variable {T : Nat → Type}
def TV.cells:TV T->List (TV T)
 |.agg cs=>cs
 |v=>[v]
def TV.leaf:TV T->Bool
 |.any| .agg _| .tup _=>false
 |_=>true
def TV.kz9:TV T->Bool
 |.agg _=>true
 |v=>v.leaf
def TV.z34:Value->TV T
 |.bool b=>.bool b
 |.int k n=>.int k n
 |.string s=>.str s.data.toList
 |.pointer none=>.nilp
 |.slice none 0 0=>.nils
 |.map none=>.mapn
 |.nilFunc=>.nilf
 |.nilIface=>.nili
 |_=>.any
def TV.ofC:Value->TV T
 |.agg cs=>if cs.toList.all (·.oneCell')then .agg (cs.toList.map TV.z34)else .any
 |.tuple cs=>.tup (cs.toList.map TV.z34)
 |.iface t v=>.iface t (TV.z34 v)
 |v=>TV.z34 v
def TS.ev(ts:TS T):Operand->Option (TV T)
 |.tmp t=>fnd ts.t t
 |.const v=>some (TV.ofC v)
 |.func f=>some (.fn f [] [])
 |.global _=>none
def TS.evs(ts:TS T):List Operand->Option (List (TV T))
 |[]=>some []
 |x::xs=>match ts.ev x,ts.evs xs with
  |some v,some vs=>some (v::vs)
  |_,_=>none
inductive FR (α:Type) where
 |ok (a:α)
 |frz (s:Nat)
 |bad
def FR.of{α:Type}:Option α->FR α
 |some a=>.ok a
 |none=>.bad
end
section
variable (D : Dat)
def Dat.owns(q:Nat):Bool:=(List.range (D.fl q).length).any λf=>(D.ow q f).isSome
def Dat.len:DTy->Nat
 |.st i=>(D.fl i).length
 |_=>1
def Dat.el:(t:DTy)->t.S D.T->V
 |.bool,b=>.bool b
 |.int k,n=>.int k n
 |.str,s=>.str s
 |.nat,_=>.any
 |.sl t,xs=>.sl (D.len t) (List.map (Dat.el t) xs) false
 |.st i,x=>D.enc i x
def Dat.els:(l:List DTy)->HL D.T l->List V
 |[],_=>[]
 |t::l,x=>D.el t x.1::Dat.els l x.2
def Dat.leaf:(t:DTy)->t.S D.T->TV D.T
 |.bool,b=>.bool b
 |.int k,n=>.int k n
 |.str,s=>.str s
 |.nat,_=>.any
 |.sl t,xs=>.sl t xs 0
 |.st _,_=>.any
def Dat.leaves:(l:List DTy)->HL D.T l->List (TV D.T)
 |[],_=>[]
 |t::l,x=>D.leaf t x.1::Dat.leaves l x.2
def Dat.tv:(t:DTy)->t.S D.T->TV D.T
 |.st i,x=>.agg (D.leaves (D.fl i) (D.get i x))
 |.bool,b=>.bool b
 |.int k,n=>.int k n
 |.str,s=>.str s
 |.nat,_=>.any
 |.sl t,xs=>.sl t xs 0
def zi5{T:Nat->Type}(a b:DTy)(x:a.S T):Option (b.S T) :=
 if h:a=b then some (h▸x)else none
def zdb{T:Nat->Type}(a b:DTy)(x:List (B8×a.S T)):Option (List (B8×b.S T)) :=
 if h:a=b then some (h▸x)else none
def DTy.flat:DTy->Bool
 |.bool| .int _| .str=>true
 |_=>false
def z3v{T:Nat->Type}(a b:DTy)(x:List (a.S T)):Option (List (b.S T)) :=
 if h:a=b then some (h▸x)else none
def z6s:(t:DTy)->TV D.T->FR (t.S D.T)
 |.bool,.bool b=>.ok b
 |.int k,.int k' n=>if k=k' then .ok n else .bad
 |.str,.str s=>.ok s
 |.sl t,.sl t' xs _=>FR.of (z3v t' t xs)
 |.sl _,.nils=>.ok []
 |.sl _,.own s=>.frz s
 |_,_=>.bad
def z2i:(l:List DTy)->List (TV D.T)->FR (HL D.T l)
 |[],[]=>.ok ()
 |t::l,v::vs=>match z6s D t v with
  |.ok x=>match z2i l vs with
   |.ok xs=>.ok (x,xs)
   |.frz s=>.frz s
   |.bad=>.bad
  |.frz s=>.frz s
  |.bad=>.bad
 |_,_=>.bad
def asD:(t:DTy)->TV D.T->FR (t.S D.T)
 |.st i,.agg cs=>match z2i D (D.fl i) cs with
  |.ok x=>.ok (D.make i x)
  |.frz s=>.frz s
  |.bad=>.bad
 |.st _,_=>.bad
 |t,v=>z6s D t v
def zpg(t:DTy):List (TV D.T)->FR (List (t.S D.T))
 |[]=>.ok []
 |v::vs=>match asD D t v with
  |.ok x=>match zpg t vs with
   |.ok xs=>.ok (x::xs)
   |.frz s=>.frz s
   |.bad=>.bad
  |.frz s=>.frz s
  |.bad=>.bad
end
section
variable {T : Nat → Type} (P : Program)
def tRd(t:Nat)(cs:List (TV T))(off:Nat):Option (TV T) :=
 match P.underlying t with
 |none=>none
 |some (.struct _)|some (.array _ _)=>if off+P.cellsOf t<=cs.length then some (.agg ((cs.drop off).take (P.cellsOf t)))else none
 |some _=>cs[off]?
def zg2(s f:Nat)(x:TV T):Option (TV T) :=
 match zal P s f with
 |none=>none
 |some o=>match x with
  |.ref cs off=>some (.ref cs (off+o))
  |.ptr s off=>some (.ptr s (off+o))
  |.ap s t i x off=>some (.ap s t i x (off+o))
  |.bp s off=>some (.bp s (off+o))
  |.dp s i off=>some (.dp s i (off+o))
  |_=>none
def zwz(s f:Nat)(x:TV T):Option (TV T) :=
 match P.underlying s with
 |some (.struct fs)=>match fs[f]? with
  |some y=>match x with
   |.agg cs=>tRd P y.type cs y.offset
   |_=>none
  |none=>none
 |_=>none
def znx(i:Nat):TV T->Option (TV T)
 |.tup vs=>vs[i]?
 |_=>none
def tNil:TV T->Option (TV T)
 |.ptr s off=>some (.ptr s off)
 |.ref cs off=>some (.ref cs off)
 |.ap s t i x off=>some (.ap s t i x off)
 |.bp s off=>some (.bp s off)
 |.dp s i off=>some (.dp s i off)
 |.fn f a b=>some (.fn f a b)
 |_=>none
def tUn(op:UnOp)(x:TV T):Option (TV T) :=
 match op,x with
 |.neg,.int k n=>some (.int k (k.wrap (0-n)))
 |.not,.bool b=>some (.bool (!b))
 |.xor,.int k n=>some (.int k (bits .xor k (if k.signed then -1 else k.max) n))
 |_,_=>none
def zoa(s d:Nat)(x:TV T):Option (TV T) :=
 match x with
 |.int _ n=>match P.underlying s,P.underlying d with
  |some _,some (.int k)=>some (.int k (k.wrap n))
  |_,_=>none
 |.str a=>match P.underlying s,P.underlying d with
  |some _,some .string=>some (.str a)
  |_,_=>none
 |_=>none
def zcy(x:TV T)(asserted:Nat)(ok:Bool):Option (TV T) :=
 match P.underlying asserted,x with
 |some (.interface _),_=>none
 |some _,.iface t v=>if t=asserted then some (if ok then .tup [v,.bool true]else v)else none
 |_,_=>none
def zll(max:Bool):List (TV T)->Option (TV T)
 |[.int k x,.int _ y]=>some (.int k (match max with|true=>mxI x y|false=>mnI x y))
 |[.int k x,.int _ y,.int _ z]=>some (.int k (match max with|true=>mxI (mxI x y) z|false=>mnI (mnI x y) z))
 |_=>none
def z6y(cs:List (TV T))(off:Nat)(xs:List (TV T)):List (TV T):=cs.take off++xs++cs.drop (off+xs.length)
def zqd(place:Nat->Option (Nat×Nat))(cells:List (TV T)):List (Nat×TV T)->Option (List (TV T))
 |[]=>some cells
 |(i,x)::rest=>match place i with
  |none=>none
  |some (off,size)=>if x.kz9&&x.cells.length==size&&decide (off+size<=cells.length)then zqd place (z6y cells off x.cells) rest else none
def zg5(ts:TS T):List (Nat×Operand)->Option (List (Nat×TV T))
 |[]=>some []
 |(i,x)::r=>match ts.ev x,zg5 ts r with
  |some v,some vs=>some ((i,v)::vs)
  |_,_=>none
def zmf(t:Nat):Option (TV T):=((P.info? t).bind (·.zero)).map TV.ofC
def zxf(t:Nat)(ps:List (Nat×TV T)):Option (TV T) :=
 match zmf (T:=T) P t with
 |some (.agg z)=>match P.underlying t with
  |some (.struct fs)=>match zjk P fs.toList with
   |some places=>(zqd (λi=>places[i]?) z ps).map .agg
   |none=>none
  |some (.array _ e)=>if (P.info? e).isSome then (zqd (λi=>some (i * P.cellsOf e,P.cellsOf e)) z ps).map .agg else none
  |_=>none
 |_=>none
def TV.odd:TV T->Bool
 |.int _ _| .str _| .any=>false
 |_=>true
mutual
def zu7:Nat->Nat->TV T->TV T->Option Bool
 |0,_,_,_=>none
 |d+1,t,x,y=>
  match x,y with
  |.bool a,.bool b=>match P.underlying t with|some .bool=>some (a==b)|_=>none
  |.int k a,.int k' b=>match P.underlying t with|some (.int _)=>if k=k' then some (a==b)else none|_=>none
  |.str a,.str b=>match P.underlying t with|some .string=>some (a==b)|_=>none
  |.agg xs,.agg ys=>match P.underlying t with|some (.struct fs)=>if P.stoodInHeld t then none else zlt d fs.toList xs ys|_=>none
  |.nilp,.nilp=>match P.underlying t with|some (.pointer _)=>some true|_=>none
  |.nilp,.ptr _ _| .nilp,.ref _ _=>match P.underlying t with|some (.pointer _)=>some false|_=>none
  |.ptr _ _,.nilp| .ref _ _,.nilp=>match P.underlying t with|some (.pointer _)=>some false|_=>none
  |.mapn,.mapn=>match P.underlying t with|some (.map _ _)=>some true|_=>none
  |.nilf,.nilf=>match P.underlying t with|some (.func ..)=>some true|_=>none
  |.nilf,.fn _ _ _| .fn _ _ _,.nilf=>match P.underlying t with|some (.func ..)=>some false|_=>none
  |.nili,.iface _ _| .iface _ _,.nili=>match P.underlying t with|some (.interface _)=>some false|_=>none
  |_,_=>none
def zlt:Nat->List Field->List (TV T)->List (TV T)->Option Bool
 |0,_,_,_=>none
 |_,[],_,_=>some true
 |d+1,f::fs,xs,ys=>
  if f.name = "_" then zlt d fs xs ys else
  match tRd P f.type xs f.offset,tRd P f.type ys f.offset with
  |some a,some b=>match zu7 d f.type a b,zlt d fs xs ys with
   |some r,some s=>some (r&&s)
   |_,_=>none
  |_,_=>none
end
def zgz(t:Nat)(x y:TV T):Bool :=
 match x,y with
 |.agg _,.agg _ => !P.eqGuardType P.depth t
 |.nili,.nili=>false
 |.any,_|_,.any=>false
 |_,_=>true
def shl(k:IntKind)(a b:Int):Option Int:=if b<0 then none else some (k.wrap (a * 2 ^ (min b.toNat k.bits)))
def shr(k:IntKind)(a b:Int):Option Int:=if b<0 then none else some (a.fdiv (2 ^ (min b.toNat k.bits)))
def tBin{R:Type}(op:BinOp)(t:Nat)(x y:TV T)(k:TV T->Option R):Option R :=
 match x,y with
 |.int i a,.int i' b=>match op with
  |.shl=>z0p (shl i a b) λz=>k (.int i z)
  |.shr=>z0p (shr i a b) λz=>k (.int i z)
  |_=>if i=i' then (match op with
   |.add=>k (.int i (i.wrap (a+b)))
   |.sub=>k (.int i (i.wrap (a-b)))
   |.mul=>k (.int i (i.wrap (a * b)))
   |.quo=>z0p (quo i a b) λz=>k (.int i z)
   |.rem=>z0p (rem i a b) λz=>k (.int i z)
   |.eql=>k (.bool (a==b))
   |.neq=>k (.bool (a != b))
   |.lss=>k (.bool (decide (a<b)))
   |.leq=>k (.bool (decide (a<=b)))
   |.gtr=>k (.bool (decide (a>b)))
   |.geq=>k (.bool (decide (a>=b)))
   |.and=>k (.int i (bits .and i a b))
   |.or=>k (.int i (bits .or i a b))
   |.xor=>k (.int i (bits .xor i a b))
   |.andNot=>k (.int i (bits .andNot i a b))
   |_=>none)else none
 |.str a,.str b=>match op with
  |.add=>z0p (cat a b) λz=>k (.str z)
  |.eql=>k (.bool (a==b))
  |.neq=>k (.bool (!(a==b)))
  |.lss=>k (.bool (Op.bytesLess a b))
  |.leq=>k (.bool (Op.bytesLess a b||a==b))
  |.gtr=>k (.bool (!(Op.bytesLess a b||a==b)))
  |.geq=>k (.bool (!Op.bytesLess a b))
  |_=>none
 |x,y=>match op with
  |.eql=>if x.odd&&zgz P t x y then (match zu7 P 24 t x y with|some r=>k (.bool r)|none=>none)else none
  |.neq=>if x.odd&&zgz P t x y then (match zu7 P 24 t x y with|some r=>k (.bool (!r))|none=>none)else none
  |_=>none
end
section
variable (P : Program) (D : Dat)
def zsf{T:Nat->Type}:Option Nat->TV T
 |none=>.nils
 |some s=>.own s
def zxn(s:B8):List Int:=s.map λb=>((b.toNat:Nat):Int)
def zy2:List Int->Option B8
 |[]=>some []
 |x::r=>match x,zy2 r with
  |.ofNat m,some s=>match Nat.ble m 255 with
   |true=>some (m.toUInt8::s)
   |false=>none
  |_,_=>none
def y05(ts:TS D.T)(t:Nat):TV D.T->Option (TV D.T)
 |.ref cs off=>tRd P t cs off
 |.ptr s off=>match fnd ts.o s with
  |some (.cells cs)=>tRd P t cs off
  |_=>none
 |.ap s τ i x off=>match fnd ts.o s with
  |some (.acc _ _ _ _)=>tRd P t (D.tv τ x).cells off
  |_=>none
 |.bp s off=>match fnd ts.o s with
  |some (.bld _ b)=>tRd P t [.any,zsf b] off
  |_=>none
 |_=>none
def zfk(q:Nat):(l:List DTy)->HL D.T l->Nat->List (TV D.T)
 |[],_,_=>[]
 |t::l,x,f=>(match D.ow q f with
  |none=>D.leaf t x.1
  |some _=>.any)::zfk q l x.2 (f+1)
def y2w(q off:Nat):Nat->List Nat
 |0=>[]
 |n+1=>match D.ow q off with
  |some _=>off::y2w q (off+1) n
  |none=>y2w q (off+1) n
def szT(t:Nat):Nat:=match P.underlying t with
 |some (.struct _)|some (.array _ _)=>P.cellsOf t
 |_=>1
def setO{α:Type}(cs:List α):Option (Nat×α)->List α
 |none=>cs
 |some (f,v)=>cs.set f v
def ze2{R:Type}(ts:TS D.T)(t:Nat)(s:Nat)(i:Int)(off:Nat)(set:Option (Nat×TV D.T))(k:TV D.T->Option R):Option R :=
 match fnd ts.o s with
 |some (.deep _ q xs _)=>z0p (ix xs i) λy=>(match tRd P t (setO (zfk D q (D.fl q) (D.get q y) 0) set) off with
  |some v=>k v
  |none=>none)
 |_=>none
def zr0(n i:Int):Option Unit:=if n=i then some ()else none
def zwk{R:Type}(ts:TS D.T)(t:Nat)(s:Nat)(i:Int)(off:Nat)(k:TV D.T->Option R):Option R :=
 match fnd ts.o s with
 |some (.deep _ _ _ (some p))=>(match Nat.beq p.2.1 off with
  |true=>z0p (zr0 p.1 i) λ_=>ze2 P D ts t s i off (some (off,.own p.2.2)) k
  |false=>ze2 P D ts t s i off none k)
 |_=>ze2 P D ts t s i off none k
def tLen(ts:TS D.T)(t:Nat)(x:TV D.T):Option (TV D.T) :=
 match x with
 |.str s=>match P.underlying t with|some .string=>some (.int .i64 s.length)|_=>none
 |.nils=>match P.underlying t with|some (.slice _)=>some (.int .i64 0)|_=>none
 |.sl _ xs _=>match P.underlying t with|some (.slice _)=>some (.int .i64 xs.length)|_=>none
 |.own s=>match P.underlying t,fnd ts.o s with
  |some (.slice _),some (.acc _ _ xs _)=>some (.int .i64 xs.length)
  |some (.slice _),some (.deep _ _ xs _)=>some (.int .i64 xs.length)
  |_,_=>none
 |.agg _=>match P.underlying t with|some (.array n _)=>some (.int .i64 n)|_=>none
 |.map s=>match P.underlying t,fnd ts.o s with
  |some (.map _ _),some (.mp _ _ es)=>some (.int .i64 es.length)
  |_,_=>none
 |_=>none
def y4f:(t:DTy)->TV D.T->Option (t.S D.T×Option Nat)
 |.sl _,.nils=>some ([],none)
 |.sl _,.own c=>some ([],some c)
 |_,_=>none
def zk6(q:Nat):(l:List DTy)->List (TV D.T)->Nat->FR (HL D.T l×Option (Nat×Nat))
 |[],[],_=>.ok ((),none)
 |t::l,v::vs,f=>(match D.ow q f with
  |none=>(match z6s D t v with
   |.ok x=>(match zk6 q l vs (f+1)with
    |.ok r=>.ok ((x,r.1),r.2)
    |.frz s=>.frz s
    |.bad=>.bad)
   |.frz s=>.frz s
   |.bad=>.bad)
  |some _=>(match zk6 q l vs (f+1)with
   |.ok r=>(match y4f D t v with
    |some (x,none)=>.ok ((x,r.1),r.2)
    |some (x,some c)=>(match r.2 with
     |none=>.ok ((x,r.1),some (f,c))
     |some _=>.bad)
    |none=>.bad)
   |.frz s=>.frz s
   |.bad=>.bad))
 |_,_,_=>.bad
def rowOf(τ:DTy)(ps:List (Nat×TV D.T)):Option (Nat×List (TV D.T)):=match τ,ps with
 |.st q,[(0,.agg cells)]=>(match D.owns q with
  |true=>(match zk6 D q (D.fl q) cells 0 with
   |.ok _=>some (q,cells)
   |_=>none)
  |false=>none)
 |_,_=>none
theorem zy9{τ:DTy}{ps:List (Nat×TV D.T)}{q:Nat}{cells:List (TV D.T)}(h:rowOf D τ ps=some (q,cells)):τ = .st q∧ps=[(0,.agg cells)]:=by
 unfold rowOf at h;split at h;split at h;split at h;injection h with h;injection h with h1 h2;subst h1;subst h2;exact⟨rfl,rfl⟩;cases h;cases h;cases h
def z5n(t len:Nat)(ps:List (Nat×TV D.T)):FR (TV D.T) :=
 match P.underlying t with
 |some (.slice e)=>match zeroV P e,D.ty e with
  |some z,some τ=>
   if z.kz9&&z.cells.length==P.cellsOf e&&decide (0<P.cellsOf e)&&(P.info? e).isSome&&ps.length==len&&(ps.map (·.1)==List.range len)&&ps.all (λp=>p.2.kz9&&p.2.cells.length==P.cellsOf e)&&decide (len * P.cellsOf e<=2 ^ 24)&&D.len τ==P.cellsOf e then
    (match rowOf D τ ps with
    |some (q,cells)=>.ok (.bsl q [.agg cells])
    |none=>match zpg D τ (ps.map (·.2))with
    |.ok xs=>.ok (.sl τ xs (if len=0 then 2 else 1))
    |.frz s=>(match τ,ps with
     |.st q,[(0,.agg cells)]=>(match zk6 D q (D.fl q) cells 0 with
      |.ok _=>.ok (.bsl q [.agg cells])
      |.frz s'=>.frz s'
      |.bad=>.frz s)
     |_,_=>.frz s)
    |.bad=>.bad)
   else .bad
  |_,_=>.bad
 |_=>.bad
def y7j(ts:TS D.T):TV D.T->Option Nat
 |.own k=>(match fnd ts.o k with
  |some (.acc _ (.st q) _ _)=>if D.owns q=true then some k else none
  |_=>none)
 |_=>none
def zww(ts:TS D.T):List (TV D.T)->Option Nat
 |[]=>none
 |v::l=>match y7j D ts v with
  |some k=>some k
  |none=>zww ts l
def zra(ts:TS D.T)(r:FR (TV D.T)):FR (TV D.T):=match r with
 |.ok (.bsl q [.agg cells])=>(match zww D ts cells with
  |some k=>.frz k
  |none=>.ok (.bsl q [.agg cells]))
 |r=>r
theorem zyi{ts:TS D.T}{r:FR (TV D.T)}{x:TV D.T}(h:zra D ts r = .ok x):r = .ok x:=by
 unfold zra at h;split at h;split at h;cases h;exact h;exact h
def tMk(t:Nat)(n c:Int):FR (TV D.T) :=
 match n,c with
 |.ofNat n,.ofNat c=>(match P.underlying t with
  |some (.slice e)=>(match P.info? e,zmf (T:=D.T) P e,D.ty e with
   |some i,some z,some τ=>(match z.kz9&&Nat.beq z.cells.length i.size&&Nat.blt 0 i.size&&Nat.ble n c&&Nat.ble c 1000000&&Nat.ble i.bytes 100000&&Nat.beq (D.len τ) i.size with
    |true=>(match asD D τ z with
     |.ok x=>.ok (.sl τ (List.replicate n x) 0)
     |.frz s=>.frz s
     |.bad=>.bad)
    |false=>.bad)
   |_,_,_=>.bad)
  |_=>.bad)
 |_,_=>.bad
def tP1(ts:TS D.T)(op:Op):FR (TV D.T) :=
 match op with
 |.move x=>.of (ts.ev x)
 |.assign x=>.of (ts.ev x)
 |.load t a=>match ts.ev a with|some a=>.of (y05 P D ts t a)|none=>.bad
 |.nilCheck x=>match ts.ev x with|some x=>.of (tNil x)|none=>.bad
 |.unOp o _ x=>match ts.ev x with|some x=>.of (tUn o x)|none=>.bad
 |.convert s d x=>match ts.ev x with|some x=>.of (zoa P s d x)|none=>.bad
 |.makeInterface t x=>match ts.ev x with|some x=>if P.concrete t then .ok (.iface t x)else .bad|none=>.bad
 |.makeFunc (.func f) first caps=>match ts.evs first.toList,ts.evs caps.toList with
  |some a,some b=>.ok (.fn f a b)
  |_,_=>.bad
 |.fieldAddr s x f=>match ts.ev x with|some x=>.of (zg2 P s f x)|none=>.bad
 |.field s x f=>match ts.ev x with|some x=>.of (zwz P s f x)|none=>.bad
 |.typeAssert x _ u ok=>match ts.ev x with|some x=>.of (zcy P x u ok)|none=>.bad
 |.extract x i=>match ts.ev x with|some x=>.of (znx i x)|none=>.bad
 |.build t ps=>match zg5 ts ps.toList with|some ps=>.of (zxf P t ps)|none=>.bad
 |.buildSlice t len ps=>match zg5 ts ps.toList with|some ps=>zra D ts (z5n P D t len ps)|none=>.bad
 |.makeSlice t n c=>match ts.ev n,ts.ev c with
  |some (.int _ n),some (.int _ c)=>tMk P D t n c
  |_,_=>.bad
 |.call c=>match c.callee with
  |.builtin .len=>match c.args.toList,c.argTypes.toList with
   |[x],[t]=>match ts.ev x with|some x=>.of (tLen P D ts t x)|none=>.bad
   |_,_=>.bad
  |.builtin .min=>match ts.evs c.args.toList with|some l=>.of (zll false l)|none=>.bad
  |.builtin .max=>match ts.evs c.args.toList with|some l=>.of (zll true l)|none=>.bad
  |_=>.bad
 |_=>.bad
def zh8{R:Type}:Nat->Int->(Nat->Option R)->Option R
 |0,_,_=>none
 |1,_,f=>f 0
 |m+2,n,f=>pIf (n==Int.ofNat (m+1)) (f (m+1)) (zh8 (m+1) n f)
def inR(len:Nat)(n:Int):Option Unit:=if 0<=n∧n<(len:Int)then some ()else none
def strB(P:Program)(e:Nat):Bool:=match P.underlying e with
 |some .string=>true
 |some (.struct _)=>true
 |_=>false
def stB(P:Program)(e:Nat):Bool:=match P.underlying e with
 |some (.struct _)=>true
 |_=>false
def zlk{T:Nat->Type}{R:Type}(P:Program)(len e:Nat)(x:TV T)(k:TV T->Option R)(n:Nat):Option R :=
 if n<len∧(P.underlying e).isSome then (match x with
  |.ref cs off=>k (.ref cs (off+n * P.cellsOf e))
  |.ptr s off=>k (.ptr s (off+n * P.cellsOf e))
  |.ap s t i x off=>k (.ap s t i x (off+n * P.cellsOf e))
  |_=>none)else none
def zfz{R:Type}(ts:TS D.T)(t:Nat)(x i:TV D.T)(k:TV D.T->Option R):Option R :=
 match i with
 |.int _ n=>match P.underlying t with
  |some (.slice e)=>if (P.underlying e).isSome then (match x with
   |.sl τ xs _=>if D.len τ=P.cellsOf e then z0p (ix xs n) λy=>k (.ref (D.tv τ y).cells 0)else none
   |.own s=>match fnd ts.o s with
    |some (.acc _ τ xs _)=>if D.len τ=P.cellsOf e then z0p (ix xs n) λy=>k (.ap s τ n y 0)else none
    |some (.deep _ q xs _)=>if D.len (.st q)=P.cellsOf e then z0p (ix xs n) λ_=>k (.dp s n 0)else none
    |_=>none
   |_=>none)else none
  |some (.array len e)=>match strB P e with
   |true=>z0p (inR len n) λ_=>zh8 len n (zlk P len e x k)
   |false=>(match n with
    |.ofNat n=>zlk P len e x k n
    |_=>none)
  |_=>none
 |_=>none
def chunks{T:Nat->Type}(c len:Nat)(cs:List (TV T)):List (TV T):=(List.range len).map λj=>.agg ((cs.drop (j * c)).take c)
def zxw{R:Type}(t:Nat)(x i:TV D.T)(k:TV D.T->Option R):Option R :=
 match i with
 |.int _ n=>match x with
  |.str s=>match P.underlying t with
   |some .string=>z0p (ix s n) λb=>k (.int .u8 b.toNat)
   |_=>none
  |.agg cs=>match P.underlying t with
   |some (.array len e)=>match D.ty e with
    |some τ=>if cs.length=len∧P.cellsOf e=1∧(P.underlying e).isSome∧(P.underlying e).any (λd => !TypeDesc.isAgg d)then (match z2i D (List.replicate cs.length τ) cs with
     |.ok _=>match zpg D τ cs with
      |.ok xs=>z0p (ix xs n) λy=>k (D.leaf τ y)
      |_=>none
     |_=>none)else if cs.length=len * P.cellsOf e∧stB P e=true then (match zpg D τ (chunks (P.cellsOf e) len cs)with
      |.ok xs=>z0p (ix xs n) λy=>k (D.tv τ y)
      |_=>none)else none
    |none=>none
   |_=>none
  |_=>none
 |_=>none
def zrf(d:Int):Option (TV D.T)->Option Int
 |none=>some d
 |some (.int _ x)=>some x
 |_=>none
def zy1{R:Type}(t:Nat)(x:TV D.T)(lo hi:Option (TV D.T))(k:TV D.T->Option R)(kf:Nat->Option R):Option R :=
 match x with
 |.str s=>match P.underlying t with
  |some .string=>match zrf D 0 lo,zrf D s.length hi with
   |some l,some h=>z0p (sub s l h) λy=>k (.str y)
   |_,_=>none
  |_=>none
 |.sl τ xs fl=>match P.underlying t with
  |some (.slice e)=>if D.len τ=P.cellsOf e∧(P.underlying e).isSome then (match zrf D 0 lo,zrf D xs.length hi with
    |some l,some h=>z0p (sub xs l h) λy=>k (.sl τ y (match hi with|none=>min fl 1|some _=>0))
    |_,_=>none)else none
  |_=>none
 |.own s=>kf s
 |_=>none
def oev(ts:TS D.T):Option Operand->Option (Option (TV D.T))
 |none=>some none
 |some x=>(ts.ev x).map some
def zv4{α:Type}(xs:List α)(a:Int):Option Unit:=if 0<=a∧a<=xs.length∧0<xs.length then some ()else none
def tCut{R:Type}(ts:TS D.T)(t:Nat)(x lo:TV D.T)(k:TV D.T->Option R)(kf:Option R):Option R :=
 match x,lo with
 |.own s,.int .i64 a=>match P.underlying t,fnd ts.o s with
  |some (.slice e),some (.acc _ τ xs true)=>if D.len τ=P.cellsOf e∧(P.underlying e).isSome then z0p (zv4 xs a) λ_=>k (.osl s a)else none
  |_,_=>none
 |_,_=>kf
def zsz{R:Type}(ts:TS D.T)(t:Nat)(x key:TV D.T)(ok:Bool)(k:TV D.T->Option R):Option R :=
 match P.underlying t,key with
 |some (.map kt e),.str s=>match P.underlying kt,zmf (T:=D.T) P e with
  |some .string,some z=>match x with
   |.map q=>match fnd ts.o q with
    |some (.mp _ τ es)=>match asD D τ z with
     |.ok z0=>(match ok with
      |true=>k (.tup [D.tv τ ((z1x es s).getD z0),.bool (z1x es s).isSome])
      |false=>k (D.tv τ ((z1x es s).getD z0)))
     |_=>none
    |_=>none
   |_=>none
  |_,_=>none
 |_,_=>none
def tP{R:Type}(ts:TS D.T)(op:Op)(k:TV D.T->Option R)(kf:Nat->Option R):Option R :=
 match op with
 |.pick c a b=>match ts.ev c,ts.ev a,ts.ev b with
  |some (.bool t),some x,some y=>pIf t (k x) (k y)
  |_,_,_=>none
 |.binOp o t x y _=>match ts.ev x,ts.ev y with
  |some x,some y=>tBin P o t x y k
  |_,_=>none
 |.indexAddr t x i=>match ts.ev x,ts.ev i with
  |some x,some i=>zfz P D ts t x i k
  |_,_=>none
 |.index t x i=>match ts.ev x,ts.ev i with
  |some x,some i=>zxw P D t x i k
  |_,_=>none
 |.lookup t x i ok=>match ts.ev x,ts.ev i with
  |some x,some i=>zsz P D ts t x i ok k
  |_,_=>none
 |.slice t x lo hi mx=>match ts.ev x,oev D ts lo,oev D ts hi,mx with
  |some x,some lo,some hi,none=>zy1 P D t x lo hi k kf
  |_,_,_,_=>none
 |.load t a=>match ts.ev a with
  |some (.dp s i off)=>zwk P D ts t s i off k
  |_=>(match tP1 P D ts (.load t a)with
   |.ok v=>k v
   |.frz s=>kf s
   |.bad=>none)
 |op=>match tP1 P D ts op with
  |.ok v=>k v
  |.frz s=>kf s
  |.bad=>none
mutual
def TV.ren(s s':Nat):TV D.T->TV D.T
 |.own j=>if j=s then .own s' else .own j
 |.dp j i off=>if j=s then .dp s' i off else .dp j i off
 |.agg cs=>.agg (TV.zcn s s' cs)
 |.tup cs=>.tup (TV.zcn s s' cs)
 |.bsl i cs=>.bsl i (TV.zcn s s' cs)
 |v=>v
def TV.zcn(s s':Nat):List (TV D.T)->List (TV D.T)
 |[]=>[]
 |v::vs=>TV.ren s s' v::TV.zcn s s' vs
end
mutual
def TV.frz(s:Nat)(m:Bool)(z:TV D.T):TV D.T->TV D.T
 |.own j=>match m with
  |true=>.own j
  |false=>if j=s then z else .own j
 |.map j=>match m with
  |true=>if j=s then z else .map j
  |false=>.map j
 |.agg cs=>.agg (TV.zwa s m z cs)
 |.tup cs=>.tup (TV.zwa s m z cs)
 |.bsl _ _=>.any
 |v=>v
def TV.zwa(s:Nat)(m:Bool)(z:TV D.T):List (TV D.T)->List (TV D.T)
 |[]=>[]
 |v::vs=>TV.frz s m z v::TV.zwa s m z vs
end
def TO.map(f:TV D.T->TV D.T):TO D.T->TO D.T
 |.cells cs=>.cells (cs.map f)
 |.bld ty (some s)=>match f (.own s)with
  |.own s'=>.bld ty (some s')
  |_=>.gone
 |.deep ty i xs (some (n,c,s))=>match f (.own s)with
  |.own s'=>.deep ty i xs (some (n,c,s'))
  |_=>.gone
 |o=>o
def gmap(f:TV D.T->TV D.T):Option Nat->Option Nat
 |none=>none
 |some s=>match f (.own s)with
  |.own s'=>some s'
  |_=>none
def TS.z3p(ts:TS D.T)(f:TV D.T->TV D.T):TS D.T :=
 {ts with t:=ts.t.map λp=>(p.1,f p.2),o:=ts.o.map λp=>(p.1,TO.map D f p.2),d:=ts.d.map λp=>(p.1,p.2.map f),g:=ts.g.map (gmap D f)}
def TS.freeze(ts:TS D.T)(s:Nat):Option (TS D.T) :=
 match ts.d,fnd ts.o s with
 |[],some (.acc _ t xs _)=>let ts':=ts.z3p D (TV.frz D s false (.sl t xs 0));some {ts' with o:=(s,.gone)::ts'.o}
 |[],some (.deep _ q xs none)=>let ts':=ts.z3p D (TV.frz D s false (.sl (.st q) xs 0));some {ts' with o:=(s,.gone)::ts'.o}
 |[],some (.mp _ t es)=>if t.flat then (let ts':=ts.z3p D (TV.frz D s true (.mc t es));some {ts' with o:=(s,.gone)::ts'.o})else none
 |_,_=>none
def TS.put(ts:TS D.T)(dst:Option Nat)(v:TV D.T):Option (TS D.T) :=
 match dst with
 |none=>some ts
 |some d=>if d<ts.nt then some {ts with t:=(d,v)::ts.t}else none
def TS.new(ts:TS D.T)(o:TO D.T):TS D.T:={ts with o:=(ts.nx,o)::ts.o,nx:=ts.nx+1}
def TS.set(ts:TS D.T)(s:Nat)(o:TO D.T):TS D.T:={ts with o:=(s,o)::ts.o}
def TS.zj9(ts:TS D.T)(s:Nat)(o:TO D.T):TS D.T:=((ts.new D o).set D s .gone).z3p D (TV.ren D s ts.nx)
def zsr{R:Type}(ts:TS D.T)(ty q:Nat)(xs:List (D.T q))(h:Option (Int×Nat×Nat))(s:Nat)(i:Int)(off:Nat)(x:TV D.T)(k:TV D.T->TS D.T->Option R)(kf:Nat->Option R):Option R :=
 match x with
 |.own c=>(match D.ow q off,Nat.blt off (D.fl q).length with
  |some _,true=>(match h with
   |none=>z0p (ix xs i) λ_=>k .any (ts.zj9 D s (.deep ty q xs (some (i,off,c))))
   |some p=>(match Nat.beq p.2.1 off with
    |true=>z0p (zr0 p.1 i) λ_=>z0p (ix xs i) λ_=>k .any (ts.zj9 D s (.deep ty q xs (some (i,off,c))))
    |false=>kf s))
  |_,_=>none)
 |.agg cells=>(match off with
  |0=>(match h with
   |none=>(match zk6 D q (D.fl q) cells 0 with
    |.ok r=>z0p (ix xs i) λ_=>k .any (ts.zj9 D s (.deep ty q (xs.set i.toNat (D.make q r.1)) (r.2.map λp=>(i,p.1,p.2))))
    |.frz s'=>kf s'
    |.bad=>none)
   |some _=>kf s)
  |_=>none)
 |_=>none
def zob{R:Type}(ts:TS D.T)(t:Nat)(a x:TV D.T)(k:TV D.T->TS D.T->Option R)(kf:Nat->Option R):Option R :=
 if x.kz9&&(P.info? t).isSome&&x.cells.length==P.cellsOf t then
  match a with
  |.ptr s off=>match fnd ts.o s with
   |some (.cells cs)=>if off+x.cells.length<=cs.length then k .any (ts.set D s (.cells (z6y cs off x.cells)))else none
   |_=>none
  |.ap s τ i y off=>match fnd ts.o s with
   |some (.acc ty τ' xs true)=>if τ=τ'∧τ ≠ .nat∧off+x.cells.length<=(D.tv τ y).cells.length then
     (match asD D τ' (match D.tv τ y with| .agg cs=>.agg (z6y cs off x.cells)|_=>x)with
     |.ok z=>let ts':=(ts.z3p D (TV.ren D s ts.nx)).new D (.acc ty τ' (xs.set i.toNat z) true);k .any (ts'.set D s .gone)
     |.frz s=>kf s
     |.bad=>none)else none
   |_=>none
  |.dp s i off=>match fnd ts.o s with
   |some (.deep ty q xs h)=>if (List.range x.cells.length).all (λa=>(D.ow q (off+a)).isNone)=true∧off+x.cells.length<=(D.fl q).length then
     z0p (ix xs i) λy=>(match z2i D (D.fl q) (z6y (D.leaves (D.fl q) (D.get q y)) off x.cells)with
      |.ok z=>k .any (((ts.new D (.deep ty q (xs.set i.toNat (D.make q z)) h)).set D s .gone).z3p D (TV.ren D s ts.nx))
      |.frz s'=>kf s'
      |.bad=>none)else zsr D ts ty q xs h s i off x k kf
   |_=>none
  |.bp s 1=>match fnd ts.o s,x with
   |some (.bld ty b),.own q=>k .any (ts.set D s (.bld ty (some q)))
   |_,_=>none
  |_=>none
 else none
def tSrc(ts:TS D.T)(τ:DTy):TV D.T->Option (List (τ.S D.T))
 |.nils=>some []
 |.sl t xs _=>z3v t τ xs
 |.own s=>match fnd ts.o s with
  |some (.acc _ t xs _)=>z3v t τ xs
  |_=>none
 |.str s=>match τ with
  |.int .u8=>some (zxn s)
  |_=>none
 |_=>none
def tDst(ts:TS D.T)(e:Nat)(τ:DTy):TV D.T->Option (List (τ.S D.T)×Bool×Option Nat)
 |.nils=>some ([],true,none)
 |.sl t xs 1=>if τ = .int .u8 then none else (z3v t τ xs).map λxs=>(xs,false,none)
 |.sl t xs 2=>if τ = .int .u8 then none else (z3v t τ xs).map λxs=>(xs,true,none)
 |.own s=>match fnd ts.o s with
  |some (.acc e' t xs w)=>if e'=e then (z3v t τ xs).map λxs=>(xs,w,some s)else none
  |_=>none
 |_=>none
def zsq{R:Type}(ts:TS D.T)(t u:Nat)(s x:TV D.T)(k:TV D.T->TS D.T->Option R):Option R :=
 match P.underlying t,P.underlying u with
 |some (.slice e),some du=>
  match P.info? e,D.ty e with
  |some i,some τ=>
   match i.zero with
   |some z=>if zcu du&&decide (0<i.size)&&decide (i.bytes<=524288)&&z.cells.size==i.size&&D.len τ==i.size then
     (match tSrc D ts τ x,tDst D ts e τ s with
     |some ys,some (xs,w,old)=>z0p (ext xs ys) λzs=>
      k (.own ts.nx) (match old with|none=>ts.new D (.acc e τ zs w)|some s=>(ts.new D (.acc e τ zs w)).set D s .gone)
     |_,_=>none)else none
   |none=>none
  |_,_=>none
 |_,_=>none
def znt{R:Type}(ts:TS D.T)(t u:Nat)(s:TV D.T)(q:Nat)(cells:List (TV D.T))(k:TV D.T->TS D.T->Option R)(kf:Nat->Option R):Option R :=
 match P.underlying t,P.underlying u with
 |some (.slice e),some du=>
  match P.info? e with
  |some i=>
   match i.zero with
   |some z=>if zcu du&&decide (0<i.size)&&decide (i.bytes<=524288)&&z.cells.size==i.size&&D.len (.st q)==i.size then
     (match zk6 D q (D.fl q) cells 0 with
     |.ok r=>(match s with
      |.nils=>z0p (ext [] [D.make q r.1]) λzs=>k (.own ts.nx) (ts.new D (.deep e q zs (r.2.map λp=>(0,p.1,p.2))))
      |.own s=>(match fnd ts.o s with
       |some (.deep e' q' xs h)=>if e'=e then (match h with
        |none=>(match z3v (.st q') (.st q) xs with
         |some xs=>z0p (ext xs [D.make q r.1]) λzs=>k (.own ts.nx) ((ts.new D (.deep e q zs (r.2.map λp=>((xs.length:Int),p.1,p.2)))).set D s .gone)
         |none=>none)
        |some _=>kf s)else none
       |_=>none)
      |_=>none)
     |.frz s'=>kf s'
     |.bad=>none)else none
   |none=>none
  |none=>none
 |_,_=>none
def y6i{R:Type}(ts:TS D.T)(t:Nat)(d s:TV D.T)(k:TV D.T->TS D.T->Option R):Option R :=
 match d,s with
 |.osl s a,.osl s' b=>if s=s' then (match P.underlying t,fnd ts.o s with
  |some (.slice e),some (.acc ty τ xs true)=>if D.len τ=P.cellsOf e∧(P.info? e).isSome then
    z0p (zgk xs a b) λys=>k .any (((ts.z3p D (TV.ren D s ts.nx)).new D (.acc ty τ ys true)).set D s .gone)else none
  |_,_=>none)else none
 |_,_=>none
def zni{R:Type}(ts:TS D.T)(t:Nat)(r:Option (TV D.T))(k:TV D.T->TS D.T->Option R):Option R :=
 match P.underlying t with
 |some (.map _ e)=>match D.ty e,r with
  |some τ,none=>k (.map ts.nx) (ts.new D (.mp t τ []))
  |some τ,some (.int _ _)=>k (.map ts.nx) (ts.new D (.mp t τ []))
  |_,_=>none
 |_=>none
def zln{R:Type}(ts:TS D.T)(t:Nat)(m key x:TV D.T)(k:TV D.T->TS D.T->Option R):Option R :=
 match P.underlying t,m,key with
 |some (.map kt _),.map q,.str s=>match P.underlying kt,fnd ts.o q with
  |some .string,some (.mp ty τ es)=>match asD D τ x with
   |.ok y=>k .any (ts.set D q (.mp ty τ (z4v es s y)))
   |_=>none
  |_,_=>none
 |_,_,_=>none
def y6a{R:Type}(ts:TS D.T)(x:TV D.T)(str:Bool)(k:TV D.T->TS D.T->Option R):Option R :=
 match x,str with
 |.ptr s 0,true=>match fnd ts.o s with
  |some (.siter l pos)=>pIf (decide (pos<l.length)) (k (.tup [.bool true,.int .i64 pos,.int .i32 (z43 l pos).1]) (ts.set D s (.siter l (pos+(z43 l pos).2)))) (k (.tup [.bool false]) ts)
  |_=>none
 |_,_=>none
def tOp{R:Type}(ts:TS D.T)(op:Op)(k:TV D.T->TS D.T->Option R)(kf:Nat->Option R):Option R :=
 match op with
 |.alloc t=>match zmf (T:=D.T) P t with
  |some z=>if z.kz9 then k (.ptr ts.nx 0) (ts.new D (.cells z.cells))else none
  |none=>none
 |.box _ x=>match ts.ev x with
  |some v=>if v.kz9 then k (.ptr ts.nx 0) (ts.new D (.cells v.cells))else none
  |none=>none
 |.store t a x=>match ts.ev a,ts.ev x with
  |some a,some x=>zob P D ts t a x k kf
  |_,_=>none
 |.makeMap t r=>match oev D ts r with
  |some r=>zni P D ts t r k
  |none=>none
 |.mapUpdate t m i x=>match ts.ev m,ts.ev i,ts.ev x with
  |some m,some i,some x=>zln P D ts t m i x k
  |_,_,_=>none
 |.insert t m i x=>match ts.ev m,ts.ev i,ts.ev x with
  |some m,some i,some x=>zln P D ts t m i x k
  |_,_,_=>none
 |.range t x=>match ts.ev x with
  |some (.str s)=>match P.underlying t with
   |some .string=>k (.ptr ts.nx 0) (ts.new D (.siter s 0))
   |_=>none
  |_=>none
 |.next i b=>match ts.ev i with
  |some i=>y6a D ts i b k
  |none=>none
 |op=>match op with
  |.call c=>match c.callee,c.args.toList,c.argTypes.toList with
   |.builtin .append,[s,x],[t,u]=>match ts.ev s,ts.ev x with
    |some s,some (.bsl q [.agg cells])=>znt P D ts t u s q cells k kf
    |some s,some x=>zsq P D ts t u s x k
    |_,_=>none
   |.builtin .copy,[d,s],[t,u]=>match ts.ev d,ts.ev s with
    |some d,some s=>y6i P D ts t d s k
    |_,_=>none
   |_,_,_=>tP P D ts op (λv=>k v ts) kf
  |op=>tP P D ts op (λv=>k v ts) kf
end
inductive Sh where
 |any
 |d (t:DTy)
 |own (k:Nat)
 |ptr (k off:Nat)
 |bp (k:Nat)
 |map (k:Nat)
 |mc (t:DTy)
 |nilp
 |nilf
 |nili
 |nils
 |fn (f:Nat) (a b:List Sh)
 |iface (t:Nat) (s:Sh)
 |agg (cs:List Sh)
 |tup (cs:List Sh)
 |ref (cs:List Sh) (off:Nat)
 |dp (k off:Nat)
 |ap (k:Nat) (t:DTy) (off:Nat)
inductive OSh where
 |cells (cs:List Sh)
 |st (i:Nat)
 |acc (ty:Nat) (t:DTy) (w:Bool)
 |siter
 |rig
 |mp (ty:Nat) (t:DTy)
 |mit (t:DTy)
 |bld (ty k:Nat)
 |deep (ty i:Nat)
 |deeph (ty i f k:Nat)
mutual
def Sh.tys:Sh->List DTy
 |.d t=>[t]
 |.mc t=>[.sl .str,.sl t]
 |.fn _ a b=>Sh.kzs a++Sh.kzs b
 |.iface _ s=>s.tys
 |.agg cs=>Sh.kzs cs
 |.tup cs=>Sh.kzs cs
 |.ref cs _=>Sh.kzs cs
 |.dp _ _=>[.int .i64]
 |.ap _ t _=>[.int .i64,t]
 |_=>[]
def Sh.kzs:List Sh->List DTy
 |[]=>[]
 |s::l=>s.tys++Sh.kzs l
end
end Go.Ab
namespace Go.Ab
open Go
set_option linter.unusedVariables false
set_option linter.unusedSimpArgs false
section
variable {α β : Type} {r : α}
theorem Ev.y5h{f g:Nat->Option α}(h:∀n,f (n+1)=g n):Ev f r↔Ev g r :=
 ⟨λ⟨n,hn⟩=>⟨n,λm hm=>by rw[<-h];exact hn _ (by omega)⟩,Ev.succ h⟩
theorem evS(f:Nat->Option α)(r:α){g:Nat->Option α}(h:∀n,f (n+1)=g n):Ev f r↔Ev g r:=Ev.y5h h
theorem Ev.zz1{a:Nat->Option β}{k:Nat->β->Option α}{y:β}(ha:Ev a y):Ev (λn=>(a n).bind (k n)) r↔Ev (λn=>k n y) r :=
 ⟨λh=>by
  obtain⟨n,hn⟩:=h;obtain⟨q,hq⟩:=ha;refine⟨max n q,λm hm =>?_⟩;have:=hn m (by omega);simp only[hq m (by omega)]at this
  exact this,Ev.bind ha⟩
theorem Ev.yz1{o:Option β}{k:Nat->β->Option α}{y:β}(ho:o=some y):Ev (λn=>o.bind (k n)) r↔Ev (λn=>k n y) r:=by subst ho;exact Iff.rfl
theorem Ev.zeg{y:β}{k:Nat->β->Option α}:Ev (λn=>(some y).bind (k n)) r↔Ev (λn=>k n y) r:=Iff.rfl
theorem Ev.zz3{a b:Nat->Option α}{c:Bool}(hc:c=true):Ev (λn=>pIf c (a n) (b n)) r↔Ev a r:=by subst hc;exact Iff.rfl
theorem Ev.kz1{a b:Nat->Option α}{c:Bool}(hc:c=false):Ev (λn=>pIf c (a n) (b n)) r↔Ev b r:=by subst hc;exact Iff.rfl
theorem Ev.pif{a b:Nat->Option α}{c:Bool}:Ev (λn=>pIf c (a n) (b n)) r↔if c=true then Ev a r else Ev b r:=by cases c <;> exact Iff.rfl
theorem Ev.yz2{x:α}:Ev (λ_=>some x) r↔x=r:=⟨λ⟨n,h⟩=>by have:=h n (Qbq _);injection this,λh=>⟨0,λ_ _=>by rw[h]⟩⟩
theorem Ev.pt{a b:Nat->Option α}{c:Bool}(hc:c=true)(h:Ev a r):Ev (λn=>pIf c (a n) (b n)) r:=(Ev.zz3 hc).2 h
theorem Ev.pf{a b:Nat->Option α}{c:Bool}(hc:c=false)(h:Ev b r):Ev (λn=>pIf c (a n) (b n)) r:=(Ev.kz1 hc).2 h
theorem Ev.pc{a b:Nat->Option α}{c:Bool}(ht:c=true->Ev a r)(hf:c=false->Ev b r):Ev (λn=>pIf c (a n) (b n)) r:=by
 cases c;exact hf rfl;exact ht rfl
end
theorem wI{x:Int}(h : -9223372036854775808<=x∧x<=9223372036854775807):IntKind.i64.wrap x=x:=IntWalk.i64_in _ h
theorem y8c{a b:Nat}:mxI (a:Int) (b:Int)=((max a b:Nat):Int):=by unfold mxI;split <;> omega
def HL.upd{T:Nat->Type}:(l:List DTy)->HL T l->Nat->(t:DTy)->t.S T->Option (HL T l)
 |[],_,_,_,_=>none
 |t::_,x,0,t',y=>(zi5 t' t y).map λy=>(y,x.2)
 |_::l,x,j+1,t',y=>(HL.upd l x.2 j t' y).map λz=>(x.1,z)
def HL.at{T:Nat->Type}:(l:List DTy)->HL T l->Nat->Option ((t:DTy)×t.S T)
 |[],_,_=>none
 |t::_,x,0=>some ⟨t,x.1⟩
 |_::l,x,j+1=>HL.at l x.2 j
section
variable {D : Dat}
def zsc{T:Nat->Type}:List (TO T)->Nat->List (Nat×TO T)
 |[],_=>[]
 |o::r,n=>(n,o)::zsc r (n+1)
def zhr{T:Nat->Type}(l:List Nat):List (Nat×TO T):=l.map λs=>(s,.gone)
def TS.z15(ts:TS D.T)(olds:List Nat)(tos:List (TO D.T)):TS D.T :=
 {ts with o:=zsc tos ts.nx++(zhr olds++ts.o),nx:=ts.nx+tos.length}
variable (D)
def Dat.z9v:DTy->Bool
 |.st q => !D.owns q
 |_=>true
def TS.fold{R:Type}(ts:TS D.T)(s:Nat)(k:TS D.T->Option R):Option R :=
 match fnd ts.o s with
 |some (.deep ty q xs (some (n,f,c)))=>(match D.ow q f with
  |some ty'=>(match fnd ts.o c with
   |some (.deep ty2 q' ys none)=>if ty'=ty2∧c≠s then z0p (ix xs n) λy=>(match HL.upd (D.fl q) (D.get q y) f (.sl (.st q')) ys with
     |some z=>k ((ts.z15 [s,c] [.deep ty q (xs.set n.toNat (D.make q z)) none]).z3p D (TV.ren D s ts.nx))
     |none=>none)else none
   |some (.acc ty2 t' ys true)=>if ty'=ty2∧c≠s∧D.z9v t'=true then z0p (ix xs n) λy=>(match HL.upd (D.fl q) (D.get q y) f (.sl t') ys with
     |some z=>k ((ts.z15 [s,c] [.deep ty q (xs.set n.toNat (D.make q z)) none]).z3p D (TV.ren D s ts.nx))
     |none=>none)else none
   |_=>none)
  |none=>none)
 |_=>none
def TS.opn{R:Type}(ts:TS D.T)(s:Nat)(n:Int)(f:Nat)(k:TV D.T->TS D.T->Option R):Option R :=
 match fnd ts.o s with
 |some (.deep ty q xs none)=>(match D.ow q f with
  |some ty'=>z0p (ix xs n) λy=>(match HL.at (D.fl q) (D.get q y) f with
   |some ⟨.sl (.st q'),ys⟩=>(match D.owns q' with
    |true=>k (.own (ts.nx+1)) ((ts.z15 [s] [.deep ty q xs (some (n,f,ts.nx+1)),.deep ty' q' ys none]).z3p D (TV.ren D s ts.nx))
    |false=>k (.own (ts.nx+1)) ((ts.z15 [s] [.deep ty q xs (some (n,f,ts.nx+1)),.acc ty' (.st q') ys true]).z3p D (TV.ren D s ts.nx)))
   |some ⟨.sl t',ys⟩=>(match D.z9v t' && !decide (t' = .int .u8)with
    |true=>k (.own (ts.nx+1)) ((ts.z15 [s] [.deep ty q xs (some (n,f,ts.nx+1)),.acc ty' t' ys true]).z3p D (TV.ren D s ts.nx))
    |false=>none)
   |_=>none)
  |none=>none)
 |_=>none
def TV.pl{T:Nat->Type}:TV T->Bool
 |.bool _| .int _ _| .str _| .nilp| .nils| .mapn| .nilf| .nili| .sl _ _ _=>true
 |_=>false
mutual
def TV.see(ts:TS D.T):TV D.T->TV D.T
 |.own s=>(match fnd ts.o s with
  |some (.acc _ t xs _)=>.sl t xs 0
  |some (.deep _ q xs none)=>.sl (.st q) xs 0
  |_=>.any)
 |.agg cs=>.agg (TV.y0k ts cs)
 |.fn f a b=>(match a.all TV.pl&&b.all TV.pl with
  |true=>.fn f a b
  |false=>.any)
 |.bool b=>.bool b
 |.int k n=>.int k n
 |.str s=>.str s
 |.nilp=>.nilp
 |.nils=>.nils
 |.mapn=>.mapn
 |.nilf=>.nilf
 |.nili=>.nili
 |.sl t xs fl=>.sl t xs 0
 |_=>.any
def TV.y0k(ts:TS D.T):List (TV D.T)->List (TV D.T)
 |[]=>[]
 |v::vs=>TV.see ts v::TV.y0k ts vs
end
mutual
def TV.y5s{T:Nat->Type}:TV T->List Nat
 |.own s=>[s]
 |.agg cs=>TV.zm9 cs
 |_=>[]
def TV.zm9{T:Nat->Type}:List (TV T)->List Nat
 |[]=>[]
 |v::vs=>TV.y5s v++TV.zm9 vs
end
def isHole{T:Nat->Type}(ts:TS T)(s:Nat):Bool:=match fnd ts.o s with
 |some (.deep _ _ _ (some _))=>true
 |_=>false
def y6h{T:Nat->Type}(ts:TS T)(s:Nat):Bool:=match fnd ts.o s with
 |some (.deep _ _ _ _)=>true
 |_=>false
def zlm{T:Nat->Type}:Nat->TS T->Nat->Nat
 |0,_,s=>s
 |f+1,ts,s=>match fnd ts.o s with
  |some (.deep _ _ _ (some p))=>(match isHole ts p.2.2 with
   |true=>zlm f ts p.2.2
   |false=>s)
  |_=>s
def zxs{R:Type}(P:Program)(ts:TS D.T)(t:Nat)(s:Nat)(i:Int)(off:Nat)(k:TV D.T->TS D.T->Option R)(kf:Nat->Option R):Option R :=
 match fnd ts.o s with
 |some (.deep _ q _ h)=>(match y2w D q off (szT P t)with
  |[]=>ze2 P D ts t s i off none λv=>k v ts
  |f::_=>(match h with
   |none=>ts.opn D s i f λv ts'=>ze2 P D ts t s i off (some (f,v)) λw=>k w ts'
   |some p=>(match Nat.beq p.2.1 f with
    |true=>z0p (zr0 p.1 i) λ_=>ze2 P D ts t s i off (some (f,.own p.2.2)) λw=>k w ts
    |false=>kf s)))
 |_=>none
end
end Go.Ab
namespace Go.Ab
open Go
open Go.RowKit
set_option linter.unusedVariables false
set_option linter.unusedSimpArgs false
def lnA:B8->B8
 |[]=>[]
 |c::r=>match c==10 with
  |true=>[c]
  |false=>c::lnA r
def lnB:B8->B8
 |[]=>[]
 |c::r=>match c==10 with
  |true=>r
  |false=>lnB r
def noS:B8->Bool
 |[]=>true
 |_::_=>false
theorem y6v{s:B8}:noS s=true↔s=[]:=by cases s <;> simp[noS]
theorem y6e:∀s:B8,(lnB s).length<=s.length
 |[]=>Qbq _
 |c::r=>by
  have:=y6e r;simp only[lnB];split <;> simp only[List.length_cons] <;> omega
theorem y8z{s:B8}(h:s≠[]):(lnB s).length<s.length:=by
 cases s with
 |nil=>exact(h rfl).elim
 |cons c r=>
  have:=y6e r;simp only[lnB];split <;> simp only[List.length_cons] <;> omega
section
def Obj.aside:Obj->Bool
 |.loop _=>true
 |.deferred _=>true
 |_=>false
variable {W W' : World} {g g' : Gh} {H H' : zz2} {l : Nat} {rc : Loop} {z : Obj}
theorem z8q{b:Nat}{o o':Obj}(hl:W.heap[l]? = some (.loop rc))(h:W.heap[b]? = some o)(ho:∀r,o ≠ .loop r):(W.putObj l o').heap[b]? = some o:=by
 refine(World.putObj_heap_other λe =>?_).trans h
 subst e;rw[hl]at h;injection h with h;exact ho _ h.symm
theorem z4n{b:Nat}{o o':Obj}(hl:W.heap[l]? = some z)(hz:Obj.aside z=true)(h:W.heap[b]? = some o)(ho:Obj.aside o=false):(W.putObj l o').heap[b]? = some o:=by
 refine(World.putObj_heap_other λe =>?_).trans h
 subst e;rw[hl]at h;injection h with h;subst h;rw[hz]at ho;cases ho
theorem zv8{a:Addr}{v:Value}{o':Obj}(hl:W.heap[l]? = some z)(hz:Obj.aside z=true)(h:W.cell? a=some v):(W.putObj l o').cell? a=some v:=by
 rw[<-h];unfold World.cell? at h ⊢;have:a.block≠l:=λe=>by rw[e,hl]at h;cases z <;> first|(cases hz;done)|(simp at h;done)
 rw[World.putObj_heap_other this]
theorem Rel.put{v:V}{c:Value}(h:Rel W g H v c)(hl:W.heap[l]? = some z)(hz:Obj.aside z=true)(o':Obj):Rel (W.putObj l o') g H v c:=by
 induction h with
 |any c=>exact .any c
 |bool b=>exact .bool b
 |int k n=>exact .int k n
 |str s=>exact .str s
 |nilp=>exact .nilp
 |ptr l i off hd=>exact .ptr l i off hd
 |ref cs off b o c hb hc h1 hr ih=>exact .ref cs off b o c hb (λj v hj=>zv8 hl hz (hc j v hj)) h1 ih
 |ap l i ver idx off a hd hv ha=>exact .ap l i ver idx off a hd hv ha
 |nils=>exact .nils
 |slnil sz full=>exact .slnil sz full
 |sle sz full a cap hf=>exact .sle sz full a cap hf
 |sl sz xs full b o cap c hb hz' hcap hf hs hc h1 hr ih=>exact .sl sz xs full b o cap c hb hz' hcap hf hs (λj x t v hj ht=>zv8 hl hz (hc j x t v hj ht)) h1 ih
 |hs l i ver off n full a m cap hd hv ha=>exact .hs l i ver off n full a m cap hd hv ha
 |mapn=>exact .mapn
 |map l i hd=>exact .map l i hd
 |mapc es b en clock hb hw he=>exact .mapc es b en clock hb (z4n hl hz hw rfl) he
 |fn f fs cs fs' cs' h1 h2 r1 r2 i1 i2=>exact .fn f fs cs fs' cs' h1 h2 i1 i2
 |nilf=>exact .nilf
 |iface t v c h ih=>exact .iface t v c ih
 |nili=>exact .nili
 |agg vs cs hn h1 hr ih=>exact .agg vs cs hn h1 ih
 |tup vs cs hn hr ih=>exact .tup vs cs hn ih
theorem z42.put{i j:Nat}{o:yz4}(h:z42 W g H i j o)(hl:W.heap[l]? = some z)(hz:Obj.aside z=true)(o':Obj):z42 (W.putObj l o') g H i j o:=by
 cases o with
 |cells cs=>
  obtain⟨c,ty,h1,h2,h3,h4⟩:=h
  exact⟨c,ty,z4n hl hz h1 rfl,h2,h3,λj v hj=>(h4 j v hj).put hl hz o'⟩
 |arr ver ty sz xs cp=>
  obtain⟨c,h1,h2,h3,h4,h5,h6,h7,h8,h9⟩:=h
  exact⟨c,z4n hl hz h1 rfl,h2,h3,h4,h5,h6,h7,h8,λj x t v hj ht=>(h9 j x t v hj ht).put hl hz o'⟩
 |map es=>
  obtain⟨en,clock,h1,h2,h3,h4,h5⟩:=h
  exact⟨en,clock,z4n hl hz h1 rfl,h2,h3,h4,λj p hj=>let ⟨e,a,b,c⟩:=h5 j p hj;⟨e,a,b.put hl hz o',c.put hl hz o'⟩⟩
 |siter s pos=>exact z4n hl hz h rfl
 |mit es vis=>
  obtain⟨en,clock,mb,h1,h2,h3,h4⟩:=h;exact⟨en,clock,mb,z4n hl hz h1 rfl,h2,z4n hl hz h3 rfl,h4⟩
theorem Good.put(h:Good W g H)(hl:W.heap[l]? = some z)(hz:Obj.aside z=true)(o':Obj):Good (W.putObj l o') g H :=
 ⟨h.dom,λl i o ho=>by rw[World.putObj_size];exact h.lt l i o ho,h.inj,h.fresh,λl i o ho=>(h.obj l i o ho).put hl hz o',
  ⟨λk cs hk=>let ⟨a,ty,q,b⟩:=h.glob.1 k cs hk;⟨a,ty,q,z4n hl hz b rfl⟩,λk hk=>let ⟨a,v,ty,q,b,c⟩:=h.glob.2 k hk;⟨a,v,ty,q,z4n hl hz b rfl,c⟩⟩,by rw[World.putObj_size];exact h.base⟩
theorem kz8.zvh{a:Act}{σ:St}(h:kz8 W a g σ)(hl:W.heap[l]? = some (.loop rc))(o':Obj):kz8 (W.putObj l o') a g σ :=
 ⟨h.good.put hl rfl o',h.size,λj v hj=>(h.tmps j v hj).put hl rfl o',h.dlen,λj f vs hj=>by
  rcases h.defs j f vs hj with ⟨h0,caps,as,h1,h2⟩|⟨h0,D,h1,h2,h3⟩
  exact .inl ⟨h0,caps,as,h1,h2.1,λj v hj=>(h2.2 j v hj).put hl rfl o'⟩
  exact .inr ⟨h0,D,h1,z8q hl h2 (λr=>by simp),h3⟩⟩
theorem Step.y0s(h:Step W g H W' g' H')(hl:W.heap.size<=l)(o:Obj):Step W g H (W'.putObj l o) g' H' :=
 ⟨h.os,h.tape,h.output,by rw[World.putObj_size];exact h.size,λb hb hn=>(World.putObj_heap_other (by omega)).trans (h.block b hb hn),h.own,h.dom,h.new,h.blk,h.arr,h.lv,h.base⟩
theorem Step.put2(h:Step W g H W' g' H')(hl:l<W.heap.size)(o:Obj):Step (W.putObj l o) g H (W'.putObj l o) g' H' :=
 ⟨h.os,h.tape,h.output,by rw[World.putObj_size,World.putObj_size];exact h.size,λb hb hn=>by
  rw[World.putObj_size]at hb;by_cases e:b=l;subst e;rw[World.putObj_heap_same hl,World.putObj_heap_same (Qbg hl h.size)]
  rw[World.putObj_heap_other e,World.putObj_heap_other e];exact h.block b hb hn,λb hb=>by rw[World.putObj_size];exact h.own b hb,h.dom,h.new,h.blk,h.arr,h.lv,h.base⟩
end
theorem zhg{W:World}{g:Gh}{H:zz2}(hG:Good W g H){b:Nat}{x:Loop}(h:W.heap[b]? = some (.loop x)):¬Own g H b:=λ⟨l,i,o,ho,hb⟩=>by
 have hr:=hG.obj l i o ho
 cases o with
 |cells cs=>obtain⟨c,ty,k,_⟩:=hr;rw[show g.blk l i=b from hb,h]at k;cases k
 |arr ver ty sz xs cp=>obtain⟨c,k,_⟩:=hr;rw[show g.ab l i=b from hb,h]at k;cases k
 |map es=>obtain⟨en,clock,k,_⟩:=hr;rw[show g.blk l i=b from hb,h]at k;cases k
 |siter s pos=>have k:W.heap[g.blk l i]? = _:=hr;rw[show g.blk l i=b from hb,h]at k;cases k
 |mit es vis=>obtain⟨en,clock,mb,k,_⟩:=hr;rw[show g.blk l i=b from hb,h]at k;cases k
section
variable {P : Program}
def zd1(P:Program)(lf:Nat):Prop :=
 (∀args w,(callFunc lf args).run P w = .ok (.enter lf args) w) ∧
 ∀(n l Bs:Nat) (K:B8->World->Prop) (Kx:World->Prop) (s:B8) (W:World),
  (∀r W,K r W->W.cell? ⟨Bs,0,none⟩=some (.string ⟨r.toArray⟩)∧W.frozen? ⟨Bs,0,none⟩=false) ->
  (∀r W W',K r W->Grow W W'->K r W') ->
  (∀r W,r≠[]->K r W->YieldAt Fence.wide (n-1) P l #[.string ⟨(lnA r).toArray⟩] (W.setCell ⟨Bs,0,none⟩ (.string ⟨(lnB r).toArray⟩)) λe W'=>
   (e = .returned (.bool true)∧K (lnB r) W')∨(e = .returned (.bool false)∧Kx W')) ->
  s.length<=4611686018427387904->K s W->CallsIn Fence.wide n P lf #[.func (.yield l) #[] #[],.pointer (some ⟨Bs,0,none⟩)] W λe W'=>(∃v,e = .returned v)∧(K [] W'∨Kx W')
def St.marked(σ:St):St:={σ with d:=(zn6,[])::σ.d}
def St.begin(τ:St)(p i:Nat)(r:B8):St:={τ with t:=τ.t.set p (.str (lnA r)),H:=τ.H.set τ.H.lv i (.cells [.str (lnB r)]),d:=[]}
def RQ(τ τs:St)(φ:zz7->St->Prop)(e:zz7)(σ':St):Prop :=
 (∀v,e ≠ .panic v)∧∀Wb gb W g a a3,Good Wb gb τs.H->(σ'.e0=τs.H.E∧Step Wb gb τs.H W g σ'.H)->kz8 Wb a gb {τ with H:=τs.H}->kz8 W a3 g σ' ->
  ∃σ'' g'',kz8 W a g'' σ''∧(σ''.e0=τs.H.E∧Step Wb gb τs.H W g'' σ''.H)∧φ e σ''
def zhs(P:Program)(lf:Nat)(go:Operand)(p:Nat)(assign body:Code)(Q:zz7->St->Prop):Nat->St->Prop
 |k,σ=>∃τ i r,zag σ τ∧τ.e0=τ.H.E∧τ.ev go = .fn lf [] [.ptr τ.H.lv i 0]∧τ.H.get τ.H.lv i=some (.cells [.str r])∧r.length<=4611686018427387904∧(r=[]->Q .normal τ.marked) ∧
  (r≠[]->r.length<=k->match k with
   |0=>False
   |k+1=>Sat P assign (τ.begin p i r) (zz7.then (λσ1=>Sat P body σ1 (RQ τ (τ.begin p i r) λe σ''=>match e with
    |.normal=>σ''.H.get τ.H.lv i=some (.cells [.str (lnB r)])∧zhs P lf go p assign body Q k σ''
    |e=>Q e σ''.marked)) λ_ _=>False))
theorem kz8.grow{W W':World}{a:Act}{g:Gh}{σ:St}(h:kz8 W a g σ)(k:Grow W W'):kz8 W' a g σ :=
 ⟨h.good.grow k,h.size,λj v hj=>(h.tmps j v hj).mono k.step,h.dlen,λj f vs hj=>(h.defs j f vs hj).mono h.good k.step⟩
theorem kz8.later{W W':World}{a:Act}{g g':Gh}{σ:St}{H':zz2}(h:kz8 W a g σ)(s:Step W g σ.H W' g' H')(hG:Good W' g' H'):kz8 W' a g' {σ with H:=H'} :=
 ⟨hG,h.size,λj v hj=>(h.tmps j v hj).mono s,h.dlen,λj f vs hj=>(h.defs j f vs hj).mono h.good s⟩
theorem kz8.mark{W:World}{a:Act}{g:Gh}{σ:St}(h:kz8 W a g σ){D:Nat}(hD:W.heap[D]? = some (.deferred (some [])))(hb:g.base<=D):kz8 W {a with defers:={target:=.collected D,args := #[]}::a.defers} g σ.marked :=
 ⟨h.good,h.size,h.tmps,by simp[St.marked,h.dlen],λj f vs hj=>by
  cases j with
  |zero=>simp[St.marked]at hj;obtain⟨rfl,rfl⟩:=hj;exact .inr ⟨rfl,D,rfl,hD,hb⟩
  |succ j=>exact h.defs j f vs (by simpa[St.marked]using hj)⟩
theorem y4p{W:World}{g:Gh}{H:zz2}(hG:Good W g H){l i:Nat}{r x:B8}(h:H.get l i=some (.cells [.str r])) :
  Step W g H (W.setCell ⟨g.blk l i,0,none⟩ (.string ⟨x.toArray⟩)) g (H.set l i (.cells [.str x]))∧Good (W.setCell ⟨g.blk l i,0,none⟩ (.string ⟨x.toArray⟩)) g (H.set l i (.cells [.str x])):=by
 obtain⟨c,ty,h1,h2,h3,h4⟩:=hG.obj _ _ _ h;refine z5y (o':=.cells [.str x]) hG h rfl rfl rfl rfl ?_ (λb hb hne =>?_) (λver ty sz xs cp e=>by cases e) λ_ =>?_
 show W.heap.size<=(W.heap.modify _ _).size;rw[Array.size_modify];exact Qbq _;show(W.heap.modify _ _)[b]? = _;rw[Array.getElem?_modify,Qbs (λe=>hne e.symm)]
 ·refine⟨c.setIfInBounds 0 (.string ⟨x.toArray⟩),ty,?_,by simpa using h2,λj v hj =>?_,λj v hj =>?_⟩;show(W.heap.modify _ _)[g.blk l i]? = _;rw[Array.getElem?_modify,Qbr rfl,h1];simp
  all_goals
   cases j with
   |succ j=>simp at hj
   |zero=>
    simp at hj;subst hj;have hsz:0<c.size:=by rw[h2];simp
    simp only[Qae,Array.getElem?_setIfInBounds,hsz,if_true,Option.getD_some]
    first|rfl|exact .str _
theorem zgw{W:World}{g:Gh}{H:zz2}(hG:Good W g H){l i:Nat}{r:B8}(h:H.get l i=some (.cells [.str r])):W.cell? ⟨g.blk l i,0,none⟩=some (.string ⟨r.toArray⟩)∧W.frozen? ⟨g.blk l i,0,none⟩=false:=by
 obtain⟨c,ty,h1,h2,h3,h4⟩:=hG.obj _ _ _ h;have hsz:0<c.size:=by rw[h2];simp
 have h5:=h4 0 _ rfl;refine⟨?_,?_⟩;unfold World.cell?;simp only[h1,Option.isSome_none,Bool.false_eq_true,if_false];rw[Qae,Qas hsz,Option.getD_some]at h5;rw[Qas hsz];generalize c[0]=z at h5;cases h5;rfl;unfold World.frozen?;simp only[h1];simp
theorem str_inj{r s:B8}(h:Value.string ⟨r.toArray⟩ = .string ⟨s.toArray⟩):r=s:=by
 injection h with h;injection h with h;injection h
theorem y88{lf:Nat}{go:Operand}{p:Nat}{assign body:Code}{σ:St}{Q:zz7->St->Prop}(hL:zd1 P lf)(hc:(calm assign&&calm body)=true)
  (h:∀k,zhs P lf go p assign body Q k σ):Sat P (.rangeFunc go #[p] assign body) σ Q:=λW0 g0 H0 W a g hB hS hG=>by
 intro rr hr n;have hr:rr=none:=hr.resolve_right (by simp[calm]);subst hr;simp only[Qag]at hc
 have read:∀{k σ W g},zhs P lf go p assign body Q k σ->(σ.e0=H0.E∧Step W0 g0 H0 W g σ.H)->kz8 W a g σ->∃(g1:Gh) (Bs:Nat) (r:B8),a.eval go = .func (.func lf) #[] #[.pointer (some ⟨Bs,0,none⟩)]∧W.cell? ⟨Bs,0,none⟩=some (.string ⟨r.toArray⟩)∧W.frozen? ⟨Bs,0,none⟩=false∧r.length<=4611686018427387904:=λ{k σ W g} hk hS hG=>by
  unfold zhs at hk;obtain⟨τ,i,r,hw,_,hev,hget,hcap,_⟩:=hk;obtain⟨g1,hS1,hG1⟩:=hw W0 g0 H0 W a g hB hS hG;have he:=hG1.ev go;rw[hev]at he;generalize a.eval go=cg at he
  cases he with
  |fn f fs cs fs' cs' n1 n2 r1 r2=>
   have e1:=r2 0 _ rfl;have hf:fs' = #[]:=Array.eq_empty_of_size_eq_zero n1
   have hcs:cs' = #[cs'.getD 0 undef]:=by
    obtain⟨l⟩:=cs'
    match l,n2 with
    |[x],_=>rfl
   generalize cs'.getD 0 undef=z at e1 hcs;cases e1;obtain⟨b1,b2⟩:=zgw hG1.good hget;exact⟨g1,_,r,by rw[hf,hcs],b1,b2,hcap⟩
 obtain⟨_,Bs,s0,hev0,hc0,hf0,hcap0⟩:=read (h 0) hS hG;refine wpIn_rangeFunc λfn hfn =>?_
 let rec':LoopState->Option Code->Loop:=λst pe=>{state:=st,pending:=pe,fn,tmps:=a.tmps,params := #[p],assign,body,defers:=W.heap.size}
 obtain⟨W1,hW1⟩:∃W1,(W.alloc (.deferred (some []))).alloc (.loop (rec' .ready none))=W1:=⟨_,rfl⟩
 have hL1:W1.heap[W.heap.size+1]? = some (.loop (rec' .ready none)):=by
  rw[<-hW1];have:=World.alloc_heap_new (W.alloc (.deferred (some []))) (.loop (rec' .ready none));rwa[World.size_alloc]at this
 have hK1:W1.heap[W.heap.size]? = some (.deferred (some [])):=by
  rw[<-hW1];exact(Below.heap_alloc _ _ _ (by simp)).trans (World.alloc_heap_new W _)
 have hgr:Grow W W1:=by rw[<-hW1];exact(Grow.alloc _ _).trans (Grow.alloc _ _)
 refine⟨W.heap.size+1,[{target:=.collected W.heap.size,args := #[]}],W1,{target:=.fn (.func lf) #[.pointer (some ⟨Bs,0,none⟩)],args := #[.func (.yield (W.heap.size+1)) #[] #[]]},W1,lf,
  #[.func (.yield (W.heap.size+1)) #[] #[]] ++ #[.pointer (some ⟨Bs,0,none⟩)],W1,?_,?_,?_,?_,λh=>(by cases h),?_⟩
 rw[<-hW1];exact run_enterLoop_outer _ _ _ _ _
 ·simp only[resolve,hev0];simp[go_sem]
 intro f' hf';trivial
 ·simp[invoke,go_sem,hL.1]
 have hlsz:W0.heap.size<=W.heap.size:=hS.2.size;have hbase:g0.base<=W.heap.size:=by rw[<-hS.2.base];exact hG.good.base
 let K:B8->World->Prop:=λ(r:B8) (W':World)=>∃k σ' g',r.length<=k∧zhs P lf go p assign body Q k σ'∧(σ'.e0=H0.E∧Step W0 g0 H0 W' g' σ'.H)∧kz8 W' a g' σ' ∧
  W'.heap[W.heap.size+1]? = some (.loop (rec' .ready none))∧W'.heap[W.heap.size]? = some (.deferred (some []))∧W'.cell? ⟨Bs,0,none⟩=some (.string ⟨r.toArray⟩)∧W'.frozen? ⟨Bs,0,none⟩=false
 let Kx:World->Prop:=λW'=>∃c e σ' g',(c = .ret∧e = .ret∨∃id,c = .exit id∧e = .exit id)∧Q e σ'.marked∧(σ'.e0=H0.E∧Step W0 g0 H0 W' g' σ'.H)∧kz8 W' a g' σ' ∧
  W'.heap[W.heap.size+1]? = some (.loop (rec' .done (some c)))∧W'.heap[W.heap.size]? = some (.deferred (some []))
 have hcon:=hL.2 (n-1) (W.heap.size+1) Bs K Kx s0 W1 (λr W' hk =>?cell) (λr W' W'' hk hg =>?grow) (λr W' hne hk =>?round) hcap0 ?start
 case cell=>obtain⟨_,_,_,_,_,_,_,_,_,q1,q2⟩:=hk;exact⟨q1,q2⟩
 case grow=>
  obtain⟨k,σ',g',q1,q2,q3,q4,q5,q6,q7,q8⟩:=hk
  have cg:∀{a:Addr}{v:Value},W'.cell? a=some v->a.block<W'.heap.size:=λ{a v} hc=>by
   unfold World.cell? at hc
   rcases Nat.lt_or_ge a.block W'.heap.size with x|x
   exact x;simp[Array.getElem?_eq_none x]at hc
  have hb:=hg.block Bs (cg q7);refine⟨k,σ',g',q1,q2,⟨q3.1,q3.2.trans hg.step⟩,q4.grow hg,(hg.block _ (Qbk.1 q5).1).trans q5,(hg.block _ (Qbk.1 q6).1).trans q6,?_,?_⟩;rw[<-q7];unfold World.cell?;simp only[hb];rw[<-q8];unfold World.frozen?;simp only[hb]
 case start=>
  refine⟨s0.length,σ,g,Qbq _,h _,⟨hS.1,hS.2.trans hgr.step⟩,hG.grow hgr,hL1,hK1,?_,?_⟩;have hlt:Bs<W.heap.size:=zlj hc0;rw[<-hc0];unfold World.cell?;simp only[hgr.block Bs hlt];have hlt:Bs<W.heap.size:=zlj hc0;rw[<-hf0];unfold World.frozen?;simp only[hgr.block Bs hlt]
 case round=>
  obtain⟨k,σ',g',hle,hR,hS',hG',hl,hD,hcell,hfroz⟩:=hk
  cases k with
  |zero=>exact(hne (Qao (by omega))).elim
  |succ k=>
  unfold zhs at hR;obtain⟨τ,i,r2,hw,he0,hev,hget,_,_,hrd⟩:=hR;obtain⟨g1,hS1,hG1⟩:=hw W0 g0 H0 W' a g' hB hS' hG'
  have hBs:g1.blk τ.H.lv i=Bs:=by
   have he:=hG1.ev go;rw[hev,hev0]at he
   cases he with
   |fn f fs cs fs' cs' n1 n2 r1 r2=>
    have e1:=r2 0 _ rfl;simp at e1;cases e1;rfl
  obtain⟨b1,b2⟩:=zgw hG1.good hget;rw[hBs,hcell]at b1;have hr2:r=r2:=str_inj (Option.some.inj b1);subst hr2;have hsat:=hrd hne hle;obtain⟨st1,gd1⟩:=y4p (x:=lnB r) hG1.good hget;rw[hBs]at st1 gd1
  have hlB:W.heap.size+1≠Bs:=λe=>by
   rw[<-e]at hcell;unfold World.cell? at hcell;simp only[hl]at hcell;cases hcell
  have hDB:W.heap.size≠Bs:=λe=>by
   rw[<-e]at hcell;unfold World.cell? at hcell;simp only[hD]at hcell;cases hcell
  have hl1:(W'.setCell ⟨Bs,0,none⟩ (.string ⟨(lnB r).toArray⟩)).heap[W.heap.size+1]? = some (.loop (rec' .ready none)):=(Below.heap_setCell _ _ _ _ hlB).trans hl;have hD1:(W'.setCell ⟨Bs,0,none⟩ (.string ⟨(lnB r).toArray⟩)).heap[W.heap.size]? = some (.deferred (some [])):=(Below.heap_setCell _ _ _ _ hDB).trans hD
  generalize hW1:W'.setCell ⟨Bs,0,none⟩ (.string ⟨(lnB r).toArray⟩)=W1 at st1 gd1 hl1 hD1 ⊢
  have hE:(τ.begin p i r).H.E=H0.E:=by
   rw[<-hS1.1,he0];show(τ.H.set τ.H.lv i _).E=_;unfold zz2.set;rw[Qbr rfl]
  have hGh:kz8 W1 a g1 {τ with H:=(τ.begin p i r).H}:=hG1.later st1 gd1
  have hGs:kz8 W1 {tmps:=a.tmps.setIfInBounds p (.string ⟨(lnA r).toArray⟩),defers:=[]} g1 (τ.begin p i r):=by
   have h0:kz8 W1 {tmps:=a.tmps,defers:=[]} g1 {τ with H:=(τ.begin p i r).H,d:=[]}:=⟨hGh.good,hGh.size,hGh.tmps,rfl,λj f vs hj=>by simp at hj⟩;exact h0.next (.refl _ _ _) gd1 (.str _) (some p)
  have hl1lt:W.heap.size+1<W1.heap.size:=(Qbk.1 hl1).1
  have hy:(Instr.yield (W.heap.size+1) #[.string ⟨(lnA r).toArray⟩]).run P W1 = .ok (.round (W.heap.size+1) fn (a.tmps.setIfInBounds p (.string ⟨(lnA r).toArray⟩)) assign body) W1:=by
   have:=run_yield (P:=P) (args := #[.string ⟨(lnA r).toArray⟩]) hl1 rfl;simpa[rec']using this
  refine⟨fn,_,assign,body,hy,roundIn_of_wpIn trivial ?_⟩
  let o2:Obj:=.loop (rec' .busy none)
  have a1:=hsat W1 g1 (τ.begin p i r).H W1 _ g1 ⟨gd1⟩ ⟨hS1.1.trans hE.symm,.refl _ _ _⟩ hGs (some (W.heap.size+1)) (.inr hc.1) (n-1-1);refine wpIn_mono (show assign.wpIn (Fence.wide.inRound (W.heap.size+1)) (n-1-1) P _ _ _ from a1) ?_
  rintro e am Wm ⟨gm,σ1,e',q1,q2,q3,q4⟩
  have hlm:Wm.heap[W.heap.size+1]? = some (.loop (rec' .ready none)):=(q2.2.block _ hl1lt (zhg gd1 hl1)).trans hl1
  cases q1 with
  |exit id=>exact q4
  |ret=>exact q4
  |panic v c hr=>exact q4
  |normal=>
  refine⟨Wm.putObj (W.heap.size+1) o2,run_beginRound hlm rfl,?_⟩;have a2:=q4 (W1.putObj (W.heap.size+1) o2) g1 (τ.begin p i r).H (Wm.putObj (W.heap.size+1) o2) am gm ⟨gd1.put hl1 rfl o2⟩ ⟨q2.1,q2.2.put2 hl1lt o2⟩ (q3.zvh hlm o2) (some (W.heap.size+1)) (.inr hc.2) (n-1-1);refine wpIn_mono (show body.wpIn (Fence.wide.inRound (W.heap.size+1)) (n-1-1) P _ _ _ from a2) ?_
  rintro e a3 W3 ⟨g3,σ3,e',k1,k2,k3,k4⟩
  have hl2:(W1.putObj (W.heap.size+1) o2).heap[W.heap.size+1]? = some (.loop (rec' .busy none)):=World.putObj_heap_same hl1lt;have hD2:(W1.putObj (W.heap.size+1) o2).heap[W.heap.size]? = some (.deferred (some [])):=(World.putObj_heap_other (by omega)).trans hD1;have gd2:=gd1.put hl1 rfl o2
  have hl3:W3.heap[W.heap.size+1]? = some (.loop (rec' .busy none)):=(k2.2.block _ (by rw[World.putObj_size];exact hl1lt) (zhg gd2 hl2)).trans hl2;have hD3:W3.heap[W.heap.size]? = some (.deferred (some [])):=(k2.2.block _ (by rw[World.putObj_size];omega) (zyn gd2 hD2)).trans hD2;obtain⟨σ'',g'',m1,m2,m3⟩:=k4.2 _ g1 W3 g3 a a3 gd2 k2 (hGh.zvh hl1 o2) k3
  have stp:Step W0 g0 H0 W3 g'' σ''.H:=((hS1.2.trans st1).y0s (by omega) o2).trans m2.2;have fin:∀jump:Option Code,(Instr.endRound (W.heap.size+1) jump).run P W3 = .ok (.bool jump.isNone) (W3.putObj (W.heap.size+1) (.loop (rec' (if jump.isNone then .ready else .done) jump))):=λjump=>run_endRound jump hl3
  have hlt3:W.heap.size+1<W3.heap.size:=(Qbk.1 hl3).1
  have out:∀(c:Code) (e:zz7),(c = .ret∧e = .ret∨∃id,c = .exit id∧e = .exit id)->Q e σ''.marked->∃v w',(Instr.endRound (W.heap.size+1) (some c)).run P W3 = .ok v w'∧((Ending.returned v = .returned (.bool true)∧K (lnB r) w')∨(Ending.returned v = .returned (.bool false)∧Kx w')):=λc e hce hq=>
   ⟨_,_,fin (some c),.inr ⟨rfl,c,e,σ'',g'',hce,hq,⟨m2.1.trans hE,stp.y0s (by omega) _⟩,m1.zvh hl3 _,World.putObj_heap_same hlt3,z8q hl3 hD3 λr=>by simp⟩⟩
  cases k1 with
  |normal=>
   obtain⟨y1,y2⟩:=m3;have hgd:=(m1.zvh hl3 (.loop (rec' .ready none))).good;have hbk:g''.blk τ.H.lv i=Bs:=by rw[<-hBs];exact m2.2.blk _ _ (hG1.good.dom _ _ _ hget)
   obtain⟨z1,z2⟩:=zgw hgd y1;rw[hbk]at z1 z2
   exact⟨_,_,fin none,.inl ⟨rfl,k,σ'',g'',by have:=y8z hne;omega,y2,⟨m2.1.trans hE,stp.y0s (by omega) _⟩,m1.zvh hl3 _,World.putObj_heap_same hlt3,z8q hl3 hD3 λr=>by simp,z1,z2⟩⟩
  |ret=>exact out .ret .ret (.inl ⟨rfl,rfl⟩) m3
  |exit id=>exact out (.exit id) (.exit id) (.inr ⟨id,rfl,rfl⟩) m3
  |panic v c hr=>exact(k4.1 v rfl).elim
 refine(show CallsIn Fence.wide (n-1) P lf _ W1 _ from hcon).mono ?_
 rintro e W2 ⟨⟨v,rfl⟩,hk|hk⟩
 obtain⟨k,σ',g',hle,hR,hS',hG',hl,hD,hcell,hfroz⟩:=hk;unfold zhs at hR;obtain⟨τ,i,r2,hw,he0,hev,hget,_,hq,_⟩:=hR;obtain⟨g1,hS1,hG1⟩:=hw W0 g0 H0 W2 a g' hB hS' hG'
 have hBs:g1.blk τ.H.lv i=Bs:=by
  have he:=hG1.ev go;rw[hev,hev0]at he
  cases he with
  |fn f fs cs fs' cs' n1 n2 r1 r2=>
   have e1:=r2 0 _ rfl;simp at e1;cases e1;rfl
 obtain⟨b1,b2⟩:=zgw hG1.good hget;rw[hBs,hcell]at b1;have hr2:[]=r2:=str_inj (Option.some.inj b1);refine⟨none,_,run_endLoop hl (by simp[rec']),?_⟩;exact⟨g1,τ.marked,.normal,.normal,⟨hS1.1,hS1.2.y0s (by omega) _⟩,(hG1.zvh hl _).mark (z8q hl hD λr=>by simp) (by rw[hS1.2.base];exact hbase),hq hr2.symm⟩;obtain⟨c,e,σ',g',hce,hq,hS',hG',hl,hD⟩:=hk;refine⟨some c,_,run_endLoop hl (by simp[rec']),?_⟩
 rcases hce with ⟨rfl,rfl⟩|⟨id,rfl,rfl⟩
 exact wpIn_ret ⟨g',σ'.marked,.ret,.ret,⟨hS'.1,hS'.2.y0s (by omega) _⟩,(hG'.zvh hl _).mark (z8q hl hD λr=>by simp) (by rw[hS'.2.base];exact hbase),hq⟩;exact wpIn_exit ⟨g',σ'.marked,_,.exit id,⟨hS'.1,hS'.2.y0s (by omega) _⟩,(hG'.zvh hl _).mark (z8q hl hD λr=>by simp) (by rw[hS'.2.base];exact hbase),hq⟩
end
end Go.Ab
namespace Go.Ab
open Go
set_option linter.unusedVariables false
noncomputable section
def mks{α β:Type}(es:List (α×β)):List α:=es.map Prod.fst
def mvs{α β:Type}(es:List (α×β)):List β:=es.map Prod.snd
theorem zzi{α β:Type}:∀es:List (α×β),List.zip (mks es) (mvs es)=es
 |[]=>rfl
 |(_,_)::l=>congrArg (_ :: ·) (zzi l)
inductive Src (T:Nat->Type) where
 |slot (s:Nat)
 |nil
abbrev yzw(T:Nat->Type):=List (Nat×Src T)
section
variable {T : Nat → Type}
def Src.y4g(s:Nat):Src T->Bool
 |.slot s'=>s'==s
 |_=>false
def z4s(n k s:Nat)(M:yzw T):Option (yzw T) :=
 match fnd M k with
 |some (.slot s')=>if s'=s then some M else none
 |some _=>none
 |none=>if k<n∧M.all (λp => !p.2.y4g s)then some ((k,.slot s)::M)else none
def ztn(n k:Nat)(M:yzw T):Option (yzw T) :=
 match fnd M k with
 |some .nil=>some M
 |some _=>none
 |none=>if k<n then some ((k,.nil)::M)else none
def frU(o:Option (yzw T)):FR (yzw T×Unit) :=
 match o with
 |some M=>.ok (M,())
 |none=>.bad
end
def OSh.tys:OSh->List DTy
 |.cells cs=>Sh.kzs cs
 |.st i=>[.st i]
 |.acc _ t _=>[.sl t]
 |.siter=>[.str,.nat]
 |.rig=>[]
 |.mp _ t=>[.sl .str,.sl t]
 |.mit t=>[.sl .str,.sl t]
 |.bld _ _=>[]
 |.deep _ i=>[.sl (.st i)]
 |.deeph _ i _ _=>[.sl (.st i),.int .i64]
def zzl:List OSh->List DTy
 |[]=>[]
 |o::l=>o.tys++zzl l
def y1y:List (Nat×Sh)->List DTy
 |[]=>[]
 |p::l=>p.2.tys++y1y l
section
variable (D : Dat)
mutual
def zkh(n:Nat):(sh:Sh)->TV D.T->yzw D.T->FR (yzw D.T×HL D.T sh.tys)
 |.any,_,M=>.ok (M,())
 |.d t,v,M=>match asD D t v with
  |.ok x=>.ok (M,(x,()))
  |.frz s=>.frz s
  |.bad=>.bad
 |.own k,.own s,M=>frU (z4s n k s M)
 |.own k,.nils,M=>frU (ztn n k M)
 |.ptr k off,.ptr s off',M=>if off=off' then frU (z4s n k s M)else .bad
 |.bp k,.bp s 0,M=>frU (z4s n k s M)
 |.map k,.map s,M=>frU (z4s n k s M)
 |.mc t,.mc t' es,M=>match zdb t' t es with
  |some es=>.ok (M,(mks es,(mvs es,())))
  |none=>.bad
 |.mc _,.map s,_=>.frz s
 |.nilp,.nilp,M=>.ok (M,())
 |.nilf,.nilf,M=>.ok (M,())
 |.nili,.nili,M=>.ok (M,())
 |.nils,.nils,M=>.ok (M,())
 |.fn f a b,.fn f' a' b',M=>if f=f' then (match zez n a a' M with
  |.ok (M,x)=>match zez n b b' M with
   |.ok (M,y)=>.ok (M,HL.app x y)
   |.frz s=>.frz s
   |.bad=>.bad
  |.frz s=>.frz s
  |.bad=>.bad)else .bad
 |.iface t s,.iface t' v,M=>if t=t' then zkh n s v M else .bad
 |.agg cs,.agg vs,M=>zez n cs vs M
 |.tup cs,.tup vs,M=>zez n cs vs M
 |.ref cs off,.ref vs off',M=>if off=off' then zez n cs vs M else .bad
 |.dp k off,.dp s i off',M=>if off=off' then (match z4s n k s M with
  |some M=>.ok (M,(i,()))
  |none=>.bad)else .bad
 |.ap k t off,.ap s t' i x off',M=>if off=off' then (match zi5 t' t x with
  |some x=>(match z4s n k s M with
   |some M=>.ok (M,(i,(x,())))
   |none=>.bad)
  |none=>.bad)else .bad
 |_,_,_=>.bad
def zez(n:Nat):(l:List Sh)->List (TV D.T)->yzw D.T->FR (yzw D.T×HL D.T (Sh.kzs l))
 |[],[],M=>.ok (M,())
 |sh::l,v::vs,M=>match zkh n sh v M with
  |.ok (M,x)=>match zez n l vs M with
   |.ok (M,y)=>.ok (M,HL.app x y)
   |.frz s=>.frz s
   |.bad=>.bad
  |.frz s=>.frz s
  |.bad=>.bad
 |_,_,_=>.bad
end
mutual
def z7q(m:Nat->Nat):(sh:Sh)->HL D.T sh.tys->TV D.T
 |.any,_=>.any
 |.d t,x=>D.tv t x.1
 |.own k,_=>.own (m k)
 |.ptr k off,_=>.ptr (m k) off
 |.bp k,_=>.bp (m k) 0
 |.map k,_=>.map (m k)
 |.mc t,x=>.mc t (List.zip x.1 x.2.1)
 |.nilp,_=>.nilp
 |.nilf,_=>.nilf
 |.nili,_=>.nili
 |.nils,_=>.nils
 |.fn f a b,x=>.fn f (yzu m a (HL.fst _ x)) (yzu m b (HL.snd _ x))
 |.iface t s,x=>.iface t (z7q m s x)
 |.agg cs,x=>.agg (yzu m cs x)
 |.tup cs,x=>.tup (yzu m cs x)
 |.ref cs off,x=>.ref (yzu m cs x) off
 |.dp k off,x=>.dp (m k) x.1 off
 |.ap k t off,x=>.ap (m k) t x.1 x.2.1 off
def yzu(m:Nat->Nat):(l:List Sh)->HL D.T (Sh.kzs l)->List (TV D.T)
 |[],_=>[]
 |sh::l,x=>z7q m sh (HL.fst _ x)::yzu m l (HL.snd _ x)
end
def zjd(n:Nat)(ts:TS D.T):(o:OSh)->Src D.T->yzw D.T->FR (yzw D.T×HL D.T o.tys)
 |.cells cs,.slot s,M=>match fnd ts.o s with
  |some (.cells vs)=>zez D n cs vs M
  |_=>.bad
 |.st i,.slot s,M=>match fnd ts.o s with
  |some (.cells vs)=>match z2i D (D.fl i) vs with
   |.ok x=>.ok (M,(D.make i x,()))
   |.frz s=>.frz s
   |.bad=>.bad
  |_=>.bad
 |.acc ty t w,.slot s,M=>match fnd ts.o s with
  |some (.acc ty' t' xs w')=>if ty=ty'∧(w=true->w'=true)then (match z3v t' t xs with|some xs=>.ok (M,(xs,()))|none=>.bad)else .bad
  |_=>.bad
 |.acc _ _ _,.nil,M=>.ok (M,([],()))
 |.siter,.slot s,M=>match fnd ts.o s with
  |some (.siter l pos)=>.ok (M,(l,(pos,())))
  |_=>.bad
 |.rig,.slot s,M=>match fnd ts.o s with
  |some .rig=>.ok (M,())
  |_=>.bad
 |.mp ty t,.slot s,M=>match fnd ts.o s with
  |some (.mp ty' t' es)=>if ty=ty' then (match zdb t' t es with|some es=>.ok (M,(mks es,(mvs es,())))|none=>.bad)else .bad
  |_=>.bad
 |.mit t,.slot s,M=>match fnd ts.o s with
  |some (.mit t' _ es)=>(match zdb t' t es with|some es=>.ok (M,(mks es,(mvs es,())))|none=>.bad)
  |_=>.bad
 |.bld ty k,.slot s,M=>match fnd ts.o s with
  |some (.bld ty' b)=>if ty=ty' then (match b with
   |some q=>frU (z4s n k q M)
   |none=>frU (ztn n k M))else .bad
  |_=>.bad
 |.deep ty q,.slot s,M=>match fnd ts.o s with
  |some (.deep ty' q' xs h)=>if ty=ty' then (match h with
   |none=>(match z3v (.st q') (.st q) xs with
    |some xs=>.ok (M,(xs,()))
    |none=>.bad)
   |some _=>.frz s)else .bad
  |_=>.bad
 |.deep _ _,.nil,M=>.ok (M,([],()))
 |.deeph ty q f k,.slot s,M=>match fnd ts.o s with
  |some (.deep ty' q' xs h)=>if ty=ty' then (match h with
   |some p=>if f=p.2.1 then (match z3v (.st q') (.st q) xs with
    |some xs=>(match z4s n k p.2.2 M with
     |some M=>.ok (M,(xs,(p.1,())))
     |none=>.bad)
    |none=>.bad)else .bad
   |none=>.bad)else .bad
  |_=>.bad
 |_,_,_=>.bad
def zm5(n:Nat)(ts:TS D.T):(os:List OSh)->Nat->yzw D.T->FR (yzw D.T×HL D.T (zzl os))
 |[],_,M=>.ok (M,())
 |o::os,k,M=>match fnd M k with
  |some src=>match zjd D n ts o src M with
   |.ok (M,x)=>match zm5 n ts os (k+1) M with
    |.ok (M,y)=>.ok (M,HL.app x y)
    |.frz s=>.frz s
    |.bad=>.bad
   |.frz s=>.frz s
   |.bad=>.bad
  |none=>.bad
def zw6(n:Nat)(ts:TS D.T):(l:List (Nat×Sh))->yzw D.T->FR (yzw D.T×HL D.T (y1y l))
 |[],M=>.ok (M,())
 |p::l,M=>match fnd ts.t p.1 with
  |some v=>match zkh D n p.2 v M with
   |.ok (M,x)=>match zw6 n ts l M with
    |.ok (M,y)=>.ok (M,HL.app x y)
    |.frz s=>.frz s
    |.bad=>.bad
   |.frz s=>.frz s
   |.bad=>.bad
  |none=>.bad
def z7n(m:Nat->Nat):(o:OSh)->HL D.T o.tys->TO D.T
 |.cells cs,x=>.cells (yzu D m cs x)
 |.st i,x=>.cells (D.leaves (D.fl i) (D.get i x.1))
 |.acc ty t w,x=>.acc ty t x.1 w
 |.siter,x=>.siter x.1 x.2.1
 |.rig,_=>.rig
 |.mp ty t,x=>.mp ty t (List.zip x.1 x.2.1)
 |.mit t,x=>.mit t none (List.zip x.1 x.2.1)
 |.bld ty k,_=>.bld ty (some (m k))
 |.deep ty q,x=>.deep ty q x.1 none
 |.deeph ty q f k,x=>.deep ty q x.1 (some (x.2.1,f,m k))
def z0c(m:Nat->Nat):(os:List OSh)->Nat->HL D.T (zzl os)->List (Nat×TO D.T)
 |[],_,_=>[]
 |o::os,k,x=>(m k,z7n D m o (HL.fst _ x))::z0c m os (k+1) (HL.snd _ x)
def zuo(m:Nat->Nat):(l:List (Nat×Sh))->HL D.T (y1y l)->List (Nat×TV D.T)
 |[],_=>[]
 |p::l,x=>(p.1,z7q D m p.2 (HL.fst _ x))::zuo m l (HL.snd _ x)
end
structure LSh where
 ts:List (Nat×Sh)
 os:List OSh
 pin:Nat
 nt:Nat
 gs:List Nat:=[]
def LSh.tys(l:LSh):List DTy:=y1y l.ts++zzl l.os
section
variable (D : Dat)
def LSh.bld(l:LSh)(x:HL D.T l.tys):TS D.T :=
 ⟨zuo D (λk=>k) l.ts (HL.fst _ x),z0c D (λk=>k) l.os 0 (HL.snd _ x),l.os.length,l.nt,[],l.gs.map some⟩
def pins{T:Nat->Type}:Nat->yzw T
 |0=>[]
 |n+1=>(n,.slot n)::pins n
def zwv{T:Nat->Type}(n:Nat):List Nat->List (Option Nat)->yzw T->Option (yzw T)
 |[],[],M=>some M
 |k::ks,some s::ss,M=>match z4s n k s M with
  |some M=>zwv n ks ss M
  |none=>none
 |_,_,_=>none
def LSh.fit(l:LSh)(ts:TS D.T):FR (HL D.T l.tys) :=
 if ts.nt=l.nt∧ts.d.isEmpty=true then (match zw6 D l.os.length ts l.ts (pins l.pin)with
  |.ok (M,x)=>match zwv l.os.length l.gs ts.g M with
   |some M=>(match zm5 D l.os.length ts l.os 0 M with
    |.ok (_,y)=>.ok (HL.app x y)
    |.frz s=>.frz s
    |.bad=>.bad)
   |none=>.bad
  |.frz s=>.frz s
  |.bad=>.bad)else .bad
def LSh.enter{R:Type}(l:LSh)(k:HL D.T l.tys->Option R):Nat->TS D.T->Option R
 |0,_=>none
 |f+1,ts=>match l.fit D ts with
  |.ok x=>k x
  |.frz s=>match isHole ts s with
   |true=>ts.fold D (zlm 9 ts s) λts'=>LSh.enter l k f ts'
   |false=>match ts.freeze D s with
    |some ts'=>LSh.enter l k f ts'
    |none=>none
  |.bad=>none
structure Ent where
 f:Nat
 p:Nat
 args:List Sh
 aos:List OSh
 outs:List Sh
 ros:List OSh
 pan:Sh
 pos:List OSh
 pure:Bool
 go:{R:Type}->HL D.T (Sh.kzs args++zzl aos)->(HL D.T (Sh.kzs outs++zzl ros)->Option R)->(HL D.T (pan.tys++zzl pos)->Option R)->Option R
 ren:List (Nat×Nat):=[]
 kc:List (Nat×Nat):=[]
def Ent.fit(e:Ent D)(vs:List (TV D.T))(ts:TS D.T):FR (yzw D.T×HL D.T (Sh.kzs e.args++zzl e.aos)) :=
 match zez D e.aos.length e.args vs []with
 |.ok (M,x)=>match zm5 D e.aos.length ts e.aos 0 M with
  |.ok (M,y)=>.ok (M,HL.app x y)
  |.frz s=>.frz s
  |.bad=>.bad
 |.frz s=>.frz s
 |.bad=>.bad
def z2x(M:yzw D.T)(p nx k:Nat):Nat :=
 if k<p then (match fnd M k with|some (.slot s)=>s|_=>0)else nx+(k-p)
def z78:yzw D.T->List (Nat×TO D.T)
 |[]=>[]
 |(_,.slot s)::l=>(s,.gone)::z78 l
 |(_,.nil)::l=>z78 l
def z3s(M:yzw D.T)(p:Nat)(ts:TS D.T)(os:List OSh)(y:HL D.T (zzl os)):TS D.T :=
 {ts with o:=z0c D (z2x D M p ts.nx) os 0 y++(z78 D M++ts.o),nx:=ts.nx+(os.length-p)}
def z4c(M:yzw D.T)(p nx:Nat):List (Nat×Nat)->TS D.T->TS D.T
 |[],ts=>ts
 |q::l,ts=>match fnd M q.1 with
  |some (.slot s)=>z4c M p nx l (ts.z3p D (TV.ren D s (z2x D M p nx q.2)))
  |_=>z4c M p nx l ts
def z2m(M:yzw D.T)(old:TS D.T):List (Nat×Nat)->TS D.T->TS D.T
 |[],ts=>ts
 |q::l,ts=>match fnd M q.1 with
  |some (.slot s)=>(match fnd old.o s,fnd ts.o s with
   |some (.cells olds),some (.cells news)=>(match olds[q.2]? with
    |some v=>z2m M old l (ts.set D s (.cells (news.set q.2 v)))
    |none=>z2m M old l ts)
   |_,_=>z2m M old l ts)
  |_=>z2m M old l ts
def zwh(M:yzw D.T)(ts:TS D.T):List (Nat×Nat)->Bool
 |[]=>true
 |q::l=>(match fnd M q.1 with
  |some (.slot s)=>(match fnd ts.o s with
   |some (.cells olds)=>(match olds[q.2]? with
    |some (.own _)=>zwh M ts l
    |_=>false)
   |_=>false)
  |_=>false)
def altK{R:Type}(pan:Sh)(k kp:TV D.T->TS D.T->Option R):TV D.T->TS D.T->Option R:=match pan with
 |.tup _=>k
 |_=>kp
def zje:List (TV D.T)->TV D.T
 |[v]=>v
 |vs=>.tup vs
def y8h{R:Type}(f:Nat)(vs:List (TV D.T))(ts:TS D.T)(k kp:TV D.T->TS D.T->Option R)(kf:Nat->Option R):Option R:=none
def zcf{R:Type}(f:Nat)(vs:List (TV D.T))(ts:TS D.T)(k kp:TV D.T->TS D.T->Option R)(kf:Nat->Option R):List (Ent D)->Option R
 |[]=>y8h D f vs ts k kp kf
 |e::r=>match Nat.beq e.f f with
  |false=>zcf f vs ts k kp kf r
  |true=>match e.fit D vs ts with
   |.bad=>zcf f vs ts k kp kf r
   |.frz s=>kf s
   |.ok (M,x)=>if zwh D M ts e.kc=true∧e.p<=e.aos.length∧e.p<=e.ros.length∧e.p<=e.pos.length∧(List.range e.p).all (λk=>match fnd M k with|some (.slot _)=>true|_=>false)then
      e.go x (λy=>k (zje D (yzu D (z2x D M e.p ts.nx) e.outs (HL.fst _ y))) (z4c D M e.p ts.nx e.ren (z2m D M ts e.kc (z3s D M e.p ts e.ros (HL.snd _ y)))))
       (λy=>altK D e.pan k kp (z7q D (z2x D M e.p ts.nx) e.pan (HL.fst _ y)) (z3s D M e.p ts e.pos (HL.snd _ y)))
      else none
end
def Sh.y5u:Sh->Bool
 |.d t=>t.flat
 |_=>false
def pBor{R:Type}(D:Dat)(f:Nat)(vs:List (TV D.T))(ts:TS D.T)(k:TV D.T->TS D.T->Option R)(kf:Option R):Option R:=kf
def y1k{R:Type}(D:Dat)(f:Nat)(vs:List (TV D.T))(ts:TS D.T)(k:TV D.T->TS D.T->Option R)(kf:Option R):List (Ent D)->Option R
 |[]=>pBor D f vs ts k kf
 |e::r=>match Nat.beq e.f f&&e.pure&&e.outs.all Sh.y5u with
  |true=>(match e.fit D (TV.y0k D ts vs) ts with
   |.ok mx=>e.go mx.2 (λy=>k (zje D (yzu D (λk=>k) e.outs (HL.fst _ y))) ts) (λ_=>none)
   |_=>y1k D f vs ts k kf r)
  |false=>y1k D f vs ts k kf r
section
variable (P : Program) (D : Dat) (tbl : List (Ent D))
def znb{R:Type}(op:Op)(k kp:TV D.T->TS D.T->Option R):Nat->TS D.T->Option R
 |0,_=>none
 |fuel+1,ts=>
  let kf:=λs=>match isHole ts s with
   |true=>ts.fold D (zlm 9 ts s) λts'=>znb op k kp fuel ts'
   |false=>(match ts.freeze D s with
    |some ts'=>znb op k kp fuel ts'
    |none=>none)
  match op with
  |.load t a=>(match ts.ev a with
   |some (.dp s i off)=>zxs D P ts t s i off k kf
   |_=>tOp P D ts op k kf)
  |.call c=>match c.callee with
   |.value x=>match ts.ev x,ts.evs c.args.toList with
    |some (.fn f a b),some vs=>(match (TV.zm9 (a++vs++b)).find? (y6h ts)with
     |some _=>(match (TV.zm9 (a++vs++b)).find? (isHole ts)with
      |some s=>kf s
      |none=>y1k D f (a++vs++b) ts k (zcf D f (a++vs++b) ts k kp kf tbl) tbl)
     |none=>zcf D f (a++vs++b) ts k kp kf tbl)
    |_,_=>none
   |_=>tOp P D ts op k kf
  |.panic x=>match ts.ev x with
   |some (.iface t v)=>kp (.iface t v) ts
   |_=>none
  |.defer c=>match c.callee with
   |.value x=>match ts.ev x,ts.evs c.args.toList with
    |some (.fn f a b),some vs=>(match Nat.blt f 4000000000 with
     |true=>k .any {ts with d:=(f,a++vs++b)::ts.d}
     |false=>none)
    |_,_=>none
   |_=>none
  |.binOp o t x y _=>match ts.ev x,ts.ev y with
   |some .nili,some .nili=>(match isC x||isC y,P.underlying t with
    |true,some (.interface _)=>(match o with
     |.eql=>k (.bool true) ts
     |.neq=>k (.bool false) ts
     |_=>none)
    |_,_=>none)
   |_,_=>tOp P D ts op k kf
  |.alloc t=>match zeroV P t,P.info? t with
   |some (.agg [.nilp,.nils]),some i=>(match y8d P t&&Nat.beq i.size 2 with
    |true=>k (.bp ts.nx 0) (ts.new D (.bld t none))
    |false=>tOp P D ts op k kf)
   |_,_=>tOp P D ts op k kf
  |.convert s d x=>match ts.ev x with
   |some (.sl (.int .u8) xs _)=>(match P.underlying s,P.underlying d with
    |some (.slice e),some .string=>(match P.underlying e with
     |some (.int .u8)=>z0p (zy2 xs) λy=>k (.str y) ts
     |_=>none)
    |_,_=>none)
   |_=>tOp P D ts op k kf
  |.range t x=>match ts.ev x with
   |some (.map q)=>kf q
   |some (.mc τ es)=>(match P.underlying t with
    |some (.map _ _)=>k (.ptr ts.nx 0) (ts.new D (.mit τ none es))
    |_=>none)
   |_=>tOp P D ts op k kf
  |.next x false=>match ts.ev x with
   |some (.ptr s 0)=>(match fnd ts.o s with
    |some (.mit τ _ es)=>zjw es (λa y r=>k (.tup [.bool true,.str a,D.leaf τ y]) (ts.set D s (.mit τ (some (a,y)) r))) (k (.tup [.bool false]) ts)
    |_=>none)
   |_=>none
  |.entry x=>match ts.ev x with
   |some (.ptr s 0)=>(match fnd ts.o s with
    |some (.mit τ (some p) _)=>k (.tup [.str p.1,D.leaf τ p.2]) ts
    |_=>none)
   |_=>none
  |_=>tOp P D ts op k kf
def zmp{R:Type}(all:List Oper)(o:Oper)(ts:TS D.T)(go skip:TS D.T->Option R):Option R :=
 match o.guard with
 |none=>go ts
 |some (j,want)=>match (all[j]?).bind (·.dst)with
  |none=>none
  |some d=>match fnd ts.t d with
   |some (.bool b)=>pIf b (if want then go {ts with t:=(d,.bool true)::ts.t}else skip {ts with t:=(d,.bool true)::ts.t})
     (if want then skip {ts with t:=(d,.bool false)::ts.t}else go {ts with t:=(d,.bool false)::ts.t})
   |some (.tup _)=>skip ts
   |_=>none
def cpB(all:List Oper)(o:Oper):Option (Nat×Operand×Operand):=match o.op,o.dst with
 |.slice t x (some lo) none none,some d=>if all.any (λq=>match q.op with
  |.call c=>(match c.callee with
   |.builtin .copy=>c.args.toList.any λa=>(match a with
    |.tmp i=>Nat.beq i d
    |_=>false)
   |_=>false)
  |_=>false)then some (t,x,lo)else none
 |_,_=>none
def tPC{R:Type}(all:List Oper)(o:Oper)(k:TV D.T->Option R)(ts:TS D.T):Option R:=match cpB all o with
 |some (t,x,lo)=>(match ts.ev x,ts.ev lo with
  |some x,some lo=>tCut P D ts t x lo k (tP P D ts o.op k λ_=>none)
  |_,_=>none)
 |none=>tP P D ts o.op k λ_=>none
def litB(all:List Oper)(o:Oper):Bool:=match o.op,o.dst with
 |.buildSlice _ _ _,some d=>all.any λq=>(match q.op with
  |.assign (.tmp i)=>Nat.beq i d
  |_=>false)
 |_,_=>false
def tLit{R:Type}(ts:TS D.T)(op:Op)(k:TV D.T->TS D.T->Option R)(kf:Option R):Option R:=match op with
 |.buildSlice t len ps=>(match P.underlying t,zg5 ts ps.toList with
  |some (.slice e),some qs=>(match z5n P D t len qs with
   |.ok (.sl τ xs 1)=>k (.own ts.nx) (ts.new D (.acc e τ xs true))
   |_=>kf)
  |_,_=>kf)
 |_=>kf
def y6n(o:Oper):Bool:=match o.op,o.dst with
 |.buildSlice _ _ _,some d=>tbl.any λe=>Nat.beq e.f 5000000000&&Nat.beq e.p d
 |_,_=>false
def y4j{R:Type}(all:List Oper)(o:Oper)(k kp:TV D.T->TS D.T->Option R)(ts:TS D.T):Option R:=match cpB all o with
 |some (t,x,lo)=>(match ts.ev x,ts.ev lo with
  |some x,some lo=>tCut P D ts t x lo (λv=>k v ts) (znb P D tbl o.op k kp 9 ts)
  |_,_=>none)
 |none=>match litB all o||y6n D tbl o with
  |true=>tLit P D ts o.op k (znb P D tbl o.op k kp 9 ts)
  |false=>znb P D tbl o.op k kp 9 ts
def zgr{R:Type}(all:List Oper)(kn:TS D.T->Option R)(kp:TV D.T->TS D.T->Option R):List Oper->TS D.T->Option R
 |[],ts=>kn ts
 |o::rest,ts=>pOp o<|zmp D all o ts
  (λts=>y4j P D tbl all o (λv ts=>match ts.put D o.dst v with|some ts=>zgr all kn kp rest ts|none=>none) kp ts)
  (λts=>match ts.put D o.dst (.tup [])with|some ts=>zgr all kn kp rest ts|none=>none)
def zyr(f:Nat):Bool:=tbl.any λe=>Nat.beq e.f f&&e.pure
def y90(op:Op):Bool :=
 match op with
 |.alloc _| .box _ _| .store _ _ _| .makeMap _ _| .mapUpdate _ _ _ _| .insert _ _ _ _| .range _ _| .next _ _| .panic _=>false
 |.call c=>match c.callee with
  |.builtin .len| .builtin .min| .builtin .max=>true
  |.value (.func f)=>zyr D tbl f
  |_=>false
 |_=>true
def z58{R:Type}(all:List Oper)(kn:TS D.T->Option R):List Oper->TS D.T->Option R
 |[],ts=>kn ts
 |o::rest,ts=>pOp o<|zmp D all o ts
  (λts=>match o.op with
   |.call c=>match c.callee with
    |.value x=>match ts.ev x,ts.evs c.args.toList with
     |some (.fn f a b),some vs=>(match (TV.zm9 (a++vs++b)).find? (y6h ts)with
      |some _=>y1k D f (a++vs++b) ts (λv _=>match ts.put D o.dst v with|some ts=>z58 all kn rest ts|none=>none) (zcf D f (a++vs++b) ts (λv _=>match ts.put D o.dst v with|some ts=>z58 all kn rest ts|none=>none) (λ_ _=>none) (λ_=>none) (tbl.filter (·.pure))) tbl
      |none=>zcf D f (a++vs++b) ts (λv _=>match ts.put D o.dst v with|some ts=>z58 all kn rest ts|none=>none) (λ_ _=>none) (λ_=>none) (tbl.filter (·.pure)))
     |_,_=>none
    |_=>tP P D ts o.op (λv=>match ts.put D o.dst v with|some ts=>z58 all kn rest ts|none=>none) (λ_=>none)
   |_=>tPC P D all o (λv=>match ts.put D o.dst v with|some ts=>z58 all kn rest ts|none=>none) ts)
  (λts=>match ts.put D o.dst (.tup [])with|some ts=>z58 all kn rest ts|none=>none)
def zyy:List Oper->Nat
 |[]=>0
 |o::r=>if y90 D tbl o.op then zyy r+1 else 0
def TV.zxr{T:Nat->Type}:TV T->Bool
 |.any| .own _| .osl _ _| .map _| .bp _ _=>false
 |_=>true
def TV.isOwn{T:Nat->Type}:TV T->Bool
 |.own _=>true
 |_=>false
def zzm{T:Nat->Type}(ts:TS T)(s:Nat):Bool:=match fnd ts.o s with
 |some .gone=>false
 |some _=>true
 |none=>false
def zsd{T:Nat->Type}(ts:TS T)(x:Operand):Option (List Nat):=match ts.ev x with
 |some v=>(match v.zxr with
  |true=>some []
  |false=>none)
 |none=>none
def ownO{T:Nat->Type}(ts:TS T)(x:Operand):Option (List Nat):=match ts.ev x with
 |some (.own s)=>(match fnd ts.o s with
  |some (.acc _ _ _ _)=>some [s]
  |some (.deep _ _ _ _)=>some [s]
  |_=>none)
 |_=>zsd ts x
abbrev Rd:=Nat×Option Nat
def whole(l:List Nat):List Rd:=l.map λs=>(s,none)
def rdK{T:Nat->Type}(P:Program)(ts:TS T)(op:Op):Option (List Rd):=match op with
 |.load t a=>(match ts.ev a with
  |some (.ptr s off)=>(match Nat.beq (P.cellsOf t) 1 with
   |true=>some [(s,some off)]
   |false=>some [(s,none)])
  |some (.ap s _ _ _ _)=>some [(s,none)]
  |some (.dp s _ _)=>(match fnd ts.o s with
   |some (.deep _ _ _ _)=>some [(s,none)]
   |_=>none)
  |some (.ref _ _)=>some []
  |_=>none)
 |.indexAddr _ x _=>(ownO ts x).map whole
 |.slice _ x _ _ _=>(zsd ts x).map whole
 |.call c=>(match c.callee,c.args.toList with
  |.builtin .len,[x]=>(ownO ts x).map whole
  |.builtin .min,_=>some []
  |.builtin .max,_=>some []
  |_,_=>none)
 |.makeSlice _ _ _| .move _| .assign _| .pick _ _ _| .nilCheck _| .binOp _ _ _ _ _| .unOp _ _ _| .convert _ _ _| .makeInterface _ _| .makeFunc _ _ _| .fieldAddr _ _ _| .field _ _ _| .index _ _ _| .typeAssert _ _ _ _| .extract _ _| .build _ _| .buildSlice _ _ _=>some []
 |_=>none
def appW{T:Nat->Type}(nx:Nat):Option (TV T)->Option (TV T)->Option Nat
 |_,some (.bsl _ _)=>none
 |some (.sl _ _ _),_=>some nx
 |some .nils,_=>some nx
 |_,_=>none
def wrK{T:Nat->Type}(ts:TS T)(op:Op):Option Nat:=match op with
 |.alloc _=>some ts.nx
 |.box _ _=>some ts.nx
 |.store _ a _=>(match ts.ev a with
  |some (.ptr s _)=>some s
  |_=>none)
 |.call c=>(match c.callee,c.args.toList with
  |.builtin .append,[s,x]=>appW ts.nx (ts.ev s) (ts.ev x)
  |_,_=>none)
 |_=>none
def zr5{T:Nat->Type}(ts:TS T)(op:Op):Option Nat:=match wrK ts op with
 |some s=>some s
 |none=>(match op with
  |.store _ a _=>(match ts.ev a with
   |some (.ap s _ _ _ _)=>(match zzm ts s with
    |true=>some s
    |false=>none)
   |_=>none)
  |.call c=>(match c.callee,c.args.toList with
   |.builtin .append,[s,_]=>(match ts.ev s with
    |some (.own s)=>(match fnd ts.o s with
     |some (.acc _ _ _ _)=>some s
     |some (.deep _ _ _ _)=>some s
     |_=>none)
    |some .nils=>some ts.nx
    |_=>none)
   |_,_=>none)
  |_=>none)
abbrev Rds:=List (Nat×Option (List Rd))
abbrev Wrs:=List (Nat×Option Nat)
def zmk(all:List Oper)(i:Nat)(w:Option Nat)(rds:Rds):Bool:=rds.all λp=>zkj all p.1 i||(match p.2,w with
 |some [],_=>true
 |some R,some s=>R.all λq => !Nat.beq q.1 s
 |_,_=>false)
def zc6(all:List Oper)(i:Nat)(wrs:Wrs):Bool:=wrs.all λp=>zkj all p.1 i
def rdOk(all:List Oper)(i:Nat)(R:List Rd)(wrs:Wrs):Bool:=wrs.all λp=>zkj all p.1 i||(match R,p.2 with
 |[],_=>true
 |R,some s=>R.all λq => !Nat.beq q.1 s
 |_,_=>false)
def zvv(w:Option Nat)(rds:Rds):Rds:=match w with
 |some _=>rds
 |none=>rds.map λp=>(p.1,match p.2 with|some []=>some []|_=>none)
def y8o{T:Nat->Type}(ts:TS T)(rds:Rds):Rds:=rds.map λp=>(p.1,match p.2 with
 |some R=>(match R.all (λq=>zzm ts q.1)with
  |true=>some R
  |false=>none)
 |none=>none)
def zlu(w:Option Nat)(wrs:Wrs):Wrs:=match w with
 |some _=>wrs
 |none=>wrs.map λp=>(p.1,none)
def y7y(all:List Oper)(i:Nat)(rest:List Nat):Bool:=rest.all λj=>zkj all i j
def y4z(all:List Oper)(done:List Nat)(j:Nat):Bool := !done.any (Nat.beq j)&&(match all[j]? with
 |some o=>o.after.toList.all λe => !Region.binds .any e||done.any (Nat.beq e.on)
 |none=>false)
def sched(all:List Oper)(quiet:Op->Bool):Nat->List Nat->List Nat
 |0,_=>[]
 |n+1,done=>match (List.range all.length).find? λj=>y4z all done j&&(match all[j]? with|some o=>quiet o.op|none=>false)with
  |some j=>j::sched all quiet n (j::done)
  |none=>match (List.range all.length).find? λj=>y4z all done j with
   |some j=>j::sched all quiet n (j::done)
   |none=>[]
def y8j(kc:List (Nat×Nat))(k:Nat)(c:Option Nat):Bool:=match c with
 |some c=>kc.any λz=>Nat.beq z.1 k&&Nat.beq z.2 c
 |none=>false
def y4l{T:Nat->Type}(all:List Oper)(i:Nat)(rds:Rds)(kc:List (Nat×Nat))(M:yzw T):Bool:=rds.all λp=>zkj all p.1 i||(match p.2 with
 |some R=>R.all λq=>M.all λm=>match m.2 with
  |.slot s => !Nat.beq q.1 s||y8j kc m.1 q.2
  |.nil=>true
 |none=>false)
def kcC(e:Ent D):List (Nat×Nat):=match e.pan with
 |.tup _=>[]
 |_=>e.kc
def y61{R:Type}(f:Nat)(vs:List (TV D.T))(ts:TS D.T)(chk:List (Nat×Nat)->yzw D.T->Bool)(k kp:TV D.T->TS D.T->Option R):Option R:=none
def zin{R:Type}(f:Nat)(vs:List (TV D.T))(ts:TS D.T)(chk:List (Nat×Nat)->yzw D.T->Bool)(k kp:TV D.T->TS D.T->Option R):List (Ent D)->Option R
 |[]=>y61 D f vs ts chk k kp
 |e::r=>match Nat.beq e.f f with
  |false=>zin f vs ts chk k kp r
  |true=>match e.fit D vs ts with
   |.ok (M,x)=>if chk (kcC D e) M=true∧zwh D M ts e.kc=true∧e.p<=e.aos.length∧e.p<=e.ros.length∧e.p<=e.pos.length∧(List.range e.p).all (λk=>match fnd M k with|some (.slot _)=>true|_=>false)then
      e.go x (λy=>k (zje D (yzu D (z2x D M e.p ts.nx) e.outs (HL.fst _ y))) (z4c D M e.p ts.nx e.ren (z2m D M ts e.kc (z3s D M e.p ts e.ros (HL.snd _ y)))))
       (λy=>altK D e.pan k kp (z7q D (z2x D M e.p ts.nx) e.pan (HL.fst _ y)) (z3s D M e.p ts e.pos (HL.snd _ y)))
      else none
   |_=>zin f vs ts chk k kp r
def y8e(τ:DTy):TV D.T->Option (List (τ.S D.T))
 |.nils=>some []
 |.sl t xs _=>z3v t τ xs
 |_=>none
def fl12(n:Nat):Bool:=match n with
 |1=>true
 |2=>true
 |_=>false
def y6t{R:Type}(t u:Nat)(s x:TV D.T)(k:TV D.T->Option R):Option R :=
 match s with
 |.sl t' xs fl=>(match fl12 fl with
  |true=>(match P.underlying t,P.underlying u with
   |some (.slice e),some du=>(match P.info? e,D.ty e with
    |some i,some τ=>(match i.zero with
     |some z=>(match zcu du&&decide (0<i.size)&&decide (i.bytes<=524288)&&z.cells.size==i.size&&Nat.beq (D.len τ) i.size with
      |true=>(match z3v t' τ xs,y8e D τ x with
       |some xs,some ys=>z0p (ext xs ys) λzs=>k (.sl τ zs 0)
       |_,_=>none)
      |false=>none)
     |none=>none)
    |_,_=>none)
   |_,_=>none)
  |false=>none)
 |_=>none
def appB(op:Op):Bool:=match op with
 |.call c=>(match c.callee with
  |.builtin .append=>true
  |_=>false)
 |_=>false
def y8v(all:List Oper)(i:Nat):Bool:=(List.range all.length).any λj => !Nat.beq i j&&(match all[j]? with|some o=>y1u o.op|none=>false) && !zkj all i j && !zkj all j i
def isAl(op:Op):Bool:=match op with
 |.alloc _=>true
 |_=>false
def twoB(all:List Oper)(i b:Nat)(rest:List Nat):Bool:=match all[i]?,all[b]? with
 |some o,some ob=>isAl o.op&&isAl ob.op&&o.guard.isNone&&ob.guard.isNone && !zkj all i b&&(match o.dst,ob.dst with
  |some d,some e => !Nat.beq d e
  |_,_=>false)&&rest.all λj=>zkj all i j&&zkj all b j
 |_,_=>false
def zqw(t:TypeId)(d:Option Nat)(ts:TS D.T):Option (TS D.T):=match zmf (T:=D.T) P t with
 |some z=>(match z.kz9 with
  |true=>TS.put D (ts.new D (.cells z.cells)) d (.ptr ts.nx 0)
  |false=>none)
 |none=>none
def zt3{R:Type}(all:List Oper)(self:TS D.T->Option R)(i b:Nat)(rds:Rds)(wrs:Wrs)(ts:TS D.T):Option R:=match all[i]?,all[b]? with
 |some o,some ob=>(match o.op,ob.op with
  |.alloc t,.alloc u=>(match zmk all i (some ts.nx) rds&&zc6 all i wrs&&zmk all b (some ts.nx) rds&&zc6 all b wrs,zqw P D t o.dst ts with
   |true,some ts1=>(match zqw P D u ob.dst ts1 with
    |some ts2=>self ts2
    |none=>none)
   |_,_=>none)
  |_,_=>none)
 |_,_=>none
def zlp{R:Type}(all:List Oper)(kp:TV D.T->TS D.T->Option R)(self:Rds->Wrs->TS D.T->Option R)(i:Nat)(rest:List Nat)(rds:Rds)(wrs:Wrs)(ts:TS D.T):Option R:=match all[i]? with
 |none=>none
 |some o=>pOp o<|zmp D all o ts
  (λts=>match y1u o.op with
   |true=>(match appB o.op&&y8v all i with
    |true=>(match o.op with
     |.call c=>(match c.callee,c.args.toList,c.argTypes.toList with
      |.builtin .append,[s,x],[t,u]=>(match ts.ev s,ts.ev x with
       |some s,some x=>y6t P D t u s x (λv=>match ts.put D o.dst v with
        |some ts2=>self ((i,some [])::rds) wrs ts2
        |none=>none)
       |_,_=>none)
      |_,_,_=>none)
     |_=>none)
    |false=>(match zmk all i (zr5 ts o.op) rds&&zc6 all i wrs with
    |true=>tOp P D ts o.op (λv ts'=>match ts'.put D o.dst v with
     |some ts2=>self (zvv (wrK ts o.op) rds) ((i,wrK ts o.op)::zlu (wrK ts o.op) wrs) ts2
     |none=>none) (λ_=>none)
    |false=>none))
   |false=>(match y6n D tbl o with
    |true=>(match zmk all i (some ts.nx) rds&&zc6 all i wrs with
     |true=>tLit P D ts o.op (λv ts'=>match ts'.put D o.dst v with
      |some ts2=>self rds ((i,some ts.nx)::wrs) ts2
      |none=>none) none
     |false=>none)
    |false=>match rdK P ts o.op with
    |some R=>(match rdOk all i R wrs&&R.all (λq=>zzm ts q.1)with
     |true=>tP P D ts o.op (λv=>match ts.put D o.dst v with
      |some ts2=>self ((i,some R)::rds) wrs ts2
      |none=>none) (λ_=>none)
     |false=>none)
    |none=>(match o.op with
     |.call c=>(match c.callee with
      |.value x=>(match ts.ev x,ts.evs c.args.toList with
       |some (.fn f a b),some vs=>(match zyr D tbl f && !vs.any TV.isOwn with
        |true=>zcf D f (a++vs++b) ts (λv _=>match ts.put D o.dst v with
         |some ts2=>self ((i,some [])::rds) wrs ts2
         |none=>none) (λ_ _=>none) (λ_=>none) (tbl.filter (·.pure))
        |false=>(match y7y all i rest&&zc6 all i wrs with
         |true=>zin D f (a++vs++b) ts (y4l all i rds) (λv ts'=>match ts'.put D o.dst v with
          |some ts2=>self (y8o ts2 rds) ((i,none)::zlu none wrs) ts2
          |none=>none) (λz ts'=>kp z {ts' with t:=[]}) (tbl.filter λe => !e.pure)
         |false=>none))
       |_,_=>none)
      |_=>none)
     |_=>none)))
  (λts=>match ts.put D o.dst (.tup [])with
   |some ts2=>self ((i,some [])::rds) wrs ts2
   |none=>none)
def z5a{R:Type}(all:List Oper)(kn:TS D.T->Option R)(kp:TV D.T->TS D.T->Option R):List Nat->Rds->Wrs->TS D.T->Option R
 |[],_,_,ts=>kn ts
 |[i],rds,wrs,ts=>zlp P D tbl all kp (λ_ _ ts=>kn ts) i [] rds wrs ts
 |i::b::rest,rds,wrs,ts=>match twoB all i b rest with
  |true=>zt3 P D all (z5a all kn kp rest rds wrs) i b rds wrs ts
  |false=>zlp P D tbl all kp (z5a all kn kp (b::rest)) i (b::rest) rds wrs ts
def dry1(ts:TS D.T)(op:Op):Option (TV D.T):=match op with
 |.move x=>ts.ev x
 |.assign x=>ts.ev x
 |.nilCheck x=>ts.ev x
 |.fieldAddr _ _ _=>tP P D ts op some (λ_=>none)
 |.binOp .add _ _ _ _=>tP P D ts op some (λ_=>none)
 |.binOp .sub _ _ _ _=>tP P D ts op some (λ_=>none)
 |.indexAddr _ x i=>(match ts.ev x,ts.ev i with
  |some (.own s),some (.int _ n)=>some (.dp s n 0)
  |_,_=>none)
 |.load _ a=>(match ts.ev a with
  |some (.ptr s off)=>(match fnd ts.o s with
   |some (.cells cs)=>cs[off]?
   |_=>none)
  |some (.dp s _ off)=>(match fnd ts.o s with
   |some (.deep _ _ _ (some p))=>(match Nat.beq p.2.1 off with
    |true=>some (.own p.2.2)
    |false=>none)
   |_=>none)
  |_=>none)
 |_=>none
def dryO:List Oper->TS D.T->Option (Nat×Int×Nat)
 |[],_=>none
 |o::r,ts=>
  let go:=λ_:Unit=>match ts.put D o.dst (match o.guard with
   |some _=>.any
   |none=>(match dry1 P D ts o.op with
    |some v=>v
    |none=>.any))with
   |some ts'=>dryO r ts'
   |none=>none
  match o.op with
  |.load _ a=>(match ts.ev a with
   |some (.dp s i off)=>(match fnd ts.o s with
    |some (.deep _ q _ none)=>(match D.ow q off with
     |some _=>some (s,i,off)
     |none=>go ())
    |_=>go ())
   |_=>go ())
  |_=>go ()
def zum{R:Type}(ops:List Oper):Nat->TS D.T->(TS D.T->Option R)->Option R
 |0,ts,k=>k ts
 |n+1,ts,k=>match dryO P D ops ts with
  |some q=>ts.opn D q.1 q.2.1 q.2.2 λ_ ts=>zum ops n ts k
  |none=>k ts
def y8u(ops:Array Oper):Nat:=match ops.toList.any (y6n D tbl)with
 |true=>0
 |false=>zyy D tbl ops.toList
def ziv{R:Type}(ops:Array Oper)(draw:Bool)(ts:TS D.T)(kn:TS D.T->Option R)(kp:TV D.T->TS D.T->Option R):Option R :=
 if draw then
  let n:=y8u D tbl ops
  if P.follows .mixedOrders then
   (if n=ops.size then (if Region.lexB .any ops then z58 P D tbl ops.toList kn ops.toList ts else none)
   else (if Region.lexTailB .any ops n then (zum P D ops.toList 4 ts λts=>z58 P D tbl ops.toList (λts=>zgr P D tbl ops.toList kn kp (ops.toList.drop n) ts) (ops.toList.take n) ts)
   else (let l:=sched ops.toList (λop => !y1u op&&(match op with| .call c=>(match c.callee with| .value (.func f)=>zyr D tbl f| .value _=>false|_=>true)|_=>true)) ops.size []
    if zgg .any ops l (Array.replicate ops.size false)&&Nat.beq l.length ops.size&&(List.range ops.size).all (λj=>l.any (Nat.beq j))then (zum P D ops.toList 4 ts λts=>z5a P D tbl ops.toList kn kp l [] [] ts)else none)))
  else none
 else zgr P D tbl ops.toList kn kp ops.toList ts
end
inductive AC where
 |skip
 |region (id:Nat) (ops:Array Oper) (draw:Bool)
 |seq (a b:AC)
 |cond (c:Operand) (a b:AC)
 |block (id:Nat) (a:AC)
 |loop (a:AC)
 |exit (id:Nat)
 |ret
 |lab (l:Nat) (a:AC)
 |rng (lf:Nat) (g:Operand) (p:Nat) (a b:AC)
 |other (c:Code)
def AC.erase:AC->Code
 |.skip=>.skip
 |.region id ops d=>.region id ops d
 |.seq a b=>.seq a.erase b.erase
 |.cond c a b=>.cond c a.erase b.erase
 |.block id a=>.block id a.erase
 |.loop a=>.loop a.erase
 |.exit id=>.exit id
 |.ret=>.ret
 |.lab _ a=>a.erase
 |.rng _ g p a b=>.rangeFunc g #[p] a.erase b.erase
 |.other c=>c
def AC.labels:AC->List Nat
 |.seq a b=>a.labels++b.labels
 |.cond _ a b=>a.labels++b.labels
 |.block _ a=>a.labels
 |.loop a=>a.labels
 |.lab l a=>l::a.labels
 |_=>[]
def AC.zbp:AC->List Nat
 |.seq a b=>a.zbp++b.zbp
 |.cond _ a b=>a.zbp++b.zbp
 |.block _ a=>a.zbp
 |.loop a=>a.zbp
 |.lab _ a=>a.zbp
 |.rng lf _ _ _ _=>[lf]
 |_=>[]
def zi2(f:List (Nat×Nat))(i:Nat)(a:AC):AC :=
 match fnd f i with
 |some l=>.lab l a
 |none=>a
def ann(f:List (Nat×Nat)):Code->Nat->AC×Nat
 |.skip,i=>(zi2 f i .skip,i+1)
 |.region id ops d,i=>(zi2 f i (.region id ops d),i+1)
 |.seq a b,i=>
  let x:=ann f a (i+1)
  let y:=ann f b x.2
  (zi2 f i (.seq x.1 y.1),y.2)
 |.cond c a b,i=>
  let x:=ann f a (i+1)
  let y:=ann f b x.2
  (zi2 f i (.cond c x.1 y.1),y.2)
 |.block id a,i=>
  let x:=ann f a (i+1)
  (zi2 f i (.block id x.1),x.2)
 |.loop a,i=>
  let x:=ann f a (i+1)
  (zi2 f i (.loop x.1),x.2)
 |.exit id,i=>(zi2 f i (.exit id),i+1)
 |.ret,i=>(zi2 f i .ret,i+1)
 |.rangeFunc g ps a b,i=>match fnd f (i+1000000),ps with
  |some lf,⟨[p]⟩ =>
   let x:=ann f a (i+1)
   let y:=ann f b x.2
   (zi2 f i (.rng lf g p x.1 y.1),y.2)
  |_,_=>(.other (.rangeFunc g ps a b),i+1)
 |c,i=>(.other c,i+1)
structure Lb(D:Dat)(R:Type) where
 sh:LSh
 go:HL D.T sh.tys->Option R
def jump(D:Dat){R:Type}(z16:List (Nat×Lb D R))(l:Nat)(ts:TS D.T):Option R :=
 match fnd z16 l with
 |some lb=>lb.sh.enter D lb.go 9 ts
 |none=>none
structure Ks(T:Nat->Type)(R:Type) where
 kn:TS T->Option R
 kx:List (Nat×(TS T->Option R))
 kr:TS T->Option R
 kp:TV T->TS T->Option R
section
variable (P : Program) (D : Dat) (tbl : List (Ent D)) {R : Type} (J : Nat → TS D.T → Option R)
def y2t(ts:TS D.T):List (TV D.T)->Option Nat
 |[]=>none
 |v::l=>match v with
  |.own k=>(match fnd ts.o k with
   |some (.acc _ _ _ _)=>some k
   |_=>y2t ts l)
  |_=>y2t ts l
def usedB(r:List Oper)(dst:Option Nat):Bool:=match dst with
 |some d=>r.any λq=>(match q.op with
  |.call c=>(match c.callee with
   |.value (.func f)=>zyr D tbl f&&c.args.toList.any λa=>(match a with
    |.tmp i=>Nat.beq i d
    |_=>false)
   |_=>false)
  |_=>false)
 |none=>false
def preS:List Oper->TS D.T->Option Nat
 |[],_=>none
 |o::r,ts=>match o.op with
  |.slice _ x _ _ _=>(match ts.ev x with
   |some (.own k)=>(match fnd ts.o k with
    |some (.deep _ _ _ _)=>some k
    |_=>none)
   |_=>none)
  |.buildSlice _ _ _=>preS r ts
  |.fieldAddr _ _ _| .load _ _| .move _=>(match tP1 P D ts o.op with
   |.ok v=>(match zww D ts (match v with| .agg cells=>cells|_=>[])with
    |some k=>some k
    |none=>(match y2t D ts (match usedB D tbl r o.dst with|true=>(match v with| .agg cells=>cells|_=>[])|false=>[])with
     |some k=>some k
     |none=>(match ts.put D o.dst v with
      |some ts=>preS r ts
      |none=>none)))
   |_=>none)
  |.call _=>preS r ts
  |_=>none
def pre1(ops:Array Oper)(ts:TS D.T):TS D.T:=match preS P D tbl ops.toList ts with
 |some s=>(match ts.freeze D s with
  |some ts'=>ts'
  |none=>ts)
 |none=>ts
def pre(ops:Array Oper)(d:Bool)(ts:TS D.T):TS D.T:=match d with
 |true=>pre1 P D tbl ops (pre1 P D tbl ops ts)
 |false=>ts
def unrl{α R:Type}(f:α->(α->Option R)->Option R):Nat->α->Option R
 |0,_=>none
 |n+1,x=>f x (unrl f n)
def run:AC->TS D.T->Ks D.T R->Option R
 |.skip,ts,K=>K.kn ts
 |.region _ ops d,ts,K=>ziv P D tbl ops d (pre P D tbl ops d ts) K.kn K.kp
 |.seq a b,ts,K=>run a ts {K with kn:=λts=>run b ts K}
 |.cond c a b,ts,K=>match ts.ev c with
  |some (.bool v)=>(match c with
   |.tmp t=>pIf v (run a {ts with t:=(t,.bool true)::ts.t} K) (run b {ts with t:=(t,.bool false)::ts.t} K)
   |_=>pIf v (run a ts K) (run b ts K))
  |_=>none
 |.block id a,ts,K=>run a ts {K with kx:=(id,K.kn)::K.kx}
 |.loop a,ts,K=>match a.labels with
  |[]=>unrl (λts k=>run a ts {K with kn:=k}) 9 ts
  |_::_=>none
 |.exit id,ts,K=>match fnd K.kx id with
  |some k=>k ts
  |none=>none
 |.ret,ts,K=>K.kr ts
 |.lab l _,ts,_=>J l ts
 |.rng _ _ _ _ _,_,_=>none
 |.other _,_,_=>none
def y8k(a b:B8):Option Unit:=if a=b then some ()else none
def capS(s:B8):Option Unit:=if s.length<=4611686018427387904 then some ()else none
def TS.back{T:Nat->Type}(ts ts':TS T):TS T:={ts' with t:=ts.t,d:=ts.d,nt:=ts.nt}
def TS.mark{T:Nat->Type}(ts:TS T):TS T:={ts with d:=(4000000000,[])::ts.d}
def zx2(l lf:Nat)(g:Operand)(p:Nat)(a b:AC)(K:Ks D.T R)(ts:TS D.T):Option R :=
 match a.labels,b.labels,calm a.erase&&calm b.erase with
 |[],[],true=>(match ts.ev g with
  |some (.fn f [] [.ptr k 0])=>(match Nat.beq f lf,fnd ts.o k with
   |true,some (.cells [.str r])=>z0p (capS r) λ_=>pIf (noS r) (K.kn ts.mark) (match TS.put D {ts with d:=[]} (some p) (.str (lnA r))with
    |some ts1=>run P D tbl J a (ts1.set D k (.cells [.str (lnB r)])) ⟨λts2=>run P D tbl J b ts2 ⟨λts'=>(match fnd ts'.o k with
      |some (.cells [.str r'])=>z0p (y8k r' (lnB r)) λ_=>J l (ts.back ts')
      |_=>none),K.kx.map (λq=>(q.1,λts'=>q.2 (ts.back ts').mark)),λts'=>K.kr (ts.back ts').mark,λ_ _=>none⟩,[],λ_=>none,λ_ _=>none⟩
    |none=>none)
   |_,_=>none)
  |_=>none)
 |_,_,_=>none
def y4w(l:Nat)(a:AC)(K:Ks D.T R):TS D.T->Option R:=λts=>
 match a with
 |.loop b=>run P D tbl J b ts {K with kn:=J l}
 |.rng lf g p a b=>zx2 P D tbl J l lf g p a b K ts
 |a=>run P D tbl J a ts K
def AC.at(l:Nat):AC->Ks D.T R->(TS D.T->Option R)->Option (TS D.T->Option R)
 |.seq a b,K,_=>match AC.at l a {K with kn:=λts=>run P D tbl J b ts K} (λ_=>none)with
  |some x=>some x
  |none=>AC.at l b K (λ_=>none)
 |.cond _ a b,K,_=>match AC.at l a K (λ_=>none)with
  |some x=>some x
  |none=>AC.at l b K (λ_=>none)
 |.block id a,K,_=>AC.at l a {K with kx:=(id,K.kn)::K.kx} (λ_=>none)
 |.loop a,K,kl=>AC.at l a {K with kn:=kl} (λ_=>none)
 |.lab l' a,K,_=>match Nat.beq l' l with
  |true=>some (y4w P D tbl J l' a K)
  |false=>AC.at l a K (J l')
 |_,_,_=>none
end
def y1r{α:Type}:List α->Nat->List (Nat×α)
 |[],_=>[]
 |a::l,k=>(k,a)::y1r l (k+1)
def entry(D:Dat)(args:List Sh)(aos:List OSh)(nt:Nat)(gs:List Nat)(x:HL D.T (Sh.kzs args++zzl aos)):TS D.T :=
 ⟨y1r (yzu D (λk=>k) args (HL.fst _ x)) 0,z0c D (λk=>k) aos 0 (HL.snd _ x),aos.length,nt,[],gs.map some⟩
def zg9(P:Program)(D:Dat)(ts:TS D.T):List ResultVar->Option (List (TV D.T))
 |[]=>some []
 |.tmp t::rs=>match fnd ts.t t,zg9 P D ts rs with
  |some v,some vs=>some (v::vs)
  |_,_=>none
 |.cell a t::rs=>match fnd ts.t a with
  |some p=>match y05 P D ts t p,zg9 P D ts rs with
   |some v,some vs=>some (v::vs)
   |_,_=>none
  |none=>none
def zl0{R:Type}(D:Dat)(l:LSh)(pack:HL D.T l.tys->R):Ks D.T R :=
 ⟨l.enter D (λx=>some (pack x)) 9,[],l.enter D (λx=>some (pack x)) 9,λ_ _=>none⟩
section
variable (D : Dat)
def zwo(pan:Sh)(pos:List OSh)(p:Nat)(z:TV D.T)(ts:TS D.T):Option (HL D.T (pan.tys++zzl pos)) :=
 match ts.d with
 |[]=>match zkh D pos.length pan z (pins p)with
  |.ok (M,x)=>match zm5 D pos.length ts pos 0 M with
   |.ok (_,y)=>some (HL.app x y)
   |_=>none
  |_=>none
 |_=>none
def zle:Option Sh->List DTy
 |none=>[]
 |some s=>s.tys
structure zji where
 f:Nat
 args:List Sh
 aos:List OSh
 m:Option Sh
 ros:List OSh
 go:HL D.T (Sh.kzs args++zzl aos)->HL D.T (zle m)->Option (HL D.T (zzl ros))
def zji.ent(de:zji D):Ent D:={f:=de.f,p:=de.aos.length,args:=de.args,aos:=de.aos,outs:=[],ros:=de.ros,pan:=.nilp,pos:=[],pure:=false,go:=λ_ _ _=>none}
def zt2:(m:Option Sh)->Option (TV D.T)->Option (HL D.T (zle m))
 |none,none=>some ()
 |some s,some z=>match zkh D 0 s z []with
  |.ok (_,x)=>some x
  |_=>none
 |_,_=>none
def ziu{R:Type}(f:Nat)(vs:List (TV D.T))(m:Option (TV D.T))(ts:TS D.T)(k:TS D.T->Option R):List (zji D)->Option R
 |[]=>none
 |de::r=>match Nat.beq de.f f with
  |false=>ziu f vs m ts k r
  |true=>match zt2 D de.m m with
   |none=>ziu f vs m ts k r
   |some mx=>match de.ent.fit D vs ts with
    |.ok (M,x)=>if de.aos.length<=de.ros.length∧(List.range de.aos.length).all (λk=>match fnd M k with|some (.slot _)=>true|_=>false)then
       z0p (de.go x mx) λy=>k (z3s D M de.aos.length ts de.ros y)else none
    |_=>ziu f vs m ts k r
def z5e{R:Type}(des:List (zji D))(k:TS D.T->Option R)(kp:TV D.T->TS D.T->Option R):List (Nat×List (TV D.T))->Option (TV D.T)->TS D.T->Option R
 |[],none,ts=>k ts
 |[],some z,ts=>kp z ts
 |(f,vs)::r,m,ts=>match Nat.blt f 4000000000 with
  |true=>ziu D f vs m ts (λts'=>z5e des k kp r none {ts' with d:=r}) des
  |false=>none
def zvi{X R:Type}(pan:Sh)(pos:List OSh)(p:Nat)(packp:HL D.T (pan.tys++zzl pos)->X)(z:TV D.T)(ts:TS D.T):Option (Res X R):=match zwo D pan pos p z ts with
 |some y=>some (.pan (packp y))
 |none=>none
def endKP{X R:Type}(des:List (zji D))(l:LSh)(pack:HL D.T l.tys->R)(pan:Sh)(pos:List OSh)(p:Nat)(packp:HL D.T (pan.tys++zzl pos)->X):Ks D.T (Res X R) :=
 ⟨λts=>z5e D des (l.enter D (λx=>some (.ok (pack x))) 9) (zvi D pan pos p packp) ts.d none ts,[],
  λts=>z5e D des (l.enter D (λx=>some (.ok (pack x))) 9) (zvi D pan pos p packp) ts.d none ts,
  λz ts=>z5e D des (l.enter D (λx=>some (.ok (pack x))) 9) (zvi D pan pos p packp) ts.d (some z) ts⟩
def y6d{R:Type}(P:Program)(rs:List ResultVar)(l:LSh)(pack:HL D.T l.tys->R)(pan:Sh)(pos:List OSh)(p:Nat)(ts:TS D.T):Option (Res (HL D.T (pan.tys++zzl pos)) R) :=
 match l.enter D (λx=>some (.ok (pack x))) 9 ts with
 |some z=>some z
 |none=>(match zg9 P D ts rs with
  |some cs=>zvi D pan pos p (λy=>y) (zje D cs) ts
  |none=>none)
def end2{R:Type}(P:Program)(rs:List ResultVar)(l:LSh)(pack:HL D.T l.tys->R)(pan:Sh)(pos:List OSh)(p:Nat):Ks D.T (Res (HL D.T (pan.tys++zzl pos)) R) :=
 ⟨λts=>z5e D [] (y6d D P rs l pack pan pos p) (λ_ _=>none) ts.d none ts,[],
  λts=>z5e D [] (y6d D P rs l pack pan pos p) (λ_ _=>none) ts.d none ts,
  λz ts=>z5e D [] (y6d D P rs l pack pan pos p) (λ_ _=>none) ts.d (some z) ts⟩
end
set_option linter.unusedSimpArgs false
theorem yz6{α:Type}(i:Nat)(a:α)(r:List (Nat×α))(j:Nat):fnd ((i,a)::r) j=if i=j then some a else fnd r j:=by
 simp only[fnd]
 cases h:Nat.beq i j with
 |true=>rw[Qbr (Qaj h)]
 |false=>rw[Qbs (λe=>by rw[e,Nat.beq_refl]at h;cases h)]
theorem z8b{α:Type}(f:α->α):∀(l:List (Nat×α)) (j:Nat),fnd (l.map λp=>(p.1,f p.2)) j=(fnd l j).map f
 |[],j=>rfl
 |(i,a)::r,j=>by
  rw[List.map_cons,yz6,yz6];split;rfl;exact z8b f r j
def HL.nth{T:Nat->Type}:(l:List DTy)->HL T l->Nat->Option ((t:DTy)×t.S T)
 |[],_,_=>none
 |t::_,x,0=>some ⟨t,x.1⟩
 |_::l,x,j+1=>HL.nth l x.2 j
theorem HL.z7o{T:Nat->Type}:∀(l:List DTy) (x:HL T l) (j:Nat),j<l.length->∃p,HL.nth l x j=some p∧l[j]? = some p.1
 |[],_,j,h=>by simp at h
 |t::_,x,0,_=>⟨⟨t,x.1⟩,rfl,rfl⟩
 |_::l,x,j+1,h=>by
  obtain⟨p,h1,h2⟩:=HL.z7o l x.2 j (by simpa using h);exact⟨p,h1,by simpa using h2⟩
theorem HL.z47{T:Nat->Type}:∀(l:List DTy) (x:HL T l) (j:Nat) (p:(t:DTy)×t.S T),HL.nth l x j=some p->j<l.length∧l[j]? = some p.1
 |[],_,j,p,h=>by simp[HL.nth]at h
 |t::_,x,0,p,h=>by simp[HL.nth]at h;subst h;simp
 |_::l,x,j+1,p,h=>by
  obtain⟨h1,h2⟩:=HL.z47 l x.2 j p h;exact⟨by simpa using h1,by simpa using h2⟩
structure Dat.Ok(P:Program)(D:Dat):Prop where
 enc:∀i x,D.enc i x = .agg (D.els (D.fl i) (D.get i x))
 getMake:∀i x,D.get i (D.make i x)=x
 flat:∀i t,t∈D.fl i->(match t with| .st _=>False| .nat=>False|_=>True)
 ty:∀e t,D.ty e=some t->t ≠ .nat
 kin:∀i x (Dm:Nat->Nat->Prop),V.kin Dm (D.enc i x)
section
variable {D : Dat}
theorem zli:∀(l:List DTy) (x:HL D.T l),(D.els l x).length=l.length
 |[],_=>rfl
 |t::l,x=>by simp[Dat.els,zli l x.2]
theorem zs9:∀(l:List DTy) (x:HL D.T l) (j:Nat),(D.els l x)[j]? = (HL.nth l x j).map λp=>D.el p.1 p.2
 |[],_,j=>by simp[Dat.els,HL.nth]
 |t::l,x,0=>by simp[Dat.els,HL.nth]
 |t::l,x,j+1=>by simpa[Dat.els,HL.nth]using zs9 l x.2 j
theorem z2s:∀(l:List DTy) (x:HL D.T l),(D.leaves l x).length=l.length
 |[],_=>rfl
 |t::l,x=>by simp[Dat.leaves,z2s l x.2]
theorem z5g:∀(l:List DTy) (x:HL D.T l) (j:Nat),(D.leaves l x)[j]? = (HL.nth l x j).map λp=>D.leaf p.1 p.2
 |[],_,j=>by simp[Dat.leaves,HL.nth]
 |t::l,x,0=>by simp[Dat.leaves,HL.nth]
 |t::l,x,j+1=>by simpa[Dat.leaves,HL.nth]using z5g l x.2 j
inductive DR (D:Dat):(t:DTy)->t.S D.T->V->Prop where
 |bool (b:Bool):DR D .bool b (.bool b)
 |int (k:IntKind) (n:Int):DR D (.int k) n (.int k n)
 |str (s:B8):DR D .str s (.str s)
 |nat (n:Nat):DR D .nat n .any
 |nil (t:DTy):DR D (.sl t) ([]:List (t.S D.T)) .nils
 |sl (t:DTy) (xs:List (t.S D.T)) (ws:List V) (full:Bool) (hl:ws.length=xs.length) (h:∀(j:Nat) (x:t.S D.T) (w:V),xs[j]? = some x->ws[j]? = some w->DR D t x w):DR D (.sl t) xs (.sl (D.len t) ws full)
 |st (i:Nat) (x:D.T i) (vs:List V) (hl:vs.length=(D.fl i).length) (h:∀(j:Nat) (p:(t:DTy)×t.S D.T) (v:V),HL.nth (D.fl i) (D.get i x) j=some p->vs[j]? = some v->DR D p.1 p.2 v):DR D (.st i) x (.agg vs)
 |enc (i:Nat) (x:D.T i):DR D (.st i) x (D.enc i x)
variable {P : Program} (hD : D.Ok P)
include hD
theorem zw0(t:DTy)(x:t.S D.T):(D.el t x).cells.length=D.len t:=by
 cases t with
 |st i=>exact(congrArg (λv=>v.cells.length) (hD.enc i x)).trans (zli _ _)
 |_=>rfl
theorem DR.cells{t:DTy}{x:t.S D.T}{v:V}(h:DR D t x v):v.cells.length=D.len t:=by
 cases h with
 |enc i x=>exact zw0 hD (.st i) x
 |st i x vs hl h=>simpa[V.cells,Dat.len]using hl
 |_=>rfl
omit hD in
theorem DR.elsl(t:DTy)(xs:List (t.S D.T))(h:∀x,DR D t x (D.el t x)):DR D (.sl t) xs (.sl (D.len t) (xs.map (D.el t)) false) :=
 .sl t xs _ false (by simp) λj x w hx hw=>by
   rw[Qan,hx]at hw;injection hw with hw;subst hw;exact h x
omit hD in
theorem DR.el:∀(t:DTy) (x:t.S D.T),DR D t x (D.el t x)
 |.bool,b=>.bool b
 |.int k,n=>.int k n
 |.str,s=>.str s
 |.nat,n=>.nat n
 |.sl t,xs=>DR.elsl t xs (DR.el t)
 |.st i,x=>.enc i x
end
end
end Go.Ab
