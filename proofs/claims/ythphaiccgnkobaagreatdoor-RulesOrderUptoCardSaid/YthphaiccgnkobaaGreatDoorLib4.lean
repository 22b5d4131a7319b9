/-
  TYPED VALUES: a machine over data of Lean types, run by the kernel. Definitions.
-/
import Derived.Test.YthphaiccgnkobaaGreatDoorLib2
import Derived.Test.YthphaiccgnkobaaGreatDoorLib3
namespace Go.Ab
open Go
set_option linter.unusedVariables false
def pIf{α:Type}(b:Bool)(x y:Option α):Option α:=match b with|true=>x|false=>y
theorem y0v{α:Type}(b:Bool)(x y:Option α):pIf b x y=if b then x else y:=by cases b <;> rfl
def z57{α β:Type}(o:Option α)(k:α->Option β):Option β:=o.bind k
noncomputable def zxw{α R:Type}(es:List (B8×α))(f:B8->α->List (B8×α)->Option R)(g:Option R):Option R :=
 open Classical in
 match es with
 |[]=>g
 |[e]=>f e.1 e.2 []
 |e::e'::r=>if h:∃z,∀i p,(e::e'::r)[i]? = some p->f p.1 p.2 ((e::e'::r).eraseIdx i)=some z then some h.choose else none
def pOp{α:Type}(o:Oper)(x:Option α):Option α:=x
inductive Res (X R:Type) where
 |ok (r:R)
 |pan (x:X)
def zkg{X R S:Type}(o:Res X R)(f:R->Option S)(g:X->Option S):Option S:=match o with
 |.ok r=>f r
 |.pan x=>g x
inductive DTy where
 |bool
 |int (k:IntKind)
 |str
 |nat
 |sl (t:DTy)
 |st (i:Nat)
 deriving DecidableEq
def DTy.S(T:Nat->Type):DTy->Type
 |.bool=>Bool
 |.int _=>Int
 |.str=>B8
 |.nat=>Nat
 |.sl t=>List (t.S T)
 |.st i=>T i
def HL(T:Nat->Type):List DTy->Type
 |[]=>Unit
 |t::l=>t.S T×HL T l
def HL.app{T:Nat->Type}:{a b:List DTy}->HL T a->HL T b->HL T (a++b)
 |[],_,_,y=>y
 |_::_,_,x,y=>(x.1,HL.app x.2 y)
def HL.fst{T:Nat->Type}:(a:List DTy)->{b:List DTy}->HL T (a++b)->HL T a
 |[],_,_=>()
 |_::a,_,x=>(x.1,HL.fst a x.2)
def HL.snd{T:Nat->Type}:(a:List DTy)->{b:List DTy}->HL T (a++b)->HL T b
 |[],_,x=>x
 |_::a,_,x=>HL.snd a x.2
structure Dat where
 T:Nat->Type
 fl:Nat->List DTy
 get:∀i,T i->HL T (fl i)
 make:∀i,HL T (fl i)->T i
 enc:∀i,T i->V
 ty:Nat->Option DTy
 ow:Nat->Nat->Option Nat:=λ_ _=>none
inductive TV (T:Nat->Type):Type where
 |any
 |bool (b:Bool)
 |int (k:IntKind) (n:Int)
 |str (s:B8)
 |nilp
 |nils
 |mapn
 |nilf
 |nili
 |sl (t:DTy) (xs:List (t.S T)) (fl:Nat)
 |own (s:Nat)
 |osl (s:Nat) (lo:Int)
 |ptr (s off:Nat)
 |bp (s off:Nat)
 |ref (cs:List (TV T)) (off:Nat)
 |ap (s:Nat) (t:DTy) (i:Int) (x:t.S T) (off:Nat)
 |map (s:Nat)
 |mc (t:DTy) (es:List (B8×t.S T))
 |fn (f:Nat) (first caps:List (TV T))
 |iface (t:Nat) (v:TV T)
 |agg (cs:List (TV T))
 |tup (vs:List (TV T))
 |dp (s:Nat) (i:Int) (off:Nat)
 |bsl (i:Nat) (cs:List (TV T))
inductive TO (T:Nat->Type):Type where
 |cells (cs:List (TV T))
 |acc (ty:Nat) (t:DTy) (xs:List (t.S T)) (w:Bool)
 |siter (s:B8) (pos:Nat)
 |mp (ty:Nat) (t:DTy) (es:List (B8×t.S T))
 |mit (t:DTy) (last:Option (B8×t.S T)) (es:List (B8×t.S T))
 |bld (ty:Nat) (b:Option Nat)
 |gone
 |rig
 |deep (ty i:Nat) (xs:List (T i)) (h:Option (Int×Nat×Nat))
structure TS(T:Nat->Type) where
 t:List (Nat×TV T)
 o:List (Nat×TO T)
 nx:Nat
 nt:Nat
 d:List (Nat×List (TV T)):=[]
 g:List (Option Nat):=[]
def fnd{α:Type}:List (Nat×α)->Nat->Option α
 |[],_=>none
 |(i,a)::r,j=>match Nat.beq i j with
  |true=>some a
  |false=>fnd r j
section
variable {T : Nat → Type}
def TV.cells:TV T->List (TV T)
 |.agg cs=>cs
 |v=>[v]
def TV.leaf:TV T->Bool
 |.any| .agg _| .tup _=>false
 |_=>true
def TV.zzi:TV T->Bool
 |.agg _=>true
 |v=>v.leaf
def TV.z8k:Value->TV T
 |.bool b=>.bool b
 |.int k n=>.int k n
 |.string s=>.str s.data.toList
 |.pointer none=>.nilp
 |.slice none 0 0=>.nils
 |.map none=>.mapn
 |.nilFunc=>.nilf
 |.nilIface=>.nili
 |_=>.any
def TV.ofC:Value->TV T
 |.agg cs=>if cs.toList.all (·.oneCell')then .agg (cs.toList.map TV.z8k)else .any
 |.tuple cs=>.tup (cs.toList.map TV.z8k)
 |.iface t v=>.iface t (TV.z8k v)
 |v=>TV.z8k v
def TS.ev(ts:TS T):Operand->Option (TV T)
 |.tmp t=>fnd ts.t t
 |.const v=>some (TV.ofC v)
 |.func f=>some (.fn f [] [])
 |.global _=>none
def TS.evs(ts:TS T):List Operand->Option (List (TV T))
 |[]=>some []
 |x::xs=>match ts.ev x,ts.evs xs with
  |some v,some vs=>some (v::vs)
  |_,_=>none
inductive FR (α:Type) where
 |ok (a:α)
 |frz (s:Nat)
 |bad
def FR.of{α:Type}:Option α->FR α
 |some a=>.ok a
 |none=>.bad
end
section
variable (D : Dat)
def Dat.owns(q:Nat):Bool:=(List.range (D.fl q).length).any λf=>(D.ow q f).isSome
def Dat.len:DTy->Nat
 |.st i=>(D.fl i).length
 |_=>1
def Dat.el:(t:DTy)->t.S D.T->V
 |.bool,b=>.bool b
 |.int k,n=>.int k n
 |.str,s=>.str s
 |.nat,_=>.any
 |.sl t,xs=>.sl (D.len t) (List.map (Dat.el t) xs) false
 |.st i,x=>D.enc i x
def Dat.els:(l:List DTy)->HL D.T l->List V
 |[],_=>[]
 |t::l,x=>D.el t x.1::Dat.els l x.2
def Dat.leaf:(t:DTy)->t.S D.T->TV D.T
 |.bool,b=>.bool b
 |.int k,n=>.int k n
 |.str,s=>.str s
 |.nat,_=>.any
 |.sl t,xs=>.sl t xs 0
 |.st _,_=>.any
def Dat.leaves:(l:List DTy)->HL D.T l->List (TV D.T)
 |[],_=>[]
 |t::l,x=>D.leaf t x.1::Dat.leaves l x.2
def Dat.tv:(t:DTy)->t.S D.T->TV D.T
 |.st i,x=>.agg (D.leaves (D.fl i) (D.get i x))
 |.bool,b=>.bool b
 |.int k,n=>.int k n
 |.str,s=>.str s
 |.nat,_=>.any
 |.sl t,xs=>.sl t xs 0
def zus{T:Nat->Type}(a b:DTy)(x:a.S T):Option (b.S T) :=
 if h:a=b then some (h▸x)else none
def zok{T:Nat->Type}(a b:DTy)(x:List (B8×a.S T)):Option (List (B8×b.S T)) :=
 if h:a=b then some (h▸x)else none
def DTy.flat:DTy->Bool
 |.bool| .int _| .str=>true
 |_=>false
def za8{T:Nat->Type}(a b:DTy)(x:List (a.S T)):Option (List (b.S T)) :=
 if h:a=b then some (h▸x)else none
def zf7:(t:DTy)->TV D.T->FR (t.S D.T)
 |.bool,.bool b=>.ok b
 |.int k,.int k' n=>if k=k' then .ok n else .bad
 |.str,.str s=>.ok s
 |.sl t,.sl t' xs _=>FR.of (za8 t' t xs)
 |.sl _,.nils=>.ok []
 |.sl _,.own s=>.frz s
 |_,_=>.bad
def z7i:(l:List DTy)->List (TV D.T)->FR (HL D.T l)
 |[],[]=>.ok ()
 |t::l,v::vs=>match zf7 D t v with
  |.ok x=>match z7i l vs with
   |.ok xs=>.ok (x,xs)
   |.frz s=>.frz s
   |.bad=>.bad
  |.frz s=>.frz s
  |.bad=>.bad
 |_,_=>.bad
def asD:(t:DTy)->TV D.T->FR (t.S D.T)
 |.st i,.agg cs=>match z7i D (D.fl i) cs with
  |.ok x=>.ok (D.make i x)
  |.frz s=>.frz s
  |.bad=>.bad
 |.st _,_=>.bad
 |t,v=>zf7 D t v
def y9h(t:DTy):List (TV D.T)->FR (List (t.S D.T))
 |[]=>.ok []
 |v::vs=>match asD D t v with
  |.ok x=>match y9h t vs with
   |.ok xs=>.ok (x::xs)
   |.frz s=>.frz s
   |.bad=>.bad
  |.frz s=>.frz s
  |.bad=>.bad
end
section
variable {T : Nat → Type} (P : Program)
def tRd(t:Nat)(cs:List (TV T))(off:Nat):Option (TV T) :=
 match P.underlying t with
 |none=>none
 |some (.struct _)|some (.array _ _)=>if off+P.cellsOf t<=cs.length then some (.agg ((cs.drop off).take (P.cellsOf t)))else none
 |some _=>cs[off]?
def ztj(s f:Nat)(x:TV T):Option (TV T) :=
 match zl4 P s f with
 |none=>none
 |some o=>match x with
  |.ref cs off=>some (.ref cs (off+o))
  |.ptr s off=>some (.ptr s (off+o))
  |.ap s t i x off=>some (.ap s t i x (off+o))
  |.bp s off=>some (.bp s (off+o))
  |.dp s i off=>some (.dp s i (off+o))
  |_=>none
def ygj(s f:Nat)(x:TV T):Option (TV T) :=
 match P.underlying s with
 |some (.struct fs)=>match fs[f]? with
  |some y=>match x with
   |.agg cs=>tRd P y.type cs y.offset
   |_=>none
  |none=>none
 |_=>none
def y3r(i:Nat):TV T->Option (TV T)
 |.tup vs=>vs[i]?
 |_=>none
def tNil:TV T->Option (TV T)
 |.ptr s off=>some (.ptr s off)
 |.ref cs off=>some (.ref cs off)
 |.ap s t i x off=>some (.ap s t i x off)
 |.bp s off=>some (.bp s off)
 |.dp s i off=>some (.dp s i off)
 |.fn f a b=>some (.fn f a b)
 |_=>none
def tUn(op:UnOp)(x:TV T):Option (TV T) :=
 match op,x with
 |.neg,.int k n=>some (.int k (k.wrap (0-n)))
 |.not,.bool b=>some (.bool (!b))
 |.xor,.int k n=>some (.int k (bits .xor k (if k.signed then -1 else k.max) n))
 |_,_=>none
def y4j(s d:Nat)(x:TV T):Option (TV T) :=
 match x with
 |.int _ n=>match P.underlying s,P.underlying d with
  |some _,some (.int k)=>some (.int k (k.wrap n))
  |_,_=>none
 |.str a=>match P.underlying s,P.underlying d with
  |some _,some .string=>some (.str a)
  |_,_=>none
 |_=>none
def zoj(x:TV T)(asserted:Nat)(ok:Bool):Option (TV T) :=
 match P.underlying asserted,x with
 |some (.interface _),_=>none
 |some _,.iface t v=>if t=asserted then some (if ok then .tup [v,.bool true]else v)else none
 |_,_=>none
def y0x(max:Bool):List (TV T)->Option (TV T)
 |[.int k x,.int _ y]=>some (.int k (match max with|true=>mxI x y|false=>mnI x y))
 |[.int k x,.int _ y,.int _ z]=>some (.int k (match max with|true=>mxI (mxI x y) z|false=>mnI (mnI x y) z))
 |_=>none
def zfa(cs:List (TV T))(off:Nat)(xs:List (TV T)):List (TV T):=cs.take off++xs++cs.drop (off+xs.length)
def y7v(place:Nat->Option (Nat×Nat))(cells:List (TV T)):List (Nat×TV T)->Option (List (TV T))
 |[]=>some cells
 |(i,x)::rest=>match place i with
  |none=>none
  |some (off,size)=>if x.zzi&&x.cells.length==size&&decide (off+size<=cells.length)then y7v place (zfa cells off x.cells) rest else none
def ztw(ts:TS T):List (Nat×Operand)->Option (List (Nat×TV T))
 |[]=>some []
 |(i,x)::r=>match ts.ev x,ztw ts r with
  |some v,some vs=>some ((i,v)::vs)
  |_,_=>none
def y7f(t:Nat):Option (TV T):=((P.info? t).bind (·.zero)).map TV.ofC
def ygv(t:Nat)(ps:List (Nat×TV T)):Option (TV T) :=
 match y7f (T:=T) P t with
 |some (.agg z)=>match P.underlying t with
  |some (.struct fs)=>match zxu P fs.toList with
   |some places=>(y7v (λi=>places[i]?) z ps).map .agg
   |none=>none
  |some (.array _ e)=>if (P.info? e).isSome then (y7v (λi=>some (i * P.cellsOf e,P.cellsOf e)) z ps).map .agg else none
  |_=>none
 |_=>none
def TV.odd:TV T->Bool
 |.int _ _| .str _| .any=>false
 |_=>true
mutual
def ybl:Nat->Nat->TV T->TV T->Option Bool
 |0,_,_,_=>none
 |d+1,t,x,y=>
  match x,y with
  |.bool a,.bool b=>match P.underlying t with|some .bool=>some (a==b)|_=>none
  |.int k a,.int k' b=>match P.underlying t with|some (.int _)=>if k=k' then some (a==b)else none|_=>none
  |.str a,.str b=>match P.underlying t with|some .string=>some (a==b)|_=>none
  |.agg xs,.agg ys=>match P.underlying t with|some (.struct fs)=>if P.stoodInHeld t then none else y4i d fs.toList xs ys|_=>none
  |.nilp,.nilp=>match P.underlying t with|some (.pointer _)=>some true|_=>none
  |.nilp,.ptr _ _| .nilp,.ref _ _=>match P.underlying t with|some (.pointer _)=>some false|_=>none
  |.ptr _ _,.nilp| .ref _ _,.nilp=>match P.underlying t with|some (.pointer _)=>some false|_=>none
  |.mapn,.mapn=>match P.underlying t with|some (.map _ _)=>some true|_=>none
  |.nilf,.nilf=>match P.underlying t with|some (.func ..)=>some true|_=>none
  |.nilf,.fn _ _ _| .fn _ _ _,.nilf=>match P.underlying t with|some (.func ..)=>some false|_=>none
  |.nili,.iface _ _| .iface _ _,.nili=>match P.underlying t with|some (.interface _)=>some false|_=>none
  |_,_=>none
def y4i:Nat->List Field->List (TV T)->List (TV T)->Option Bool
 |0,_,_,_=>none
 |_,[],_,_=>some true
 |d+1,f::fs,xs,ys=>
  if f.name = "_" then y4i d fs xs ys else
  match tRd P f.type xs f.offset,tRd P f.type ys f.offset with
  |some a,some b=>match ybl d f.type a b,y4i d fs xs ys with
   |some r,some s=>some (r&&s)
   |_,_=>none
  |_,_=>none
end
def zv4(t:Nat)(x y:TV T):Bool :=
 match x,y with
 |.agg _,.agg _ => !P.eqGuardType P.depth t
 |.nili,.nili=>false
 |.any,_|_,.any=>false
 |_,_=>true
def shl(k:IntKind)(a b:Int):Option Int:=if b<0 then none else some (k.wrap (a * 2 ^ (min b.toNat k.bits)))
def shr(k:IntKind)(a b:Int):Option Int:=if b<0 then none else some (a.fdiv (2 ^ (min b.toNat k.bits)))
def tBin{R:Type}(op:BinOp)(t:Nat)(x y:TV T)(k:TV T->Option R):Option R :=
 match x,y with
 |.int i a,.int i' b=>match op with
  |.shl=>z57 (shl i a b) λz=>k (.int i z)
  |.shr=>z57 (shr i a b) λz=>k (.int i z)
  |_=>if i=i' then (match op with
   |.add=>k (.int i (i.wrap (a+b)))
   |.sub=>k (.int i (i.wrap (a-b)))
   |.mul=>k (.int i (i.wrap (a * b)))
   |.quo=>z57 (quo i a b) λz=>k (.int i z)
   |.rem=>z57 (rem i a b) λz=>k (.int i z)
   |.eql=>k (.bool (a==b))
   |.neq=>k (.bool (a != b))
   |.lss=>k (.bool (decide (a<b)))
   |.leq=>k (.bool (decide (a<=b)))
   |.gtr=>k (.bool (decide (a>b)))
   |.geq=>k (.bool (decide (a>=b)))
   |.and=>k (.int i (bits .and i a b))
   |.or=>k (.int i (bits .or i a b))
   |.xor=>k (.int i (bits .xor i a b))
   |.andNot=>k (.int i (bits .andNot i a b))
   |_=>none)else none
 |.str a,.str b=>match op with
  |.add=>z57 (cat a b) λz=>k (.str z)
  |.eql=>k (.bool (a==b))
  |.neq=>k (.bool (!(a==b)))
  |.lss=>k (.bool (Op.bytesLess a b))
  |.leq=>k (.bool (Op.bytesLess a b||a==b))
  |.gtr=>k (.bool (!(Op.bytesLess a b||a==b)))
  |.geq=>k (.bool (!Op.bytesLess a b))
  |_=>none
 |x,y=>match op with
  |.eql=>if x.odd&&zv4 P t x y then (match ybl P 24 t x y with|some r=>k (.bool r)|none=>none)else none
  |.neq=>if x.odd&&zv4 P t x y then (match ybl P 24 t x y with|some r=>k (.bool (!r))|none=>none)else none
  |_=>none
end
section
variable (P : Program) (D : Dat)
def yan{T:Nat->Type}:Option Nat->TV T
 |none=>.nils
 |some s=>.own s
def yac(s:B8):List Int:=s.map λb=>((b.toNat:Nat):Int)
def yat:List Int->Option B8
 |[]=>some []
 |x::r=>match x,yat r with
  |.ofNat m,some s=>match Nat.ble m 255 with
   |true=>some (m.toUInt8::s)
   |false=>none
  |_,_=>none
def yi1(ts:TS D.T)(t:Nat):TV D.T->Option (TV D.T)
 |.ref cs off=>tRd P t cs off
 |.ptr s off=>match fnd ts.o s with
  |some (.cells cs)=>tRd P t cs off
  |_=>none
 |.ap s τ i x off=>match fnd ts.o s with
  |some (.acc _ _ _ _)=>tRd P t (D.tv τ x).cells off
  |_=>none
 |.bp s off=>match fnd ts.o s with
  |some (.bld _ b)=>tRd P t [.any,yan b] off
  |_=>none
 |_=>none
def zsl(q:Nat):(l:List DTy)->HL D.T l->Nat->List (TV D.T)
 |[],_,_=>[]
 |t::l,x,f=>(match D.ow q f with
  |none=>D.leaf t x.1
  |some _=>.any)::zsl q l x.2 (f+1)
def ymt(q off:Nat):Nat->List Nat
 |0=>[]
 |n+1=>match D.ow q off with
  |some _=>off::ymt q (off+1) n
  |none=>ymt q (off+1) n
def szT(t:Nat):Nat:=match P.underlying t with
 |some (.struct _)|some (.array _ _)=>P.cellsOf t
 |_=>1
def setO{α:Type}(cs:List α):Option (Nat×α)->List α
 |none=>cs
 |some (f,v)=>cs.set f v
def zp5{R:Type}(ts:TS D.T)(t:Nat)(s:Nat)(i:Int)(off:Nat)(set:Option (Nat×TV D.T))(k:TV D.T->Option R):Option R :=
 match fnd ts.o s with
 |some (.deep _ q xs _)=>z57 (ix xs i) λy=>(match tRd P t (setO (zsl D q (D.fl q) (D.get q y) 0) set) off with
  |some v=>k v
  |none=>none)
 |_=>none
def zgw(n i:Int):Option Unit:=if n=i then some ()else none
def yfu{R:Type}(ts:TS D.T)(t:Nat)(s:Nat)(i:Int)(off:Nat)(k:TV D.T->Option R):Option R :=
 match fnd ts.o s with
 |some (.deep _ _ _ (some p))=>(match Nat.beq p.2.1 off with
  |true=>z57 (zgw p.1 i) λ_=>zp5 P D ts t s i off (some (off,.own p.2.2)) k
  |false=>zp5 P D ts t s i off none k)
 |_=>zp5 P D ts t s i off none k
def tLen(ts:TS D.T)(t:Nat)(x:TV D.T):Option (TV D.T) :=
 match x with
 |.str s=>match P.underlying t with|some .string=>some (.int .i64 s.length)|_=>none
 |.nils=>match P.underlying t with|some (.slice _)=>some (.int .i64 0)|_=>none
 |.sl _ xs _=>match P.underlying t with|some (.slice _)=>some (.int .i64 xs.length)|_=>none
 |.own s=>match P.underlying t,fnd ts.o s with
  |some (.slice _),some (.acc _ _ xs _)=>some (.int .i64 xs.length)
  |some (.slice _),some (.deep _ _ xs _)=>some (.int .i64 xs.length)
  |_,_=>none
 |.agg _=>match P.underlying t with|some (.array n _)=>some (.int .i64 n)|_=>none
 |.map s=>match P.underlying t,fnd ts.o s with
  |some (.map _ _),some (.mp _ _ es)=>some (.int .i64 es.length)
  |_,_=>none
 |_=>none
def yol:(t:DTy)->TV D.T->Option (t.S D.T×Option Nat)
 |.sl _,.nils=>some ([],none)
 |.sl _,.own c=>some ([],some c)
 |_,_=>none
def zy4(q:Nat):(l:List DTy)->List (TV D.T)->Nat->FR (HL D.T l×Option (Nat×Nat))
 |[],[],_=>.ok ((),none)
 |t::l,v::vs,f=>(match D.ow q f with
  |none=>(match zf7 D t v with
   |.ok x=>(match zy4 q l vs (f+1)with
    |.ok r=>.ok ((x,r.1),r.2)
    |.frz s=>.frz s
    |.bad=>.bad)
   |.frz s=>.frz s
   |.bad=>.bad)
  |some _=>(match zy4 q l vs (f+1)with
   |.ok r=>(match yol D t v with
    |some (x,none)=>.ok ((x,r.1),r.2)
    |some (x,some c)=>(match r.2 with
     |none=>.ok ((x,r.1),some (f,c))
     |some _=>.bad)
    |none=>.bad)
   |.frz s=>.frz s
   |.bad=>.bad))
 |_,_,_=>.bad
def rowOf(τ:DTy)(ps:List (Nat×TV D.T)):Option (Nat×List (TV D.T)):=match τ,ps with
 |.st q,[(0,.agg cells)]=>(match D.owns q with
  |true=>(match zy4 D q (D.fl q) cells 0 with
   |.ok _=>some (q,cells)
   |_=>none)
  |false=>none)
 |_,_=>none
theorem yf5{τ:DTy}{ps:List (Nat×TV D.T)}{q:Nat}{cells:List (TV D.T)}(h:rowOf D τ ps=some (q,cells)):τ = .st q∧ps=[(0,.agg cells)]:=by
 unfold rowOf at h;split at h;split at h;split at h;injection h with h;injection h with h1 h2;subst h1;subst h2;exact⟨rfl,rfl⟩;cases h;cases h;cases h
def zdf(t len:Nat)(ps:List (Nat×TV D.T)):FR (TV D.T) :=
 match P.underlying t with
 |some (.slice e)=>match zeroV P e,D.ty e with
  |some z,some τ=>
   if z.zzi&&z.cells.length==P.cellsOf e&&decide (0<P.cellsOf e)&&(P.info? e).isSome&&ps.length==len&&(ps.map (·.1)==List.range len)&&ps.all (λp=>p.2.zzi&&p.2.cells.length==P.cellsOf e)&&decide (len * P.cellsOf e<=2 ^ 24)&&D.len τ==P.cellsOf e then
    (match rowOf D τ ps with
    |some (q,cells)=>.ok (.bsl q [.agg cells])
    |none=>match y9h D τ (ps.map (·.2))with
    |.ok xs=>.ok (.sl τ xs (if len=0 then 2 else 1))
    |.frz s=>(match τ,ps with
     |.st q,[(0,.agg cells)]=>(match zy4 D q (D.fl q) cells 0 with
      |.ok _=>.ok (.bsl q [.agg cells])
      |.frz s'=>.frz s'
      |.bad=>.frz s)
     |_,_=>.frz s)
    |.bad=>.bad)
   else .bad
  |_,_=>.bad
 |_=>.bad
def ypv(ts:TS D.T):TV D.T->Option Nat
 |.own k=>(match fnd ts.o k with
  |some (.acc _ (.st q) _ _)=>if D.owns q=true then some k else none
  |_=>none)
 |_=>none
def yfw(ts:TS D.T):List (TV D.T)->Option Nat
 |[]=>none
 |v::l=>match ypv D ts v with
  |some k=>some k
  |none=>yfw ts l
def y9n(ts:TS D.T)(r:FR (TV D.T)):FR (TV D.T):=match r with
 |.ok (.bsl q [.agg cells])=>(match yfw D ts cells with
  |some k=>.frz k
  |none=>.ok (.bsl q [.agg cells]))
 |r=>r
theorem ygz{ts:TS D.T}{r:FR (TV D.T)}{x:TV D.T}(h:y9n D ts r = .ok x):r = .ok x:=by
 unfold y9n at h;split at h;split at h;cases h;exact h;exact h
def tMk(t:Nat)(n c:Int):FR (TV D.T) :=
 match n,c with
 |.ofNat n,.ofNat c=>(match P.underlying t with
  |some (.slice e)=>(match P.info? e,y7f (T:=D.T) P e,D.ty e with
   |some i,some z,some τ=>(match z.zzi&&Nat.beq z.cells.length i.size&&Nat.blt 0 i.size&&Nat.ble n c&&Nat.ble c 1000000&&Nat.ble i.bytes 100000&&Nat.beq (D.len τ) i.size with
    |true=>(match asD D τ z with
     |.ok x=>.ok (.sl τ (List.replicate n x) 0)
     |.frz s=>.frz s
     |.bad=>.bad)
    |false=>.bad)
   |_,_,_=>.bad)
  |_=>.bad)
 |_,_=>.bad
def tP1(ts:TS D.T)(op:Op):FR (TV D.T) :=
 match op with
 |.move x=>.of (ts.ev x)
 |.assign x=>.of (ts.ev x)
 |.load t a=>match ts.ev a with|some a=>.of (yi1 P D ts t a)|none=>.bad
 |.nilCheck x=>match ts.ev x with|some x=>.of (tNil x)|none=>.bad
 |.unOp o _ x=>match ts.ev x with|some x=>.of (tUn o x)|none=>.bad
 |.convert s d x=>match ts.ev x with|some x=>.of (y4j P s d x)|none=>.bad
 |.makeInterface t x=>match ts.ev x with|some x=>if P.concrete t then .ok (.iface t x)else .bad|none=>.bad
 |.makeFunc (.func f) first caps=>match ts.evs first.toList,ts.evs caps.toList with
  |some a,some b=>.ok (.fn f a b)
  |_,_=>.bad
 |.fieldAddr s x f=>match ts.ev x with|some x=>.of (ztj P s f x)|none=>.bad
 |.field s x f=>match ts.ev x with|some x=>.of (ygj P s f x)|none=>.bad
 |.typeAssert x _ u ok=>match ts.ev x with|some x=>.of (zoj P x u ok)|none=>.bad
 |.extract x i=>match ts.ev x with|some x=>.of (y3r i x)|none=>.bad
 |.build t ps=>match ztw ts ps.toList with|some ps=>.of (ygv P t ps)|none=>.bad
 |.buildSlice t len ps=>match ztw ts ps.toList with|some ps=>y9n D ts (zdf P D t len ps)|none=>.bad
 |.makeSlice t n c=>match ts.ev n,ts.ev c with
  |some (.int _ n),some (.int _ c)=>tMk P D t n c
  |_,_=>.bad
 |.call c=>match c.callee with
  |.builtin .len=>match c.args.toList,c.argTypes.toList with
   |[x],[t]=>match ts.ev x with|some x=>.of (tLen P D ts t x)|none=>.bad
   |_,_=>.bad
  |.builtin .min=>match ts.evs c.args.toList with|some l=>.of (y0x false l)|none=>.bad
  |.builtin .max=>match ts.evs c.args.toList with|some l=>.of (y0x true l)|none=>.bad
  |_=>.bad
 |_=>.bad
def zvm{R:Type}:Nat->Int->(Nat->Option R)->Option R
 |0,_,_=>none
 |1,_,f=>f 0
 |m+2,n,f=>pIf (n==Int.ofNat (m+1)) (f (m+1)) (zvm (m+1) n f)
def inR(len:Nat)(n:Int):Option Unit:=if 0<=n∧n<(len:Int)then some ()else none
def strB(P:Program)(e:Nat):Bool:=match P.underlying e with
 |some .string=>true
 |_=>false
def y0o{T:Nat->Type}{R:Type}(P:Program)(len e:Nat)(x:TV T)(k:TV T->Option R)(n:Nat):Option R :=
 if n<len∧(P.underlying e).isSome then (match x with
  |.ref cs off=>k (.ref cs (off+n * P.cellsOf e))
  |.ptr s off=>k (.ptr s (off+n * P.cellsOf e))
  |.ap s t i x off=>k (.ap s t i x (off+n * P.cellsOf e))
  |_=>none)else none
def zts{R:Type}(ts:TS D.T)(t:Nat)(x i:TV D.T)(k:TV D.T->Option R):Option R :=
 match i with
 |.int _ n=>match P.underlying t with
  |some (.slice e)=>if (P.underlying e).isSome then (match x with
   |.sl τ xs _=>if D.len τ=P.cellsOf e then z57 (ix xs n) λy=>k (.ref (D.tv τ y).cells 0)else none
   |.own s=>match fnd ts.o s with
    |some (.acc _ τ xs _)=>if D.len τ=P.cellsOf e then z57 (ix xs n) λy=>k (.ap s τ n y 0)else none
    |some (.deep _ q xs _)=>if D.len (.st q)=P.cellsOf e then z57 (ix xs n) λ_=>k (.dp s n 0)else none
    |_=>none
   |_=>none)else none
  |some (.array len e)=>match strB P e with
   |true=>z57 (inR len n) λ_=>zvm len n (y0o P len e x k)
   |false=>(match n with
    |.ofNat n=>y0o P len e x k n
    |_=>none)
  |_=>none
 |_=>none
def yh7{R:Type}(t:Nat)(x i:TV D.T)(k:TV D.T->Option R):Option R :=
 match i with
 |.int _ n=>match x with
  |.str s=>match P.underlying t with
   |some .string=>z57 (ix s n) λb=>k (.int .u8 b.toNat)
   |_=>none
  |.agg cs=>match P.underlying t with
   |some (.array len e)=>match D.ty e with
    |some τ=>if cs.length=len∧P.cellsOf e=1∧(P.underlying e).isSome∧(P.underlying e).any (λd => !TypeDesc.isAgg d)then (match z7i D (List.replicate cs.length τ) cs with
     |.ok _=>match y9h D τ cs with
      |.ok xs=>z57 (ix xs n) λy=>k (D.leaf τ y)
      |_=>none
     |_=>none)else none
    |none=>none
   |_=>none
  |_=>none
 |_=>none
def yal(d:Int):Option (TV D.T)->Option Int
 |none=>some d
 |some (.int _ x)=>some x
 |_=>none
def yh1{R:Type}(t:Nat)(x:TV D.T)(lo hi:Option (TV D.T))(k:TV D.T->Option R)(kf:Nat->Option R):Option R :=
 match x with
 |.str s=>match P.underlying t with
  |some .string=>match yal D 0 lo,yal D s.length hi with
   |some l,some h=>z57 (sub s l h) λy=>k (.str y)
   |_,_=>none
  |_=>none
 |.sl τ xs fl=>match P.underlying t with
  |some (.slice e)=>if D.len τ=P.cellsOf e∧(P.underlying e).isSome then (match yal D 0 lo,yal D xs.length hi with
    |some l,some h=>z57 (sub xs l h) λy=>k (.sl τ y (match hi with|none=>min fl 1|some _=>0))
    |_,_=>none)else none
  |_=>none
 |.own s=>kf s
 |_=>none
def oev(ts:TS D.T):Option Operand->Option (Option (TV D.T))
 |none=>some none
 |some x=>(ts.ev x).map some
def cutO{α:Type}(xs:List α)(a:Int):Option Unit:=if 0<=a∧a<=xs.length∧0<xs.length then some ()else none
def tCut{R:Type}(ts:TS D.T)(t:Nat)(x lo:TV D.T)(k:TV D.T->Option R)(kf:Option R):Option R :=
 match x,lo with
 |.own s,.int .i64 a=>match P.underlying t,fnd ts.o s with
  |some (.slice e),some (.acc _ τ xs true)=>if D.len τ=P.cellsOf e∧(P.underlying e).isSome then z57 (cutO xs a) λ_=>k (.osl s a)else none
  |_,_=>none
 |_,_=>kf
def y8g{R:Type}(ts:TS D.T)(t:Nat)(x key:TV D.T)(ok:Bool)(k:TV D.T->Option R):Option R :=
 match P.underlying t,key with
 |some (.map kt e),.str s=>match P.underlying kt,y7f (T:=D.T) P e with
  |some .string,some z=>match x with
   |.map q=>match fnd ts.o q with
    |some (.mp _ τ es)=>match asD D τ z with
     |.ok z0=>(match ok with
      |true=>k (.tup [D.tv τ ((z58 es s).getD z0),.bool (z58 es s).isSome])
      |false=>k (D.tv τ ((z58 es s).getD z0)))
     |_=>none
    |_=>none
   |_=>none
  |_,_=>none
 |_,_=>none
def tP{R:Type}(ts:TS D.T)(op:Op)(k:TV D.T->Option R)(kf:Nat->Option R):Option R :=
 match op with
 |.pick c a b=>match ts.ev c,ts.ev a,ts.ev b with
  |some (.bool t),some x,some y=>pIf t (k x) (k y)
  |_,_,_=>none
 |.binOp o t x y _=>match ts.ev x,ts.ev y with
  |some x,some y=>tBin P o t x y k
  |_,_=>none
 |.indexAddr t x i=>match ts.ev x,ts.ev i with
  |some x,some i=>zts P D ts t x i k
  |_,_=>none
 |.index t x i=>match ts.ev x,ts.ev i with
  |some x,some i=>yh7 P D t x i k
  |_,_=>none
 |.lookup t x i ok=>match ts.ev x,ts.ev i with
  |some x,some i=>y8g P D ts t x i ok k
  |_,_=>none
 |.slice t x lo hi mx=>match ts.ev x,oev D ts lo,oev D ts hi,mx with
  |some x,some lo,some hi,none=>yh1 P D t x lo hi k kf
  |_,_,_,_=>none
 |.load t a=>match ts.ev a with
  |some (.dp s i off)=>yfu P D ts t s i off k
  |_=>(match tP1 P D ts (.load t a)with
   |.ok v=>k v
   |.frz s=>kf s
   |.bad=>none)
 |op=>match tP1 P D ts op with
  |.ok v=>k v
  |.frz s=>kf s
  |.bad=>none
mutual
def TV.ren(s s':Nat):TV D.T->TV D.T
 |.own j=>if j=s then .own s' else .own j
 |.dp j i off=>if j=s then .dp s' i off else .dp j i off
 |.agg cs=>.agg (TV.zpe s s' cs)
 |.tup cs=>.tup (TV.zpe s s' cs)
 |.bsl i cs=>.bsl i (TV.zpe s s' cs)
 |v=>v
def TV.zpe(s s':Nat):List (TV D.T)->List (TV D.T)
 |[]=>[]
 |v::vs=>TV.ren s s' v::TV.zpe s s' vs
end
mutual
def TV.frz(s:Nat)(m:Bool)(z:TV D.T):TV D.T->TV D.T
 |.own j=>match m with
  |true=>.own j
  |false=>if j=s then z else .own j
 |.map j=>match m with
  |true=>if j=s then z else .map j
  |false=>.map j
 |.agg cs=>.agg (TV.ycu s m z cs)
 |.tup cs=>.tup (TV.ycu s m z cs)
 |.bsl _ _=>.any
 |v=>v
def TV.ycu(s:Nat)(m:Bool)(z:TV D.T):List (TV D.T)->List (TV D.T)
 |[]=>[]
 |v::vs=>TV.frz s m z v::TV.ycu s m z vs
end
def TO.map(f:TV D.T->TV D.T):TO D.T->TO D.T
 |.cells cs=>.cells (cs.map f)
 |.bld ty (some s)=>match f (.own s)with
  |.own s'=>.bld ty (some s')
  |_=>.gone
 |.deep ty i xs (some (n,c,s))=>match f (.own s)with
  |.own s'=>.deep ty i xs (some (n,c,s'))
  |_=>.gone
 |o=>o
def gmap(f:TV D.T->TV D.T):Option Nat->Option Nat
 |none=>none
 |some s=>match f (.own s)with
  |.own s'=>some s'
  |_=>none
def TS.z9k(ts:TS D.T)(f:TV D.T->TV D.T):TS D.T :=
 {ts with t:=ts.t.map λp=>(p.1,f p.2),o:=ts.o.map λp=>(p.1,TO.map D f p.2),d:=ts.d.map λp=>(p.1,p.2.map f),g:=ts.g.map (gmap D f)}
def TS.freeze(ts:TS D.T)(s:Nat):Option (TS D.T) :=
 match ts.d,fnd ts.o s with
 |[],some (.acc _ t xs _)=>let ts':=ts.z9k D (TV.frz D s false (.sl t xs 0));some {ts' with o:=(s,.gone)::ts'.o}
 |[],some (.deep _ q xs none)=>let ts':=ts.z9k D (TV.frz D s false (.sl (.st q) xs 0));some {ts' with o:=(s,.gone)::ts'.o}
 |[],some (.mp _ t es)=>if t.flat then (let ts':=ts.z9k D (TV.frz D s true (.mc t es));some {ts' with o:=(s,.gone)::ts'.o})else none
 |_,_=>none
def TS.put(ts:TS D.T)(dst:Option Nat)(v:TV D.T):Option (TS D.T) :=
 match dst with
 |none=>some ts
 |some d=>if d<ts.nt then some {ts with t:=(d,v)::ts.t}else none
def TS.new(ts:TS D.T)(o:TO D.T):TS D.T:={ts with o:=(ts.nx,o)::ts.o,nx:=ts.nx+1}
def TS.set(ts:TS D.T)(s:Nat)(o:TO D.T):TS D.T:={ts with o:=(s,o)::ts.o}
def TS.zwv(ts:TS D.T)(s:Nat)(o:TO D.T):TS D.T:=((ts.new D o).set D s .gone).z9k D (TV.ren D s ts.nx)
def yb1{R:Type}(ts:TS D.T)(ty q:Nat)(xs:List (D.T q))(h:Option (Int×Nat×Nat))(s:Nat)(i:Int)(off:Nat)(x:TV D.T)(k:TV D.T->TS D.T->Option R)(kf:Nat->Option R):Option R :=
 match x with
 |.own c=>(match D.ow q off,Nat.blt off (D.fl q).length with
  |some _,true=>(match h with
   |none=>z57 (ix xs i) λ_=>k .any (ts.zwv D s (.deep ty q xs (some (i,off,c))))
   |some p=>(match Nat.beq p.2.1 off with
    |true=>z57 (zgw p.1 i) λ_=>z57 (ix xs i) λ_=>k .any (ts.zwv D s (.deep ty q xs (some (i,off,c))))
    |false=>kf s))
  |_,_=>none)
 |.agg cells=>(match off with
  |0=>(match h with
   |none=>(match zy4 D q (D.fl q) cells 0 with
    |.ok r=>z57 (ix xs i) λ_=>k .any (ts.zwv D s (.deep ty q (xs.set i.toNat (D.make q r.1)) (r.2.map λp=>(i,p.1,p.2))))
    |.frz s'=>kf s'
    |.bad=>none)
   |some _=>kf s)
  |_=>none)
 |_=>none
def y4m{R:Type}(ts:TS D.T)(t:Nat)(a x:TV D.T)(k:TV D.T->TS D.T->Option R)(kf:Nat->Option R):Option R :=
 if x.zzi&&(P.info? t).isSome&&x.cells.length==P.cellsOf t then
  match a with
  |.ptr s off=>match fnd ts.o s with
   |some (.cells cs)=>if off+x.cells.length<=cs.length then k .any (ts.set D s (.cells (zfa cs off x.cells)))else none
   |_=>none
  |.ap s τ i y off=>match fnd ts.o s with
   |some (.acc ty τ' xs true)=>if τ=τ'∧τ ≠ .nat∧off+x.cells.length<=(D.tv τ y).cells.length then
     (match asD D τ' (match D.tv τ y with| .agg cs=>.agg (zfa cs off x.cells)|_=>x)with
     |.ok z=>let ts':=(ts.z9k D (TV.ren D s ts.nx)).new D (.acc ty τ' (xs.set i.toNat z) true);k .any (ts'.set D s .gone)
     |.frz s=>kf s
     |.bad=>none)else none
   |_=>none
  |.dp s i off=>match fnd ts.o s with
   |some (.deep ty q xs h)=>if (List.range x.cells.length).all (λa=>(D.ow q (off+a)).isNone)=true∧off+x.cells.length<=(D.fl q).length then
     z57 (ix xs i) λy=>(match z7i D (D.fl q) (zfa (D.leaves (D.fl q) (D.get q y)) off x.cells)with
      |.ok z=>k .any (((ts.new D (.deep ty q (xs.set i.toNat (D.make q z)) h)).set D s .gone).z9k D (TV.ren D s ts.nx))
      |.frz s'=>kf s'
      |.bad=>none)else yb1 D ts ty q xs h s i off x k kf
   |_=>none
  |.bp s 1=>match fnd ts.o s,x with
   |some (.bld ty b),.own q=>k .any (ts.set D s (.bld ty (some q)))
   |_,_=>none
  |_=>none
 else none
def tSrc(ts:TS D.T)(τ:DTy):TV D.T->Option (List (τ.S D.T))
 |.nils=>some []
 |.sl t xs _=>za8 t τ xs
 |.own s=>match fnd ts.o s with
  |some (.acc _ t xs _)=>za8 t τ xs
  |_=>none
 |.str s=>match τ with
  |.int .u8=>some (yac s)
  |_=>none
 |_=>none
def tDst(ts:TS D.T)(e:Nat)(τ:DTy):TV D.T->Option (List (τ.S D.T)×Bool×Option Nat)
 |.nils=>some ([],true,none)
 |.sl t xs 1=>if τ = .int .u8 then none else (za8 t τ xs).map λxs=>(xs,false,none)
 |.sl t xs 2=>if τ = .int .u8 then none else (za8 t τ xs).map λxs=>(xs,true,none)
 |.own s=>match fnd ts.o s with
  |some (.acc e' t xs w)=>if e'=e then (za8 t τ xs).map λxs=>(xs,w,some s)else none
  |_=>none
 |_=>none
def y8y{R:Type}(ts:TS D.T)(t u:Nat)(s x:TV D.T)(k:TV D.T->TS D.T->Option R):Option R :=
 match P.underlying t,P.underlying u with
 |some (.slice e),some du=>
  match P.info? e,D.ty e with
  |some i,some τ=>
   match i.zero with
   |some z=>if zpl du&&decide (0<i.size)&&decide (i.bytes<=524288)&&z.cells.size==i.size&&D.len τ==i.size then
     (match tSrc D ts τ x,tDst D ts e τ s with
     |some ys,some (xs,w,old)=>z57 (ext xs ys) λzs=>
      k (.own ts.nx) (match old with|none=>ts.new D (.acc e τ zs w)|some s=>(ts.new D (.acc e τ zs w)).set D s .gone)
     |_,_=>none)else none
   |none=>none
  |_,_=>none
 |_,_=>none
def y1a{R:Type}(ts:TS D.T)(t u:Nat)(s:TV D.T)(q:Nat)(cells:List (TV D.T))(k:TV D.T->TS D.T->Option R)(kf:Nat->Option R):Option R :=
 match P.underlying t,P.underlying u with
 |some (.slice e),some du=>
  match P.info? e with
  |some i=>
   match i.zero with
   |some z=>if zpl du&&decide (0<i.size)&&decide (i.bytes<=524288)&&z.cells.size==i.size&&D.len (.st q)==i.size then
     (match zy4 D q (D.fl q) cells 0 with
     |.ok r=>(match s with
      |.nils=>z57 (ext [] [D.make q r.1]) λzs=>k (.own ts.nx) (ts.new D (.deep e q zs (r.2.map λp=>(0,p.1,p.2))))
      |.own s=>(match fnd ts.o s with
       |some (.deep e' q' xs h)=>if e'=e then (match h with
        |none=>(match za8 (.st q') (.st q) xs with
         |some xs=>z57 (ext xs [D.make q r.1]) λzs=>k (.own ts.nx) ((ts.new D (.deep e q zs (r.2.map λp=>((xs.length:Int),p.1,p.2)))).set D s .gone)
         |none=>none)
        |some _=>kf s)else none
       |_=>none)
      |_=>none)
     |.frz s'=>kf s'
     |.bad=>none)else none
   |none=>none
  |none=>none
 |_,_=>none
def ym2{R:Type}(ts:TS D.T)(t:Nat)(d s:TV D.T)(k:TV D.T->TS D.T->Option R):Option R :=
 match d,s with
 |.osl s a,.osl s' b=>if s=s' then (match P.underlying t,fnd ts.o s with
  |some (.slice e),some (.acc ty τ xs true)=>if D.len τ=P.cellsOf e∧(P.info? e).isSome then
    z57 (ya9 xs a b) λys=>k .any (((ts.z9k D (TV.ren D s ts.nx)).new D (.acc ty τ ys true)).set D s .gone)else none
  |_,_=>none)else none
 |_,_=>none
def y0z{R:Type}(ts:TS D.T)(t:Nat)(r:Option (TV D.T))(k:TV D.T->TS D.T->Option R):Option R :=
 match P.underlying t with
 |some (.map _ e)=>match D.ty e,r with
  |some τ,none=>k (.map ts.nx) (ts.new D (.mp t τ []))
  |some τ,some (.int _ _)=>k (.map ts.nx) (ts.new D (.mp t τ []))
  |_,_=>none
 |_=>none
def y0n{R:Type}(ts:TS D.T)(t:Nat)(m key x:TV D.T)(k:TV D.T->TS D.T->Option R):Option R :=
 match P.underlying t,m,key with
 |some (.map kt _),.map q,.str s=>match P.underlying kt,fnd ts.o q with
  |some .string,some (.mp ty τ es)=>match asD D τ x with
   |.ok y=>k .any (ts.set D q (.mp ty τ (z8l es s y)))
   |_=>none
  |_,_=>none
 |_,_,_=>none
def you{R:Type}(ts:TS D.T)(x:TV D.T)(str:Bool)(k:TV D.T->TS D.T->Option R):Option R :=
 match x,str with
 |.ptr s 0,true=>match fnd ts.o s with
  |some (.siter l pos)=>pIf (decide (pos<l.length)) (k (.tup [.bool true,.int .i64 pos,.int .i32 (z9m l pos).1]) (ts.set D s (.siter l (pos+(z9m l pos).2)))) (k (.tup [.bool false]) ts)
  |_=>none
 |_,_=>none
def tOp{R:Type}(ts:TS D.T)(op:Op)(k:TV D.T->TS D.T->Option R)(kf:Nat->Option R):Option R :=
 match op with
 |.alloc t=>match y7f (T:=D.T) P t with
  |some z=>if z.zzi then k (.ptr ts.nx 0) (ts.new D (.cells z.cells))else none
  |none=>none
 |.box _ x=>match ts.ev x with
  |some v=>if v.zzi then k (.ptr ts.nx 0) (ts.new D (.cells v.cells))else none
  |none=>none
 |.store t a x=>match ts.ev a,ts.ev x with
  |some a,some x=>y4m P D ts t a x k kf
  |_,_=>none
 |.makeMap t r=>match oev D ts r with
  |some r=>y0z P D ts t r k
  |none=>none
 |.mapUpdate t m i x=>match ts.ev m,ts.ev i,ts.ev x with
  |some m,some i,some x=>y0n P D ts t m i x k
  |_,_,_=>none
 |.insert t m i x=>match ts.ev m,ts.ev i,ts.ev x with
  |some m,some i,some x=>y0n P D ts t m i x k
  |_,_,_=>none
 |.range t x=>match ts.ev x with
  |some (.str s)=>match P.underlying t with
   |some .string=>k (.ptr ts.nx 0) (ts.new D (.siter s 0))
   |_=>none
  |_=>none
 |.next i b=>match ts.ev i with
  |some i=>you D ts i b k
  |none=>none
 |op=>match op with
  |.call c=>match c.callee,c.args.toList,c.argTypes.toList with
   |.builtin .append,[s,x],[t,u]=>match ts.ev s,ts.ev x with
    |some s,some (.bsl q [.agg cells])=>y1a P D ts t u s q cells k kf
    |some s,some x=>y8y P D ts t u s x k
    |_,_=>none
   |.builtin .copy,[d,s],[t,u]=>match ts.ev d,ts.ev s with
    |some d,some s=>ym2 P D ts t d s k
    |_,_=>none
   |_,_,_=>tP P D ts op (λv=>k v ts) kf
  |op=>tP P D ts op (λv=>k v ts) kf
end
inductive Sh where
 |any
 |d (t:DTy)
 |own (k:Nat)
 |ptr (k off:Nat)
 |bp (k:Nat)
 |map (k:Nat)
 |mc (t:DTy)
 |nilp
 |nilf
 |nili
 |nils
 |fn (f:Nat) (a b:List Sh)
 |iface (t:Nat) (s:Sh)
 |agg (cs:List Sh)
 |tup (cs:List Sh)
 |ref (cs:List Sh) (off:Nat)
 |dp (k off:Nat)
 |ap (k:Nat) (t:DTy) (off:Nat)
inductive OSh where
 |cells (cs:List Sh)
 |st (i:Nat)
 |acc (ty:Nat) (t:DTy) (w:Bool)
 |siter
 |rig
 |mp (ty:Nat) (t:DTy)
 |mit (t:DTy)
 |bld (ty k:Nat)
 |deep (ty i:Nat)
 |deeph (ty i f k:Nat)
mutual
def Sh.tys:Sh->List DTy
 |.d t=>[t]
 |.mc t=>[.sl .str,.sl t]
 |.fn _ a b=>Sh.zzl a++Sh.zzl b
 |.iface _ s=>s.tys
 |.agg cs=>Sh.zzl cs
 |.tup cs=>Sh.zzl cs
 |.ref cs _=>Sh.zzl cs
 |.dp _ _=>[.int .i64]
 |.ap _ t _=>[.int .i64,t]
 |_=>[]
def Sh.zzl:List Sh->List DTy
 |[]=>[]
 |s::l=>s.tys++Sh.zzl l
end
end Go.Ab
namespace Go.Ab
open Go
set_option linter.unusedVariables false
noncomputable section
def HL.upd{T:Nat->Type}:(l:List DTy)->HL T l->Nat->(t:DTy)->t.S T->Option (HL T l)
 |[],_,_,_,_=>none
 |t::_,x,0,t',y=>(zus t' t y).map λy=>(y,x.2)
 |_::l,x,j+1,t',y=>(HL.upd l x.2 j t' y).map λz=>(x.1,z)
def HL.at{T:Nat->Type}:(l:List DTy)->HL T l->Nat->Option ((t:DTy)×t.S T)
 |[],_,_=>none
 |t::_,x,0=>some ⟨t,x.1⟩
 |_::l,x,j+1=>HL.at l x.2 j
section
variable {D : Dat}
def ya3{T:Nat->Type}:List (TO T)->Nat->List (Nat×TO T)
 |[],_=>[]
 |o::r,n=>(n,o)::ya3 r (n+1)
def zve{T:Nat->Type}(l:List Nat):List (Nat×TO T):=l.map λs=>(s,.gone)
def TS.zn6(ts:TS D.T)(olds:List Nat)(tos:List (TO D.T)):TS D.T :=
 {ts with o:=ya3 tos ts.nx++(zve olds++ts.o),nx:=ts.nx+tos.length}
variable (D)
def Dat.zjs:DTy->Bool
 |.st q => !D.owns q
 |_=>true
def TS.fold{R:Type}(ts:TS D.T)(s:Nat)(k:TS D.T->Option R):Option R :=
 match fnd ts.o s with
 |some (.deep ty q xs (some (n,f,c)))=>(match D.ow q f with
  |some ty'=>(match fnd ts.o c with
   |some (.deep ty2 q' ys none)=>if ty'=ty2∧c≠s then z57 (ix xs n) λy=>(match HL.upd (D.fl q) (D.get q y) f (.sl (.st q')) ys with
     |some z=>k ((ts.zn6 [s,c] [.deep ty q (xs.set n.toNat (D.make q z)) none]).z9k D (TV.ren D s ts.nx))
     |none=>none)else none
   |some (.acc ty2 t' ys true)=>if ty'=ty2∧c≠s∧D.zjs t'=true then z57 (ix xs n) λy=>(match HL.upd (D.fl q) (D.get q y) f (.sl t') ys with
     |some z=>k ((ts.zn6 [s,c] [.deep ty q (xs.set n.toNat (D.make q z)) none]).z9k D (TV.ren D s ts.nx))
     |none=>none)else none
   |_=>none)
  |none=>none)
 |_=>none
def TS.opn{R:Type}(ts:TS D.T)(s:Nat)(n:Int)(f:Nat)(k:TV D.T->TS D.T->Option R):Option R :=
 match fnd ts.o s with
 |some (.deep ty q xs none)=>(match D.ow q f with
  |some ty'=>z57 (ix xs n) λy=>(match HL.at (D.fl q) (D.get q y) f with
   |some ⟨.sl (.st q'),ys⟩=>(match D.owns q' with
    |true=>k (.own (ts.nx+1)) ((ts.zn6 [s] [.deep ty q xs (some (n,f,ts.nx+1)),.deep ty' q' ys none]).z9k D (TV.ren D s ts.nx))
    |false=>k (.own (ts.nx+1)) ((ts.zn6 [s] [.deep ty q xs (some (n,f,ts.nx+1)),.acc ty' (.st q') ys true]).z9k D (TV.ren D s ts.nx)))
   |some ⟨.sl t',ys⟩=>(match D.zjs t' && !decide (t' = .int .u8)with
    |true=>k (.own (ts.nx+1)) ((ts.zn6 [s] [.deep ty q xs (some (n,f,ts.nx+1)),.acc ty' t' ys true]).z9k D (TV.ren D s ts.nx))
    |false=>none)
   |_=>none)
  |none=>none)
 |_=>none
def TV.pl{T:Nat->Type}:TV T->Bool
 |.bool _| .int _ _| .str _| .nilp| .nils| .mapn| .nilf| .nili| .sl _ _ _=>true
 |_=>false
mutual
def TV.see(ts:TS D.T):TV D.T->TV D.T
 |.own s=>(match fnd ts.o s with
  |some (.acc _ t xs _)=>.sl t xs 0
  |some (.deep _ q xs none)=>.sl (.st q) xs 0
  |_=>.any)
 |.agg cs=>.agg (TV.ykx ts cs)
 |.fn f a b=>(match a.all TV.pl&&b.all TV.pl with
  |true=>.fn f a b
  |false=>.any)
 |.bool b=>.bool b
 |.int k n=>.int k n
 |.str s=>.str s
 |.nilp=>.nilp
 |.nils=>.nils
 |.mapn=>.mapn
 |.nilf=>.nilf
 |.nili=>.nili
 |.sl t xs fl=>.sl t xs 0
 |_=>.any
def TV.ykx(ts:TS D.T):List (TV D.T)->List (TV D.T)
 |[]=>[]
 |v::vs=>TV.see ts v::TV.ykx ts vs
end
mutual
def TV.ymu{T:Nat->Type}:TV T->List Nat
 |.own s=>[s]
 |.agg cs=>TV.y2x cs
 |_=>[]
def TV.y2x{T:Nat->Type}:List (TV T)->List Nat
 |[]=>[]
 |v::vs=>TV.ymu v++TV.y2x vs
end
def isHole{T:Nat->Type}(ts:TS T)(s:Nat):Bool:=match fnd ts.o s with
 |some (.deep _ _ _ (some _))=>true
 |_=>false
def yod{T:Nat->Type}(ts:TS T)(s:Nat):Bool:=match fnd ts.o s with
 |some (.deep _ _ _ _)=>true
 |_=>false
def y0u{T:Nat->Type}:Nat->TS T->Nat->Nat
 |0,_,s=>s
 |f+1,ts,s=>match fnd ts.o s with
  |some (.deep _ _ _ (some p))=>(match isHole ts p.2.2 with
   |true=>y0u f ts p.2.2
   |false=>s)
  |_=>s
def yh0{R:Type}(P:Program)(ts:TS D.T)(t:Nat)(s:Nat)(i:Int)(off:Nat)(k:TV D.T->TS D.T->Option R)(kf:Nat->Option R):Option R :=
 match fnd ts.o s with
 |some (.deep _ q _ h)=>(match ymt D q off (szT P t)with
  |[]=>zp5 P D ts t s i off none λv=>k v ts
  |f::_=>(match h with
   |none=>ts.opn D s i f λv ts'=>zp5 P D ts t s i off (some (f,v)) λw=>k w ts'
   |some p=>(match Nat.beq p.2.1 f with
    |true=>z57 (zgw p.1 i) λ_=>zp5 P D ts t s i off (some (f,.own p.2.2)) λw=>k w ts
    |false=>kf s)))
 |_=>none
end
def mks{α β:Type}(es:List (α×β)):List α:=es.map Prod.fst
def mvs{α β:Type}(es:List (α×β)):List β:=es.map Prod.snd
theorem kz5{α β:Type}:∀es:List (α×β),List.zip (mks es) (mvs es)=es
 |[]=>rfl
 |(_,_)::l=>congrArg (_ :: ·) (kz5 l)
inductive Src (T:Nat->Type) where
 |slot (s:Nat)
 |nil
abbrev z1w(T:Nat->Type):=List (Nat×Src T)
section
variable {T : Nat → Type}
def Src.yl2(s:Nat):Src T->Bool
 |.slot s'=>s'==s
 |_=>false
def zc3(n k s:Nat)(M:z1w T):Option (z1w T) :=
 match fnd M k with
 |some (.slot s')=>if s'=s then some M else none
 |some _=>none
 |none=>if k<n∧M.all (λp => !p.2.yl2 s)then some ((k,.slot s)::M)else none
def yeu(n k:Nat)(M:z1w T):Option (z1w T) :=
 match fnd M k with
 |some .nil=>some M
 |some _=>none
 |none=>if k<n then some ((k,.nil)::M)else none
def frU(o:Option (z1w T)):FR (z1w T×Unit) :=
 match o with
 |some M=>.ok (M,())
 |none=>.bad
end
def OSh.tys:OSh->List DTy
 |.cells cs=>Sh.zzl cs
 |.st i=>[.st i]
 |.acc _ t _=>[.sl t]
 |.siter=>[.str,.nat]
 |.rig=>[]
 |.mp _ t=>[.sl .str,.sl t]
 |.mit t=>[.sl .str,.sl t]
 |.bld _ _=>[]
 |.deep _ i=>[.sl (.st i)]
 |.deeph _ i _ _=>[.sl (.st i),.int .i64]
def yzj:List OSh->List DTy
 |[]=>[]
 |o::l=>o.tys++yzj l
def yji:List (Nat×Sh)->List DTy
 |[]=>[]
 |p::l=>p.2.tys++yji l
section
variable (D : Dat)
mutual
def zyh(n:Nat):(sh:Sh)->TV D.T->z1w D.T->FR (z1w D.T×HL D.T sh.tys)
 |.any,_,M=>.ok (M,())
 |.d t,v,M=>match asD D t v with
  |.ok x=>.ok (M,(x,()))
  |.frz s=>.frz s
  |.bad=>.bad
 |.own k,.own s,M=>frU (zc3 n k s M)
 |.own k,.nils,M=>frU (yeu n k M)
 |.ptr k off,.ptr s off',M=>if off=off' then frU (zc3 n k s M)else .bad
 |.bp k,.bp s 0,M=>frU (zc3 n k s M)
 |.map k,.map s,M=>frU (zc3 n k s M)
 |.mc t,.mc t' es,M=>match zok t' t es with
  |some es=>.ok (M,(mks es,(mvs es,())))
  |none=>.bad
 |.mc _,.map s,_=>.frz s
 |.nilp,.nilp,M=>.ok (M,())
 |.nilf,.nilf,M=>.ok (M,())
 |.nili,.nili,M=>.ok (M,())
 |.nils,.nils,M=>.ok (M,())
 |.fn f a b,.fn f' a' b',M=>if f=f' then (match zrm n a a' M with
  |.ok (M,x)=>match zrm n b b' M with
   |.ok (M,y)=>.ok (M,HL.app x y)
   |.frz s=>.frz s
   |.bad=>.bad
  |.frz s=>.frz s
  |.bad=>.bad)else .bad
 |.iface t s,.iface t' v,M=>if t=t' then zyh n s v M else .bad
 |.agg cs,.agg vs,M=>zrm n cs vs M
 |.tup cs,.tup vs,M=>zrm n cs vs M
 |.ref cs off,.ref vs off',M=>if off=off' then zrm n cs vs M else .bad
 |.dp k off,.dp s i off',M=>if off=off' then (match zc3 n k s M with
  |some M=>.ok (M,(i,()))
  |none=>.bad)else .bad
 |.ap k t off,.ap s t' i x off',M=>if off=off' then (match zus t' t x with
  |some x=>(match zc3 n k s M with
   |some M=>.ok (M,(i,(x,())))
   |none=>.bad)
  |none=>.bad)else .bad
 |_,_,_=>.bad
def zrm(n:Nat):(l:List Sh)->List (TV D.T)->z1w D.T->FR (z1w D.T×HL D.T (Sh.zzl l))
 |[],[],M=>.ok (M,())
 |sh::l,v::vs,M=>match zyh n sh v M with
  |.ok (M,x)=>match zrm n l vs M with
   |.ok (M,y)=>.ok (M,HL.app x y)
   |.frz s=>.frz s
   |.bad=>.bad
  |.frz s=>.frz s
  |.bad=>.bad
 |_,_,_=>.bad
end
mutual
def zg4(m:Nat->Nat):(sh:Sh)->HL D.T sh.tys->TV D.T
 |.any,_=>.any
 |.d t,x=>D.tv t x.1
 |.own k,_=>.own (m k)
 |.ptr k off,_=>.ptr (m k) off
 |.bp k,_=>.bp (m k) 0
 |.map k,_=>.map (m k)
 |.mc t,x=>.mc t (List.zip x.1 x.2.1)
 |.nilp,_=>.nilp
 |.nilf,_=>.nilf
 |.nili,_=>.nili
 |.nils,_=>.nils
 |.fn f a b,x=>.fn f (z08 m a (HL.fst _ x)) (z08 m b (HL.snd _ x))
 |.iface t s,x=>.iface t (zg4 m s x)
 |.agg cs,x=>.agg (z08 m cs x)
 |.tup cs,x=>.tup (z08 m cs x)
 |.ref cs off,x=>.ref (z08 m cs x) off
 |.dp k off,x=>.dp (m k) x.1 off
 |.ap k t off,x=>.ap (m k) t x.1 x.2.1 off
def z08(m:Nat->Nat):(l:List Sh)->HL D.T (Sh.zzl l)->List (TV D.T)
 |[],_=>[]
 |sh::l,x=>zg4 m sh (HL.fst _ x)::z08 m l (HL.snd _ x)
end
def zw1(n:Nat)(ts:TS D.T):(o:OSh)->Src D.T->z1w D.T->FR (z1w D.T×HL D.T o.tys)
 |.cells cs,.slot s,M=>match fnd ts.o s with
  |some (.cells vs)=>zrm D n cs vs M
  |_=>.bad
 |.st i,.slot s,M=>match fnd ts.o s with
  |some (.cells vs)=>match z7i D (D.fl i) vs with
   |.ok x=>.ok (M,(D.make i x,()))
   |.frz s=>.frz s
   |.bad=>.bad
  |_=>.bad
 |.acc ty t w,.slot s,M=>match fnd ts.o s with
  |some (.acc ty' t' xs w')=>if ty=ty'∧(w=true->w'=true)then (match za8 t' t xs with|some xs=>.ok (M,(xs,()))|none=>.bad)else .bad
  |_=>.bad
 |.acc _ _ _,.nil,M=>.ok (M,([],()))
 |.siter,.slot s,M=>match fnd ts.o s with
  |some (.siter l pos)=>.ok (M,(l,(pos,())))
  |_=>.bad
 |.rig,.slot s,M=>match fnd ts.o s with
  |some .rig=>.ok (M,())
  |_=>.bad
 |.mp ty t,.slot s,M=>match fnd ts.o s with
  |some (.mp ty' t' es)=>if ty=ty' then (match zok t' t es with|some es=>.ok (M,(mks es,(mvs es,())))|none=>.bad)else .bad
  |_=>.bad
 |.mit t,.slot s,M=>match fnd ts.o s with
  |some (.mit t' _ es)=>(match zok t' t es with|some es=>.ok (M,(mks es,(mvs es,())))|none=>.bad)
  |_=>.bad
 |.bld ty k,.slot s,M=>match fnd ts.o s with
  |some (.bld ty' b)=>if ty=ty' then (match b with
   |some q=>frU (zc3 n k q M)
   |none=>frU (yeu n k M))else .bad
  |_=>.bad
 |.deep ty q,.slot s,M=>match fnd ts.o s with
  |some (.deep ty' q' xs h)=>if ty=ty' then (match h with
   |none=>(match za8 (.st q') (.st q) xs with
    |some xs=>.ok (M,(xs,()))
    |none=>.bad)
   |some _=>.frz s)else .bad
  |_=>.bad
 |.deep _ _,.nil,M=>.ok (M,([],()))
 |.deeph ty q f k,.slot s,M=>match fnd ts.o s with
  |some (.deep ty' q' xs h)=>if ty=ty' then (match h with
   |some p=>if f=p.2.1 then (match za8 (.st q') (.st q) xs with
    |some xs=>(match zc3 n k p.2.2 M with
     |some M=>.ok (M,(xs,(p.1,())))
     |none=>.bad)
    |none=>.bad)else .bad
   |none=>.bad)else .bad
  |_=>.bad
 |_,_,_=>.bad
def y45(n:Nat)(ts:TS D.T):(os:List OSh)->Nat->z1w D.T->FR (z1w D.T×HL D.T (yzj os))
 |[],_,M=>.ok (M,())
 |o::os,k,M=>match fnd M k with
  |some src=>match zw1 D n ts o src M with
   |.ok (M,x)=>match y45 n ts os (k+1) M with
    |.ok (M,y)=>.ok (M,HL.app x y)
    |.frz s=>.frz s
    |.bad=>.bad
   |.frz s=>.frz s
   |.bad=>.bad
  |none=>.bad
def ydh(n:Nat)(ts:TS D.T):(l:List (Nat×Sh))->z1w D.T->FR (z1w D.T×HL D.T (yji l))
 |[],M=>.ok (M,())
 |p::l,M=>match fnd ts.t p.1 with
  |some v=>match zyh D n p.2 v M with
   |.ok (M,x)=>match ydh n ts l M with
    |.ok (M,y)=>.ok (M,HL.app x y)
    |.frz s=>.frz s
    |.bad=>.bad
   |.frz s=>.frz s
   |.bad=>.bad
  |none=>.bad
def zgp(m:Nat->Nat):(o:OSh)->HL D.T o.tys->TO D.T
 |.cells cs,x=>.cells (z08 D m cs x)
 |.st i,x=>.cells (D.leaves (D.fl i) (D.get i x.1))
 |.acc ty t w,x=>.acc ty t x.1 w
 |.siter,x=>.siter x.1 x.2.1
 |.rig,_=>.rig
 |.mp ty t,x=>.mp ty t (List.zip x.1 x.2.1)
 |.mit t,x=>.mit t none (List.zip x.1 x.2.1)
 |.bld ty k,_=>.bld ty (some (m k))
 |.deep ty q,x=>.deep ty q x.1 none
 |.deeph ty q f k,x=>.deep ty q x.1 (some (x.2.1,f,m k))
def z1j(m:Nat->Nat):(os:List OSh)->Nat->HL D.T (yzj os)->List (Nat×TO D.T)
 |[],_,_=>[]
 |o::os,k,x=>(m k,zgp D m o (HL.fst _ x))::z1j m os (k+1) (HL.snd _ x)
def yce(m:Nat->Nat):(l:List (Nat×Sh))->HL D.T (yji l)->List (Nat×TV D.T)
 |[],_=>[]
 |p::l,x=>(p.1,zg4 D m p.2 (HL.fst _ x))::yce m l (HL.snd _ x)
end
structure LSh where
 ts:List (Nat×Sh)
 os:List OSh
 pin:Nat
 nt:Nat
 gs:List Nat:=[]
def LSh.tys(l:LSh):List DTy:=yji l.ts++yzj l.os
section
variable (D : Dat)
def LSh.bld(l:LSh)(x:HL D.T l.tys):TS D.T :=
 ⟨yce D (λk=>k) l.ts (HL.fst _ x),z1j D (λk=>k) l.os 0 (HL.snd _ x),l.os.length,l.nt,[],l.gs.map some⟩
def pins{T:Nat->Type}:Nat->z1w T
 |0=>[]
 |n+1=>(n,.slot n)::pins n
def ygx{T:Nat->Type}(n:Nat):List Nat->List (Option Nat)->z1w T->Option (z1w T)
 |[],[],M=>some M
 |k::ks,some s::ss,M=>match zc3 n k s M with
  |some M=>ygx n ks ss M
  |none=>none
 |_,_,_=>none
def LSh.fit(l:LSh)(ts:TS D.T):FR (HL D.T l.tys) :=
 if ts.nt=l.nt∧ts.d.isEmpty=true then (match ydh D l.os.length ts l.ts (pins l.pin)with
  |.ok (M,x)=>match ygx l.os.length l.gs ts.g M with
   |some M=>(match y45 D l.os.length ts l.os 0 M with
    |.ok (_,y)=>.ok (HL.app x y)
    |.frz s=>.frz s
    |.bad=>.bad)
   |none=>.bad
  |.frz s=>.frz s
  |.bad=>.bad)else .bad
def LSh.enter{R:Type}(l:LSh)(k:HL D.T l.tys->Option R):Nat->TS D.T->Option R
 |0,_=>none
 |f+1,ts=>match l.fit D ts with
  |.ok x=>k x
  |.frz s=>match isHole ts s with
   |true=>ts.fold D (y0u 9 ts s) λts'=>LSh.enter l k f ts'
   |false=>match ts.freeze D s with
    |some ts'=>LSh.enter l k f ts'
    |none=>none
  |.bad=>none
structure Ent where
 f:Nat
 p:Nat
 args:List Sh
 aos:List OSh
 outs:List Sh
 ros:List OSh
 pan:Sh
 pos:List OSh
 pure:Bool
 go:{R:Type}->HL D.T (Sh.zzl args++yzj aos)->(HL D.T (Sh.zzl outs++yzj ros)->Option R)->(HL D.T (pan.tys++yzj pos)->Option R)->Option R
 ren:List (Nat×Nat):=[]
 kc:List (Nat×Nat):=[]
def Ent.fit(e:Ent D)(vs:List (TV D.T))(ts:TS D.T):FR (z1w D.T×HL D.T (Sh.zzl e.args++yzj e.aos)) :=
 match zrm D e.aos.length e.args vs []with
 |.ok (M,x)=>match y45 D e.aos.length ts e.aos 0 M with
  |.ok (M,y)=>.ok (M,HL.app x y)
  |.frz s=>.frz s
  |.bad=>.bad
 |.frz s=>.frz s
 |.bad=>.bad
def z8e(M:z1w D.T)(p nx k:Nat):Nat :=
 if k<p then (match fnd M k with|some (.slot s)=>s|_=>0)else nx+(k-p)
def zfm:z1w D.T->List (Nat×TO D.T)
 |[]=>[]
 |(_,.slot s)::l=>(s,.gone)::zfm l
 |(_,.nil)::l=>zfm l
def z9q(M:z1w D.T)(p:Nat)(ts:TS D.T)(os:List OSh)(y:HL D.T (yzj os)):TS D.T :=
 {ts with o:=z1j D (z8e D M p ts.nx) os 0 y++(zfm D M++ts.o),nx:=ts.nx+(os.length-p)}
def zb5(M:z1w D.T)(p nx:Nat):List (Nat×Nat)->TS D.T->TS D.T
 |[],ts=>ts
 |q::l,ts=>match fnd M q.1 with
  |some (.slot s)=>zb5 M p nx l (ts.z9k D (TV.ren D s (z8e D M p nx q.2)))
  |_=>zb5 M p nx l ts
def z7a(M:z1w D.T)(old:TS D.T):List (Nat×Nat)->TS D.T->TS D.T
 |[],ts=>ts
 |q::l,ts=>match fnd M q.1 with
  |some (.slot s)=>(match fnd old.o s,fnd ts.o s with
   |some (.cells olds),some (.cells news)=>(match olds[q.2]? with
    |some v=>z7a M old l (ts.set D s (.cells (news.set q.2 v)))
    |none=>z7a M old l ts)
   |_,_=>z7a M old l ts)
  |_=>z7a M old l ts
def ye1(M:z1w D.T)(ts:TS D.T):List (Nat×Nat)->Bool
 |[]=>true
 |q::l=>(match fnd M q.1 with
  |some (.slot s)=>(match fnd ts.o s with
   |some (.cells olds)=>(match olds[q.2]? with
    |some (.own _)=>ye1 M ts l
    |_=>false)
   |_=>false)
  |_=>false)
def altK{R:Type}(pan:Sh)(k kp:TV D.T->TS D.T->Option R):TV D.T->TS D.T->Option R:=match pan with
 |.tup _=>k
 |_=>kp
def y2e:List (TV D.T)->TV D.T
 |[v]=>v
 |vs=>.tup vs
def yqf{R:Type}(f:Nat)(vs:List (TV D.T))(ts:TS D.T)(k kp:TV D.T->TS D.T->Option R)(kf:Nat->Option R):Option R:=none
def znw{R:Type}(f:Nat)(vs:List (TV D.T))(ts:TS D.T)(k kp:TV D.T->TS D.T->Option R)(kf:Nat->Option R):List (Ent D)->Option R
 |[]=>yqf D f vs ts k kp kf
 |e::r=>match Nat.beq e.f f with
  |false=>znw f vs ts k kp kf r
  |true=>match e.fit D vs ts with
   |.bad=>znw f vs ts k kp kf r
   |.frz s=>kf s
   |.ok (M,x)=>if ye1 D M ts e.kc=true∧e.p<=e.aos.length∧e.p<=e.ros.length∧e.p<=e.pos.length∧(List.range e.p).all (λk=>match fnd M k with|some (.slot _)=>true|_=>false)then
      e.go x (λy=>k (y2e D (z08 D (z8e D M e.p ts.nx) e.outs (HL.fst _ y))) (zb5 D M e.p ts.nx e.ren (z7a D M ts e.kc (z9q D M e.p ts e.ros (HL.snd _ y)))))
       (λy=>altK D e.pan k kp (zg4 D (z8e D M e.p ts.nx) e.pan (HL.fst _ y)) (z9q D M e.p ts e.pos (HL.snd _ y)))
      else none
end
def Sh.yl4:Sh->Bool
 |.d t=>t.flat
 |_=>false
def pBor{R:Type}(D:Dat)(f:Nat)(vs:List (TV D.T))(ts:TS D.T)(k:TV D.T->TS D.T->Option R)(kf:Option R):Option R:=kf
def yj1{R:Type}(D:Dat)(f:Nat)(vs:List (TV D.T))(ts:TS D.T)(k:TV D.T->TS D.T->Option R)(kf:Option R):List (Ent D)->Option R
 |[]=>pBor D f vs ts k kf
 |e::r=>match Nat.beq e.f f&&e.pure&&e.outs.all Sh.yl4 with
  |true=>(match e.fit D (TV.ykx D ts vs) ts with
   |.ok mx=>e.go mx.2 (λy=>k (y2e D (z08 D (λk=>k) e.outs (HL.fst _ y))) ts) (λ_=>none)
   |_=>yj1 D f vs ts k kf r)
  |false=>yj1 D f vs ts k kf r
section
variable (P : Program) (D : Dat) (tbl : List (Ent D))
def y49{R:Type}(op:Op)(k kp:TV D.T->TS D.T->Option R):Nat->TS D.T->Option R
 |0,_=>none
 |fuel+1,ts=>
  let kf:=λs=>match isHole ts s with
   |true=>ts.fold D (y0u 9 ts s) λts'=>y49 op k kp fuel ts'
   |false=>(match ts.freeze D s with
    |some ts'=>y49 op k kp fuel ts'
    |none=>none)
  match op with
  |.load t a=>(match ts.ev a with
   |some (.dp s i off)=>yh0 D P ts t s i off k kf
   |_=>tOp P D ts op k kf)
  |.call c=>match c.callee with
   |.value x=>match ts.ev x,ts.evs c.args.toList with
    |some (.fn f a b),some vs=>(match (TV.y2x (a++vs++b)).find? (yod ts)with
     |some _=>(match (TV.y2x (a++vs++b)).find? (isHole ts)with
      |some s=>kf s
      |none=>yj1 D f (a++vs++b) ts k (znw D f (a++vs++b) ts k kp kf tbl) tbl)
     |none=>znw D f (a++vs++b) ts k kp kf tbl)
    |_,_=>none
   |_=>tOp P D ts op k kf
  |.panic x=>match ts.ev x with
   |some (.iface t v)=>kp (.iface t v) ts
   |_=>none
  |.defer c=>match c.callee with
   |.value x=>match ts.ev x,ts.evs c.args.toList with
    |some (.fn f a b),some vs=>(match Nat.blt f 4000000000 with
     |true=>k .any {ts with d:=(f,a++vs++b)::ts.d}
     |false=>none)
    |_,_=>none
   |_=>none
  |.binOp o t x y _=>match ts.ev x,ts.ev y with
   |some .nili,some .nili=>(match isC x||isC y,P.underlying t with
    |true,some (.interface _)=>(match o with
     |.eql=>k (.bool true) ts
     |.neq=>k (.bool false) ts
     |_=>none)
    |_,_=>none)
   |_,_=>tOp P D ts op k kf
  |.alloc t=>match zeroV P t,P.info? t with
   |some (.agg [.nilp,.nils]),some i=>(match yqn P t&&Nat.beq i.size 2 with
    |true=>k (.bp ts.nx 0) (ts.new D (.bld t none))
    |false=>tOp P D ts op k kf)
   |_,_=>tOp P D ts op k kf
  |.convert s d x=>match ts.ev x with
   |some (.sl (.int .u8) xs _)=>(match P.underlying s,P.underlying d with
    |some (.slice e),some .string=>(match P.underlying e with
     |some (.int .u8)=>z57 (yat xs) λy=>k (.str y) ts
     |_=>none)
    |_,_=>none)
   |_=>tOp P D ts op k kf
  |.range t x=>match ts.ev x with
   |some (.map q)=>kf q
   |some (.mc τ es)=>(match P.underlying t with
    |some (.map _ _)=>k (.ptr ts.nx 0) (ts.new D (.mit τ none es))
    |_=>none)
   |_=>tOp P D ts op k kf
  |.next x false=>match ts.ev x with
   |some (.ptr s 0)=>(match fnd ts.o s with
    |some (.mit τ _ es)=>zxw es (λa y r=>k (.tup [.bool true,.str a,D.leaf τ y]) (ts.set D s (.mit τ (some (a,y)) r))) (k (.tup [.bool false]) ts)
    |_=>none)
   |_=>none
  |.entry x=>match ts.ev x with
   |some (.ptr s 0)=>(match fnd ts.o s with
    |some (.mit τ (some p) _)=>k (.tup [.str p.1,D.leaf τ p.2]) ts
    |_=>none)
   |_=>none
  |_=>tOp P D ts op k kf
def y1u{R:Type}(all:List Oper)(o:Oper)(ts:TS D.T)(go skip:TS D.T->Option R):Option R :=
 match o.guard with
 |none=>go ts
 |some (j,want)=>match (all[j]?).bind (·.dst)with
  |none=>none
  |some d=>match fnd ts.t d with
   |some (.bool b)=>pIf b (if want then go {ts with t:=(d,.bool true)::ts.t}else skip {ts with t:=(d,.bool true)::ts.t})
     (if want then skip {ts with t:=(d,.bool false)::ts.t}else go {ts with t:=(d,.bool false)::ts.t})
   |some (.tup _)=>skip ts
   |_=>none
def cpB(all:List Oper)(o:Oper):Option (Nat×Operand×Operand):=match o.op,o.dst with
 |.slice t x (some lo) none none,some d=>if all.any (λq=>match q.op with
  |.call c=>(match c.callee with
   |.builtin .copy=>c.args.toList.any λa=>(match a with
    |.tmp i=>Nat.beq i d
    |_=>false)
   |_=>false)
  |_=>false)then some (t,x,lo)else none
 |_,_=>none
def tPC{R:Type}(all:List Oper)(o:Oper)(k:TV D.T->Option R)(ts:TS D.T):Option R:=match cpB all o with
 |some (t,x,lo)=>(match ts.ev x,ts.ev lo with
  |some x,some lo=>tCut P D ts t x lo k (tP P D ts o.op k λ_=>none)
  |_,_=>none)
 |none=>tP P D ts o.op k λ_=>none
def litB(all:List Oper)(o:Oper):Bool:=match o.op,o.dst with
 |.buildSlice _ _ _,some d=>all.any λq=>(match q.op with
  |.assign (.tmp i)=>Nat.beq i d
  |_=>false)
 |_,_=>false
def tLit{R:Type}(ts:TS D.T)(op:Op)(k:TV D.T->TS D.T->Option R)(kf:Option R):Option R:=match op with
 |.buildSlice t len ps=>(match P.underlying t,ztw ts ps.toList with
  |some (.slice e),some qs=>(match zdf P D t len qs with
   |.ok (.sl τ xs 1)=>k (.own ts.nx) (ts.new D (.acc e τ xs true))
   |_=>kf)
  |_,_=>kf)
 |_=>kf
def yo9(o:Oper):Bool:=match o.op,o.dst with
 |.buildSlice _ _ _,some d=>tbl.any λe=>Nat.beq e.f 5000000000&&Nat.beq e.p d
 |_,_=>false
def yl6{R:Type}(all:List Oper)(o:Oper)(k kp:TV D.T->TS D.T->Option R)(ts:TS D.T):Option R:=match cpB all o with
 |some (t,x,lo)=>(match ts.ev x,ts.ev lo with
  |some x,some lo=>tCut P D ts t x lo (λv=>k v ts) (y49 P D tbl o.op k kp 9 ts)
  |_,_=>none)
 |none=>match litB all o||yo9 D tbl o with
  |true=>tLit P D ts o.op k (y49 P D tbl o.op k kp 9 ts)
  |false=>y49 P D tbl o.op k kp 9 ts
def zme{R:Type}(all:List Oper)(kn:TS D.T->Option R)(kp:TV D.T->TS D.T->Option R):List Oper->TS D.T->Option R
 |[],ts=>kn ts
 |o::rest,ts=>pOp o<|y1u D all o ts
  (λts=>yl6 P D tbl all o (λv ts=>match ts.put D o.dst v with|some ts=>zme all kn kp rest ts|none=>none) kp ts)
  (λts=>match ts.put D o.dst (.tup [])with|some ts=>zme all kn kp rest ts|none=>none)
def yim(f:Nat):Bool:=tbl.any λe=>Nat.beq e.f f&&e.pure
def yrd(op:Op):Bool :=
 match op with
 |.alloc _| .box _ _| .store _ _ _| .makeMap _ _| .mapUpdate _ _ _ _| .insert _ _ _ _| .range _ _| .next _ _| .panic _=>false
 |.call c=>match c.callee with
  |.builtin .len| .builtin .min| .builtin .max=>true
  |.value (.func f)=>yim D tbl f
  |_=>false
 |_=>true
def zd1{R:Type}(all:List Oper)(kn:TS D.T->Option R):List Oper->TS D.T->Option R
 |[],ts=>kn ts
 |o::rest,ts=>pOp o<|y1u D all o ts
  (λts=>match o.op with
   |.call c=>match c.callee with
    |.value x=>match ts.ev x,ts.evs c.args.toList with
     |some (.fn f a b),some vs=>(match (TV.y2x (a++vs++b)).find? (yod ts)with
      |some _=>yj1 D f (a++vs++b) ts (λv _=>match ts.put D o.dst v with|some ts=>zd1 all kn rest ts|none=>none) (znw D f (a++vs++b) ts (λv _=>match ts.put D o.dst v with|some ts=>zd1 all kn rest ts|none=>none) (λ_ _=>none) (λ_=>none) (tbl.filter (·.pure))) tbl
      |none=>znw D f (a++vs++b) ts (λv _=>match ts.put D o.dst v with|some ts=>zd1 all kn rest ts|none=>none) (λ_ _=>none) (λ_=>none) (tbl.filter (·.pure)))
     |_,_=>none
    |_=>tP P D ts o.op (λv=>match ts.put D o.dst v with|some ts=>zd1 all kn rest ts|none=>none) (λ_=>none)
   |_=>tPC P D all o (λv=>match ts.put D o.dst v with|some ts=>zd1 all kn rest ts|none=>none) ts)
  (λts=>match ts.put D o.dst (.tup [])with|some ts=>zd1 all kn rest ts|none=>none)
def yi5:List Oper->Nat
 |[]=>0
 |o::r=>if yrd D tbl o.op then yi5 r+1 else 0
def TV.ygq{T:Nat->Type}:TV T->Bool
 |.any| .own _| .osl _ _| .map _| .bp _ _=>false
 |_=>true
def TV.isOwn{T:Nat->Type}:TV T->Bool
 |.own _=>true
 |_=>false
def z13{T:Nat->Type}(ts:TS T)(s:Nat):Bool:=match fnd ts.o s with
 |some .gone=>false
 |some _=>true
 |none=>false
def plainO{T:Nat->Type}(ts:TS T)(x:Operand):Option (List Nat):=match ts.ev x with
 |some v=>(match v.ygq with
  |true=>some []
  |false=>none)
 |none=>none
def ownO{T:Nat->Type}(ts:TS T)(x:Operand):Option (List Nat):=match ts.ev x with
 |some (.own s)=>(match fnd ts.o s with
  |some (.acc _ _ _ _)=>some [s]
  |some (.deep _ _ _ _)=>some [s]
  |_=>none)
 |_=>plainO ts x
abbrev Rd:=Nat×Option Nat
def whole(l:List Nat):List Rd:=l.map λs=>(s,none)
def rdK{T:Nat->Type}(P:Program)(ts:TS T)(op:Op):Option (List Rd):=match op with
 |.load t a=>(match ts.ev a with
  |some (.ptr s off)=>(match Nat.beq (P.cellsOf t) 1 with
   |true=>some [(s,some off)]
   |false=>some [(s,none)])
  |some (.ap s _ _ _ _)=>some [(s,none)]
  |some (.dp s _ _)=>(match fnd ts.o s with
   |some (.deep _ _ _ _)=>some [(s,none)]
   |_=>none)
  |some (.ref _ _)=>some []
  |_=>none)
 |.indexAddr _ x _=>(ownO ts x).map whole
 |.slice _ x _ _ _=>(plainO ts x).map whole
 |.call c=>(match c.callee,c.args.toList with
  |.builtin .len,[x]=>(ownO ts x).map whole
  |.builtin .min,_=>some []
  |.builtin .max,_=>some []
  |_,_=>none)
 |.makeSlice _ _ _| .move _| .assign _| .pick _ _ _| .nilCheck _| .binOp _ _ _ _ _| .unOp _ _ _| .convert _ _ _| .makeInterface _ _| .makeFunc _ _ _| .fieldAddr _ _ _| .field _ _ _| .index _ _ _| .typeAssert _ _ _ _| .extract _ _| .build _ _| .buildSlice _ _ _=>some []
 |_=>none
def appW{T:Nat->Type}(nx:Nat):Option (TV T)->Option (TV T)->Option Nat
 |_,some (.bsl _ _)=>none
 |some (.sl _ _ _),_=>some nx
 |some .nils,_=>some nx
 |_,_=>none
def wrK{T:Nat->Type}(ts:TS T)(op:Op):Option Nat:=match op with
 |.alloc _=>some ts.nx
 |.box _ _=>some ts.nx
 |.store _ a _=>(match ts.ev a with
  |some (.ptr s _)=>some s
  |_=>none)
 |.call c=>(match c.callee,c.args.toList with
  |.builtin .append,[s,x]=>appW ts.nx (ts.ev s) (ts.ev x)
  |_,_=>none)
 |_=>none
def ybc{T:Nat->Type}(ts:TS T)(op:Op):Option Nat:=match wrK ts op with
 |some s=>some s
 |none=>(match op with
  |.store _ a _=>(match ts.ev a with
   |some (.ap s _ _ _ _)=>(match z13 ts s with
    |true=>some s
    |false=>none)
   |_=>none)
  |.call c=>(match c.callee,c.args.toList with
   |.builtin .append,[s,_]=>(match ts.ev s with
    |some (.own s)=>(match fnd ts.o s with
     |some (.acc _ _ _ _)=>some s
     |some (.deep _ _ _ _)=>some s
     |_=>none)
    |some .nils=>some ts.nx
    |_=>none)
   |_,_=>none)
  |_=>none)
abbrev Rds:=List (Nat×Option (List Rd))
abbrev Wrs:=List (Nat×Option Nat)
def ymz(all:List Oper)(i:Nat)(w:Option Nat)(rds:Rds):Bool:=rds.all λp=>y8p all p.1 i||(match p.2,w with
 |some [],_=>true
 |some R,some s=>R.all λq => !Nat.beq q.1 s
 |_,_=>false)
def y3m(all:List Oper)(i:Nat)(wrs:Wrs):Bool:=wrs.all λp=>y8p all p.1 i
def rdOk(all:List Oper)(i:Nat)(R:List Rd)(wrs:Wrs):Bool:=wrs.all λp=>y8p all p.1 i||(match R,p.2 with
 |[],_=>true
 |R,some s=>R.all λq => !Nat.beq q.1 s
 |_,_=>false)
def ybg(w:Option Nat)(rds:Rds):Rds:=match w with
 |some _=>rds
 |none=>rds.map λp=>(p.1,match p.2 with|some []=>some []|_=>none)
def yqv{T:Nat->Type}(ts:TS T)(rds:Rds):Rds:=rds.map λp=>(p.1,match p.2 with
 |some R=>(match R.all (λq=>z13 ts q.1)with
  |true=>some R
  |false=>none)
 |none=>none)
def y1z(w:Option Nat)(wrs:Wrs):Wrs:=match w with
 |some _=>wrs
 |none=>wrs.map λp=>(p.1,none)
def yq3(all:List Oper)(i:Nat)(rest:List Nat):Bool:=rest.all λj=>y8p all i j
def ym8(all:List Oper)(done:List Nat)(j:Nat):Bool := !done.any (Nat.beq j)&&(match all[j]? with
 |some o=>o.after.toList.all λe => !Region.binds .any e||done.any (Nat.beq e.on)
 |none=>false)
def sched(all:List Oper)(quiet:Op->Bool):Nat->List Nat->List Nat
 |0,_=>[]
 |n+1,done=>match (List.range all.length).find? λj=>ym8 all done j&&(match all[j]? with|some o=>quiet o.op|none=>false)with
  |some j=>j::sched all quiet n (j::done)
  |none=>match (List.range all.length).find? λj=>ym8 all done j with
   |some j=>j::sched all quiet n (j::done)
   |none=>[]
def yqh(kc:List (Nat×Nat))(k:Nat)(c:Option Nat):Bool:=match c with
 |some c=>kc.any λz=>Nat.beq z.1 k&&Nat.beq z.2 c
 |none=>false
def yof{T:Nat->Type}(all:List Oper)(i:Nat)(rds:Rds)(kc:List (Nat×Nat))(M:z1w T):Bool:=rds.all λp=>y8p all p.1 i||(match p.2 with
 |some R=>R.all λq=>M.all λm=>match m.2 with
  |.slot s => !Nat.beq q.1 s||yqh kc m.1 q.2
  |.nil=>true
 |none=>false)
def kcC(e:Ent D):List (Nat×Nat):=match e.pan with
 |.tup _=>[]
 |_=>e.kc
def yl7{R:Type}(f:Nat)(vs:List (TV D.T))(ts:TS D.T)(chk:List (Nat×Nat)->z1w D.T->Bool)(k kp:TV D.T->TS D.T->Option R):Option R:=none
def zw4{R:Type}(f:Nat)(vs:List (TV D.T))(ts:TS D.T)(chk:List (Nat×Nat)->z1w D.T->Bool)(k kp:TV D.T->TS D.T->Option R):List (Ent D)->Option R
 |[]=>yl7 D f vs ts chk k kp
 |e::r=>match Nat.beq e.f f with
  |false=>zw4 f vs ts chk k kp r
  |true=>match e.fit D vs ts with
   |.ok (M,x)=>if chk (kcC D e) M=true∧ye1 D M ts e.kc=true∧e.p<=e.aos.length∧e.p<=e.ros.length∧e.p<=e.pos.length∧(List.range e.p).all (λk=>match fnd M k with|some (.slot _)=>true|_=>false)then
      e.go x (λy=>k (y2e D (z08 D (z8e D M e.p ts.nx) e.outs (HL.fst _ y))) (zb5 D M e.p ts.nx e.ren (z7a D M ts e.kc (z9q D M e.p ts e.ros (HL.snd _ y)))))
       (λy=>altK D e.pan k kp (zg4 D (z8e D M e.p ts.nx) e.pan (HL.fst _ y)) (z9q D M e.p ts e.pos (HL.snd _ y)))
      else none
   |_=>zw4 f vs ts chk k kp r
def yqq(τ:DTy):TV D.T->Option (List (τ.S D.T))
 |.nils=>some []
 |.sl t xs _=>za8 t τ xs
 |_=>none
def fl12(n:Nat):Bool:=match n with
 |1=>true
 |2=>true
 |_=>false
def ymo{R:Type}(t u:Nat)(s x:TV D.T)(k:TV D.T->Option R):Option R :=
 match s with
 |.sl t' xs fl=>(match fl12 fl with
  |true=>(match P.underlying t,P.underlying u with
   |some (.slice e),some du=>(match P.info? e,D.ty e with
    |some i,some τ=>(match i.zero with
     |some z=>(match zpl du&&decide (0<i.size)&&decide (i.bytes<=524288)&&z.cells.size==i.size&&Nat.beq (D.len τ) i.size with
      |true=>(match za8 t' τ xs,yqq D τ x with
       |some xs,some ys=>z57 (ext xs ys) λzs=>k (.sl τ zs 0)
       |_,_=>none)
      |false=>none)
     |none=>none)
    |_,_=>none)
   |_,_=>none)
  |false=>none)
 |_=>none
def appB(op:Op):Bool:=match op with
 |.call c=>(match c.callee with
  |.builtin .append=>true
  |_=>false)
 |_=>false
def yr9(all:List Oper)(i:Nat):Bool:=(List.range all.length).any λj => !Nat.beq i j&&(match all[j]? with|some o=>yip o.op|none=>false) && !y8p all i j && !y8p all j i
def zab{R:Type}(all:List Oper)(kn:TS D.T->Option R)(kp:TV D.T->TS D.T->Option R):List Nat->Rds->Wrs->TS D.T->Option R
 |[],_,_,ts=>kn ts
 |i::rest,rds,wrs,ts=>match all[i]? with
 |none=>none
 |some o=>pOp o<|y1u D all o ts
  (λts=>match yip o.op with
   |true=>(match appB o.op&&yr9 all i with
    |true=>(match o.op with
     |.call c=>(match c.callee,c.args.toList,c.argTypes.toList with
      |.builtin .append,[s,x],[t,u]=>(match ts.ev s,ts.ev x with
       |some s,some x=>ymo P D t u s x (λv=>match ts.put D o.dst v with
        |some ts2=>zab all kn kp rest ((i,some [])::rds) wrs ts2
        |none=>none)
       |_,_=>none)
      |_,_,_=>none)
     |_=>none)
    |false=>(match ymz all i (ybc ts o.op) rds&&y3m all i wrs with
    |true=>tOp P D ts o.op (λv ts'=>match ts'.put D o.dst v with
     |some ts2=>zab all kn kp rest (ybg (wrK ts o.op) rds) ((i,wrK ts o.op)::y1z (wrK ts o.op) wrs) ts2
     |none=>none) (λ_=>none)
    |false=>none))
   |false=>(match yo9 D tbl o with
    |true=>(match ymz all i (some ts.nx) rds&&y3m all i wrs with
     |true=>tLit P D ts o.op (λv ts'=>match ts'.put D o.dst v with
      |some ts2=>zab all kn kp rest rds ((i,some ts.nx)::wrs) ts2
      |none=>none) none
     |false=>none)
    |false=>match rdK P ts o.op with
    |some R=>(match rdOk all i R wrs&&R.all (λq=>z13 ts q.1)with
     |true=>tP P D ts o.op (λv=>match ts.put D o.dst v with
      |some ts2=>zab all kn kp rest ((i,some R)::rds) wrs ts2
      |none=>none) (λ_=>none)
     |false=>none)
    |none=>(match o.op with
     |.call c=>(match c.callee with
      |.value x=>(match ts.ev x,ts.evs c.args.toList with
       |some (.fn f a b),some vs=>(match yim D tbl f && !vs.any TV.isOwn with
        |true=>znw D f (a++vs++b) ts (λv _=>match ts.put D o.dst v with
         |some ts2=>zab all kn kp rest ((i,some [])::rds) wrs ts2
         |none=>none) (λ_ _=>none) (λ_=>none) (tbl.filter (·.pure))
        |false=>(match yq3 all i rest&&y3m all i wrs with
         |true=>zw4 D f (a++vs++b) ts (yof all i rds) (λv ts'=>match ts'.put D o.dst v with
          |some ts2=>zab all kn kp rest (yqv ts2 rds) ((i,none)::y1z none wrs) ts2
          |none=>none) (λz ts'=>kp z {ts' with t:=[]}) (tbl.filter λe => !e.pure)
         |false=>none))
       |_,_=>none)
      |_=>none)
     |_=>none)))
  (λts=>match ts.put D o.dst (.tup [])with
   |some ts2=>zab all kn kp rest ((i,some [])::rds) wrs ts2
   |none=>none)
def dry1(ts:TS D.T)(op:Op):Option (TV D.T):=match op with
 |.move x=>ts.ev x
 |.assign x=>ts.ev x
 |.nilCheck x=>ts.ev x
 |.fieldAddr _ _ _=>tP P D ts op some (λ_=>none)
 |.binOp .add _ _ _ _=>tP P D ts op some (λ_=>none)
 |.binOp .sub _ _ _ _=>tP P D ts op some (λ_=>none)
 |.indexAddr _ x i=>(match ts.ev x,ts.ev i with
  |some (.own s),some (.int _ n)=>some (.dp s n 0)
  |_,_=>none)
 |.load _ a=>(match ts.ev a with
  |some (.ptr s off)=>(match fnd ts.o s with
   |some (.cells cs)=>cs[off]?
   |_=>none)
  |some (.dp s _ off)=>(match fnd ts.o s with
   |some (.deep _ _ _ (some p))=>(match Nat.beq p.2.1 off with
    |true=>some (.own p.2.2)
    |false=>none)
   |_=>none)
  |_=>none)
 |_=>none
def dryO:List Oper->TS D.T->Option (Nat×Int×Nat)
 |[],_=>none
 |o::r,ts=>
  let go:=λ_:Unit=>match ts.put D o.dst (match o.guard with
   |some _=>.any
   |none=>(match dry1 P D ts o.op with
    |some v=>v
    |none=>.any))with
   |some ts'=>dryO r ts'
   |none=>none
  match o.op with
  |.load _ a=>(match ts.ev a with
   |some (.dp s i off)=>(match fnd ts.o s with
    |some (.deep _ q _ none)=>(match D.ow q off with
     |some _=>some (s,i,off)
     |none=>go ())
    |_=>go ())
   |_=>go ())
  |_=>go ()
def yck{R:Type}(ops:List Oper):Nat->TS D.T->(TS D.T->Option R)->Option R
 |0,ts,k=>k ts
 |n+1,ts,k=>match dryO P D ops ts with
  |some q=>ts.opn D q.1 q.2.1 q.2.2 λ_ ts=>yck ops n ts k
  |none=>k ts
def yr6(ops:Array Oper):Nat:=match ops.toList.any (yo9 D tbl)with
 |true=>0
 |false=>yi5 D tbl ops.toList
def zw0{R:Type}(ops:Array Oper)(draw:Bool)(ts:TS D.T)(kn:TS D.T->Option R)(kp:TV D.T->TS D.T->Option R):Option R :=
 if draw then
  let n:=yr6 D tbl ops
  if P.follows .mixedOrders then
   (if n=ops.size then (if Region.lexB .any ops then zd1 P D tbl ops.toList kn ops.toList ts else none)
   else (if Region.lexTailB .any ops n then (yck P D ops.toList 4 ts λts=>zd1 P D tbl ops.toList (λts=>zme P D tbl ops.toList kn kp (ops.toList.drop n) ts) (ops.toList.take n) ts)
   else (let l:=sched ops.toList (λop => !yip op&&(match op with| .call c=>(match c.callee with| .value (.func f)=>yim D tbl f| .value _=>false|_=>true)|_=>true)) ops.size []
    if zwm .any ops l (Array.replicate ops.size false)&&Nat.beq l.length ops.size&&(List.range ops.size).all (λj=>l.any (Nat.beq j))then (yck P D ops.toList 4 ts λts=>zab P D tbl ops.toList kn kp l [] [] ts)else none)))
  else none
 else zme P D tbl ops.toList kn kp ops.toList ts
end
inductive AC where
 |skip
 |region (id:Nat) (ops:Array Oper) (draw:Bool)
 |seq (a b:AC)
 |cond (c:Operand) (a b:AC)
 |block (id:Nat) (a:AC)
 |loop (a:AC)
 |exit (id:Nat)
 |ret
 |lab (l:Nat) (a:AC)
 |rng (lf:Nat) (g:Operand) (p:Nat) (a b:AC)
 |other (c:Code)
def AC.erase:AC->Code
 |.skip=>.skip
 |.region id ops d=>.region id ops d
 |.seq a b=>.seq a.erase b.erase
 |.cond c a b=>.cond c a.erase b.erase
 |.block id a=>.block id a.erase
 |.loop a=>.loop a.erase
 |.exit id=>.exit id
 |.ret=>.ret
 |.lab _ a=>a.erase
 |.rng _ g p a b=>.rangeFunc g #[p] a.erase b.erase
 |.other c=>c
def AC.labels:AC->List Nat
 |.seq a b=>a.labels++b.labels
 |.cond _ a b=>a.labels++b.labels
 |.block _ a=>a.labels
 |.loop a=>a.labels
 |.lab l a=>l::a.labels
 |_=>[]
def AC.zg7:AC->List Nat
 |.seq a b=>a.zg7++b.zg7
 |.cond _ a b=>a.zg7++b.zg7
 |.block _ a=>a.zg7
 |.loop a=>a.zg7
 |.lab _ a=>a.zg7
 |.rng lf _ _ _ _=>[lf]
 |_=>[]
def zu6(f:List (Nat×Nat))(i:Nat)(a:AC):AC :=
 match fnd f i with
 |some l=>.lab l a
 |none=>a
def ann(f:List (Nat×Nat)):Code->Nat->AC×Nat
 |.skip,i=>(zu6 f i .skip,i+1)
 |.region id ops d,i=>(zu6 f i (.region id ops d),i+1)
 |.seq a b,i=>
  let x:=ann f a (i+1)
  let y:=ann f b x.2
  (zu6 f i (.seq x.1 y.1),y.2)
 |.cond c a b,i=>
  let x:=ann f a (i+1)
  let y:=ann f b x.2
  (zu6 f i (.cond c x.1 y.1),y.2)
 |.block id a,i=>
  let x:=ann f a (i+1)
  (zu6 f i (.block id x.1),x.2)
 |.loop a,i=>
  let x:=ann f a (i+1)
  (zu6 f i (.loop x.1),x.2)
 |.exit id,i=>(zu6 f i (.exit id),i+1)
 |.ret,i=>(zu6 f i .ret,i+1)
 |.rangeFunc g ps a b,i=>match fnd f (i+1000000),ps with
  |some lf,⟨[p]⟩ =>
   let x:=ann f a (i+1)
   let y:=ann f b x.2
   (zu6 f i (.rng lf g p x.1 y.1),y.2)
  |_,_=>(.other (.rangeFunc g ps a b),i+1)
 |c,i=>(.other c,i+1)
structure Lb(D:Dat)(R:Type) where
 sh:LSh
 go:HL D.T sh.tys->Option R
def jump(D:Dat){R:Type}(z02:List (Nat×Lb D R))(l:Nat)(ts:TS D.T):Option R :=
 match fnd z02 l with
 |some lb=>lb.sh.enter D lb.go 9 ts
 |none=>none
structure Ks(T:Nat->Type)(R:Type) where
 kn:TS T->Option R
 kx:List (Nat×(TS T->Option R))
 kr:TS T->Option R
 kp:TV T->TS T->Option R
section
variable (P : Program) (D : Dat) (tbl : List (Ent D)) {R : Type} (J : Nat → TS D.T → Option R)
def ylp(ts:TS D.T):List (TV D.T)->Option Nat
 |[]=>none
 |v::l=>match v with
  |.own k=>(match fnd ts.o k with
   |some (.acc _ _ _ _)=>some k
   |_=>ylp ts l)
  |_=>ylp ts l
def usedB(r:List Oper)(dst:Option Nat):Bool:=match dst with
 |some d=>r.any λq=>(match q.op with
  |.call c=>(match c.callee with
   |.value (.func f)=>yim D tbl f&&c.args.toList.any λa=>(match a with
    |.tmp i=>Nat.beq i d
    |_=>false)
   |_=>false)
  |_=>false)
 |none=>false
def preS:List Oper->TS D.T->Option Nat
 |[],_=>none
 |o::r,ts=>match o.op with
  |.slice _ x _ _ _=>(match ts.ev x with
   |some (.own k)=>(match fnd ts.o k with
    |some (.deep _ _ _ _)=>some k
    |_=>none)
   |_=>none)
  |.buildSlice _ _ _=>preS r ts
  |.fieldAddr _ _ _| .load _ _| .move _=>(match tP1 P D ts o.op with
   |.ok v=>(match yfw D ts (match v with| .agg cells=>cells|_=>[])with
    |some k=>some k
    |none=>(match ylp D ts (match usedB D tbl r o.dst with|true=>(match v with| .agg cells=>cells|_=>[])|false=>[])with
     |some k=>some k
     |none=>(match ts.put D o.dst v with
      |some ts=>preS r ts
      |none=>none)))
   |_=>none)
  |.call _=>preS r ts
  |_=>none
def pre1(ops:Array Oper)(ts:TS D.T):TS D.T:=match preS P D tbl ops.toList ts with
 |some s=>(match ts.freeze D s with
  |some ts'=>ts'
  |none=>ts)
 |none=>ts
def pre(ops:Array Oper)(d:Bool)(ts:TS D.T):TS D.T:=match d with
 |true=>pre1 P D tbl ops (pre1 P D tbl ops ts)
 |false=>ts
def run:AC->TS D.T->Ks D.T R->Option R
 |.skip,ts,K=>K.kn ts
 |.region _ ops d,ts,K=>zw0 P D tbl ops d (pre P D tbl ops d ts) K.kn K.kp
 |.seq a b,ts,K=>run a ts {K with kn:=λts=>run b ts K}
 |.cond c a b,ts,K=>match ts.ev c with
  |some (.bool v)=>(match c with
   |.tmp t=>pIf v (run a {ts with t:=(t,.bool true)::ts.t} K) (run b {ts with t:=(t,.bool false)::ts.t} K)
   |_=>pIf v (run a ts K) (run b ts K))
  |_=>none
 |.block id a,ts,K=>run a ts {K with kx:=(id,K.kn)::K.kx}
 |.loop _,_,_=>none
 |.exit id,ts,K=>match fnd K.kx id with
  |some k=>k ts
  |none=>none
 |.ret,ts,K=>K.kr ts
 |.lab l _,ts,_=>J l ts
 |.rng _ _ _ _ _,_,_=>none
 |.other _,_,_=>none
def yll(a b:B8):Option Unit:=if a=b then some ()else none
def capS(s:B8):Option Unit:=if s.length<=4611686018427387904 then some ()else none
def TS.back{T:Nat->Type}(ts ts':TS T):TS T:={ts' with t:=ts.t,d:=ts.d,nt:=ts.nt}
def TS.mark{T:Nat->Type}(ts:TS T):TS T:={ts with d:=(4000000000,[])::ts.d}
def yfm(l lf:Nat)(g:Operand)(p:Nat)(a b:AC)(K:Ks D.T R)(ts:TS D.T):Option R :=
 match a.labels,b.labels,calm a.erase&&calm b.erase with
 |[],[],true=>(match ts.ev g with
  |some (.fn f [] [.ptr k 0])=>(match Nat.beq f lf,fnd ts.o k with
   |true,some (.cells [.str r])=>z57 (capS r) λ_=>pIf (noS r) (K.kn ts.mark) (match TS.put D {ts with d:=[]} (some p) (.str (lnA r))with
    |some ts1=>run P D tbl J a (ts1.set D k (.cells [.str (lnB r)])) ⟨λts2=>run P D tbl J b ts2 ⟨λts'=>(match fnd ts'.o k with
      |some (.cells [.str r'])=>z57 (yll r' (lnB r)) λ_=>J l (ts.back ts')
      |_=>none),K.kx.map (λq=>(q.1,λts'=>q.2 (ts.back ts').mark)),λts'=>K.kr (ts.back ts').mark,λ_ _=>none⟩,[],λ_=>none,λ_ _=>none⟩
    |none=>none)
   |_,_=>none)
  |_=>none)
 |_,_,_=>none
def yl8(l:Nat)(a:AC)(K:Ks D.T R):TS D.T->Option R:=λts=>
 match a with
 |.loop b=>run P D tbl J b ts {K with kn:=J l}
 |.rng lf g p a b=>yfm P D tbl J l lf g p a b K ts
 |a=>run P D tbl J a ts K
def AC.at(l:Nat):AC->Ks D.T R->(TS D.T->Option R)->Option (TS D.T->Option R)
 |.seq a b,K,_=>match AC.at l a {K with kn:=λts=>run P D tbl J b ts K} (λ_=>none)with
  |some x=>some x
  |none=>AC.at l b K (λ_=>none)
 |.cond _ a b,K,_=>match AC.at l a K (λ_=>none)with
  |some x=>some x
  |none=>AC.at l b K (λ_=>none)
 |.block id a,K,_=>AC.at l a {K with kx:=(id,K.kn)::K.kx} (λ_=>none)
 |.loop a,K,kl=>AC.at l a {K with kn:=kl} (λ_=>none)
 |.lab l' a,K,_=>match Nat.beq l' l with
  |true=>some (yl8 P D tbl J l' a K)
  |false=>AC.at l a K (J l')
 |_,_,_=>none
end
def yjt{α:Type}:List α->Nat->List (Nat×α)
 |[],_=>[]
 |a::l,k=>(k,a)::yjt l (k+1)
def entry(D:Dat)(args:List Sh)(aos:List OSh)(nt:Nat)(gs:List Nat)(x:HL D.T (Sh.zzl args++yzj aos)):TS D.T :=
 ⟨yjt (z08 D (λk=>k) args (HL.fst _ x)) 0,z1j D (λk=>k) aos 0 (HL.snd _ x),aos.length,nt,[],gs.map some⟩
def zoh(P:Program)(D:Dat)(ts:TS D.T):List ResultVar->Option (List (TV D.T))
 |[]=>some []
 |.tmp t::rs=>match fnd ts.t t,zoh P D ts rs with
  |some v,some vs=>some (v::vs)
  |_,_=>none
 |.cell a t::rs=>match fnd ts.t a with
  |some p=>match yi1 P D ts t p,zoh P D ts rs with
   |some v,some vs=>some (v::vs)
   |_,_=>none
  |none=>none
def zq8{R:Type}(D:Dat)(l:LSh)(pack:HL D.T l.tys->R):Ks D.T R :=
 ⟨l.enter D (λx=>some (pack x)) 9,[],l.enter D (λx=>some (pack x)) 9,λ_ _=>none⟩
def TS.zw9{T:Nat->Type}(ts:TS T):TS T:=match ts.d with
 |[(f,[])]=>(match Nat.beq f 4000000000 with
  |true=>{ts with d:=[]}
  |false=>ts)
 |_=>ts
def yc9{R:Type}(D:Dat)(l:LSh)(pack:HL D.T l.tys->R):Ks D.T R :=
 ⟨λts=>l.enter D (λx=>some (pack x)) 9 ts.zw9,[],λts=>l.enter D (λx=>some (pack x)) 9 ts.zw9,λ_ _=>none⟩
section
variable (D : Dat)
def ygo(pan:Sh)(pos:List OSh)(p:Nat)(z:TV D.T)(ts:TS D.T):Option (HL D.T (pan.tys++yzj pos)) :=
 match ts.d with
 |[]=>match zyh D pos.length pan z (pins p)with
  |.ok (M,x)=>match y45 D pos.length ts pos 0 M with
   |.ok (_,y)=>some (HL.app x y)
   |_=>none
  |_=>none
 |_=>none
def zqj:Option Sh->List DTy
 |none=>[]
 |some s=>s.tys
structure zhp where
 f:Nat
 args:List Sh
 aos:List OSh
 m:Option Sh
 ros:List OSh
 go:HL D.T (Sh.zzl args++yzj aos)->HL D.T (zqj m)->Option (HL D.T (yzj ros))
def zhp.ent(de:zhp D):Ent D:={f:=de.f,p:=de.aos.length,args:=de.args,aos:=de.aos,outs:=[],ros:=de.ros,pan:=.nilp,pos:=[],pure:=false,go:=λ_ _ _=>none}
def yar:(m:Option Sh)->Option (TV D.T)->Option (HL D.T (zqj m))
 |none,none=>some ()
 |some s,some z=>match zyh D 0 s z []with
  |.ok (_,x)=>some x
  |_=>none
 |_,_=>none
def zx4{R:Type}(f:Nat)(vs:List (TV D.T))(m:Option (TV D.T))(ts:TS D.T)(k:TS D.T->Option R):List (zhp D)->Option R
 |[]=>none
 |de::r=>match Nat.beq de.f f with
  |false=>zx4 f vs m ts k r
  |true=>match yar D de.m m with
   |none=>zx4 f vs m ts k r
   |some mx=>match de.ent.fit D vs ts with
    |.ok (M,x)=>if de.aos.length<=de.ros.length∧(List.range de.aos.length).all (λk=>match fnd M k with|some (.slot _)=>true|_=>false)then
       z57 (de.go x mx) λy=>k (z9q D M de.aos.length ts de.ros y)else none
    |_=>zx4 f vs m ts k r
def zd8{R:Type}(des:List (zhp D))(k:TS D.T->Option R)(kp:TV D.T->TS D.T->Option R):List (Nat×List (TV D.T))->Option (TV D.T)->TS D.T->Option R
 |[],none,ts=>k ts
 |[],some z,ts=>kp z ts
 |(f,vs)::r,m,ts=>match Nat.blt f 4000000000 with
  |true=>zx4 D f vs m ts (λts'=>zd8 des k kp r none {ts' with d:=r}) des
  |false=>none
def ymj{X R:Type}(pan:Sh)(pos:List OSh)(p:Nat)(packp:HL D.T (pan.tys++yzj pos)->X)(z:TV D.T)(ts:TS D.T):Option (Res X R):=match ygo D pan pos p z ts with
 |some y=>some (.pan (packp y))
 |none=>none
def yhy{X R:Type}(des:List (zhp D))(l:LSh)(pack:HL D.T l.tys->R)(pan:Sh)(pos:List OSh)(p:Nat)(packp:HL D.T (pan.tys++yzj pos)->X):Ks D.T (Res X R) :=
 ⟨λts=>zd8 D des (l.enter D (λx=>some (.ok (pack x))) 9) (ymj D pan pos p packp) ts.d none ts,[],
  λts=>zd8 D des (l.enter D (λx=>some (.ok (pack x))) 9) (ymj D pan pos p packp) ts.d none ts,
  λz ts=>zd8 D des (l.enter D (λx=>some (.ok (pack x))) 9) (ymj D pan pos p packp) ts.d (some z) ts⟩
def yhv{R:Type}(des:List (zhp D))(l:LSh)(pack:HL D.T l.tys->R):Ks D.T R :=
 ⟨λts=>zd8 D des (l.enter D (λx=>some (pack x)) 9) (λ_ _=>none) ts.d none ts,[],
  λts=>zd8 D des (l.enter D (λx=>some (pack x)) 9) (λ_ _=>none) ts.d none ts,
  λz ts=>zd8 D des (l.enter D (λx=>some (pack x)) 9) (λ_ _=>none) ts.d (some z) ts⟩
def runS{R:Type}(P:Program)(tbl:List (Ent D))(J:Nat->TS D.T->Option R)(mv:TV D.T):AC->TS D.T->Ks D.T R->Option R
 |.seq (.region _ ops false) b,ts,K=>match ops.toList with
  |o::rest=>match isRec o with
   |true=>match ts.put D o.dst mv with
    |some ts=>zme P D tbl ops.toList (λts=>run P D tbl J b ts K) K.kp rest ts
    |none=>none
   |false=>none
  |[]=>none
 |_,_,_=>none
end
set_option linter.unusedSimpArgs false
theorem yz8{α:Type}(i:Nat)(a:α)(r:List (Nat×α))(j:Nat):fnd ((i,a)::r) j=if i=j then some a else fnd r j:=by
 simp only[fnd]
 cases h:Nat.beq i j with
 |true=>rw[Qbx (Qaj h)]
 |false=>rw[Qby (λe=>by rw[e,Nat.beq_refl]at h;cases h)]
theorem zh2{α:Type}(f:α->α):∀(l:List (Nat×α)) (j:Nat),fnd (l.map λp=>(p.1,f p.2)) j=(fnd l j).map f
 |[],j=>rfl
 |(i,a)::r,j=>by
  rw[List.map_cons,yz8,yz8];split;rfl;exact zh2 f r j
def HL.nth{T:Nat->Type}:(l:List DTy)->HL T l->Nat->Option ((t:DTy)×t.S T)
 |[],_,_=>none
 |t::_,x,0=>some ⟨t,x.1⟩
 |_::l,x,j+1=>HL.nth l x.2 j
theorem HL.zgi{T:Nat->Type}:∀(l:List DTy) (x:HL T l) (j:Nat),j<l.length->∃p,HL.nth l x j=some p∧l[j]? = some p.1
 |[],_,j,h=>by simp at h
 |t::_,x,0,_=>⟨⟨t,x.1⟩,rfl,rfl⟩
 |_::l,x,j+1,h=>by
  obtain⟨p,h1,h2⟩:=HL.zgi l x.2 j (by simpa using h);exact⟨p,h1,by simpa using h2⟩
theorem HL.zay{T:Nat->Type}:∀(l:List DTy) (x:HL T l) (j:Nat) (p:(t:DTy)×t.S T),HL.nth l x j=some p->j<l.length∧l[j]? = some p.1
 |[],_,j,p,h=>by simp[HL.nth]at h
 |t::_,x,0,p,h=>by simp[HL.nth]at h;subst h;simp
 |_::l,x,j+1,p,h=>by
  obtain⟨h1,h2⟩:=HL.zay l x.2 j p h;exact⟨by simpa using h1,by simpa using h2⟩
structure Dat.Ok(P:Program)(D:Dat):Prop where
 enc:∀i x,D.enc i x = .agg (D.els (D.fl i) (D.get i x))
 getMake:∀i x,D.get i (D.make i x)=x
 flat:∀i t,t∈D.fl i->(match t with| .st _=>False| .nat=>False|_=>True)
 ty:∀e t,D.ty e=some t->t ≠ .nat
 kin:∀i x (Dm:Nat->Nat->Prop),V.kin Dm (D.enc i x)
section
variable {D : Dat}
theorem y0r:∀(l:List DTy) (x:HL D.T l),(D.els l x).length=l.length
 |[],_=>rfl
 |t::l,x=>by simp[Dat.els,y0r l x.2]
theorem y9d:∀(l:List DTy) (x:HL D.T l) (j:Nat),(D.els l x)[j]? = (HL.nth l x j).map λp=>D.el p.1 p.2
 |[],_,j=>by simp[Dat.els,HL.nth]
 |t::l,x,0=>by simp[Dat.els,HL.nth]
 |t::l,x,j+1=>by simpa[Dat.els,HL.nth]using y9d l x.2 j
theorem z82:∀(l:List DTy) (x:HL D.T l),(D.leaves l x).length=l.length
 |[],_=>rfl
 |t::l,x=>by simp[Dat.leaves,z82 l x.2]
theorem zdb:∀(l:List DTy) (x:HL D.T l) (j:Nat),(D.leaves l x)[j]? = (HL.nth l x j).map λp=>D.leaf p.1 p.2
 |[],_,j=>by simp[Dat.leaves,HL.nth]
 |t::l,x,0=>by simp[Dat.leaves,HL.nth]
 |t::l,x,j+1=>by simpa[Dat.leaves,HL.nth]using zdb l x.2 j
inductive DR (D:Dat):(t:DTy)->t.S D.T->V->Prop where
 |bool (b:Bool):DR D .bool b (.bool b)
 |int (k:IntKind) (n:Int):DR D (.int k) n (.int k n)
 |str (s:B8):DR D .str s (.str s)
 |nat (n:Nat):DR D .nat n .any
 |nil (t:DTy):DR D (.sl t) ([]:List (t.S D.T)) .nils
 |sl (t:DTy) (xs:List (t.S D.T)) (ws:List V) (full:Bool) (hl:ws.length=xs.length) (h:∀(j:Nat) (x:t.S D.T) (w:V),xs[j]? = some x->ws[j]? = some w->DR D t x w):DR D (.sl t) xs (.sl (D.len t) ws full)
 |st (i:Nat) (x:D.T i) (vs:List V) (hl:vs.length=(D.fl i).length) (h:∀(j:Nat) (p:(t:DTy)×t.S D.T) (v:V),HL.nth (D.fl i) (D.get i x) j=some p->vs[j]? = some v->DR D p.1 p.2 v):DR D (.st i) x (.agg vs)
 |enc (i:Nat) (x:D.T i):DR D (.st i) x (D.enc i x)
variable {P : Program} (hD : D.Ok P)
include hD
theorem ye5(t:DTy)(x:t.S D.T):(D.el t x).cells.length=D.len t:=by
 cases t with
 |st i=>exact(congrArg (λv=>v.cells.length) (hD.enc i x)).trans (y0r _ _)
 |_=>rfl
theorem DR.cells{t:DTy}{x:t.S D.T}{v:V}(h:DR D t x v):v.cells.length=D.len t:=by
 cases h with
 |enc i x=>exact ye5 hD (.st i) x
 |st i x vs hl h=>simpa[V.cells,Dat.len]using hl
 |_=>rfl
omit hD in
theorem DR.elsl(t:DTy)(xs:List (t.S D.T))(h:∀x,DR D t x (D.el t x)):DR D (.sl t) xs (.sl (D.len t) (xs.map (D.el t)) false) :=
 .sl t xs _ false (by simp) λj x w hx hw=>by
   rw[Qan,hx]at hw;injection hw with hw;subst hw;exact h x
omit hD in
theorem DR.el:∀(t:DTy) (x:t.S D.T),DR D t x (D.el t x)
 |.bool,b=>.bool b
 |.int k,n=>.int k n
 |.str,s=>.str s
 |.nat,n=>.nat n
 |.sl t,xs=>DR.elsl t xs (DR.el t)
 |.st i,x=>.enc i x
end
structure Slot where
 v:V
 k:Option Nat
 ws:List V
 fp:List Nat:=[]
def Slot.has(sl:Slot)(i:Nat):Prop:=sl.k=some i∨i∈sl.fp
def zyj{T:Nat->Type}:(t:DTy)->t.S T->PV
 |.bool,b=>.bool b
 |.int k,n=>.int k n
 |.str,s=>.str s
 |_,_=>.bool false
theorem yq7(D:Dat):∀{t:DTy},t.flat=true->∀x:t.S D.T,(zyj t x).v=D.el t x
 |.bool,_,_=>rfl
 |.int _,_,_=>rfl
 |.str,_,_=>rfl
section
variable (D : Dat) (ρ : List Slot) (lv : Nat)
mutual
def VR:TV D.T->V->Prop
 |.any,_=>True
 |.bool b,v=>v = .bool b
 |.int k n,v=>v = .int k n
 |.str s,v=>v = .str s
 |.nilp,v=>v = .nilp
 |.nils,v=>v = .nils
 |.mapn,v=>v = .mapn
 |.nilf,v=>v = .nilf
 |.nili,v=>v = .nili
 |.sl t xs fl,v=>DR D (.sl t) xs v∧(1<=fl->∃ws,v = .sl (D.len t) ws true)∧(fl=2->xs=[])
 |.own s,v=>∃sl,ρ[s]? = some sl∧v=sl.v∧v.leaf=true
 |.osl s lo,v=>∃sl j ver,ρ[s]? = some sl∧sl.k=some j∧sl.v = .hs lv j ver 0 sl.ws.length false∧0<=lo∧lo.toNat<=sl.ws.length∧(v = .hs lv j ver lo.toNat (sl.ws.length-lo.toNat) false∨(lo.toNat=sl.ws.length∧∃sz,v = .sl sz [] false))
 |.ptr s off,v=>∃sl i,ρ[s]? = some sl∧sl.k=some i∧v = .ptr lv i off
 |.bp s off,v=>∃sl i,ρ[s]? = some sl∧sl.k=some i∧v = .ap lv i 0 0 off
 |.map s,v=>∃sl i,ρ[s]? = some sl∧sl.k=some i∧v = .map lv i
 |.mc t es,v=>t.flat=true∧v = .mapc (es.map λp=>(.str p.1,zyj t p.2))
 |.ref cs off,v=>∃vs,v = .ref vs off∧VRL cs vs
 |.ap s t i x off,v=>∃sl w,ρ[s]? = some sl∧0<=i∧sl.ws[i.toNat]? = some w∧DR D t x w ∧
  (match sl.k with
  |none=>v = .ref w.cells off
  |some j=>∃ver n,sl.v = .hs lv j ver 0 n false∧v = .ap lv j ver i.toNat off)
 |.fn f a b,v=>∃as bs,v = .fn f as bs∧VRL a as∧VRL b bs
 |.iface t x,v=>∃y,v = .iface t y∧VR x y
 |.agg cs,v=>∃vs,v = .agg vs∧VRL cs vs
 |.tup cs,v=>∃vs,v = .tup vs∧VRL cs vs
 |.dp s i off,v=>∃sl j ver m,ρ[s]? = some sl∧sl.v = .hs lv j ver 0 m false∧0<=i∧i.toNat<m∧v = .ap lv j ver i.toNat off
 |.bsl q cs,v=>∃vs,v = .sl (D.len (.st q)) vs true∧VRL cs vs
def VRL:List (TV D.T)->List V->Prop
 |[],vs=>vs=[]
 |c::cs,vs=>∃v r,vs=v::r∧VR c v∧VRL cs r
end
end
section
variable {D : Dat} {ρ : List Slot} {lv : Nat}
theorem VRL.length:∀{cs:List (TV D.T)}{vs:List V},VRL D ρ lv cs vs->cs.length=vs.length
 |[],vs,h=>by simp only[VRL]at h;subst h;rfl
 |c::cs,vs,h=>by
  simp only[VRL]at h;obtain⟨v,r,rfl,_,h2⟩:=h;simp[VRL.length h2]
theorem VRL.get:∀{cs:List (TV D.T)}{vs:List V},VRL D ρ lv cs vs->∀(j:Nat) (c:TV D.T),cs[j]? = some c->∃v,vs[j]? = some v∧VR D ρ lv c v
 |[],vs,h,j,c,hj=>by simp at hj
 |c::cs,vs,h,0,d,hj=>by
  simp only[VRL]at h;obtain⟨v,r,rfl,h1,h2⟩:=h;simp at hj;subst hj
  exact⟨v,rfl,h1⟩
 |c::cs,vs,h,j+1,d,hj=>by
  simp only[VRL]at h;obtain⟨v,r,rfl,h1,h2⟩:=h;obtain⟨u,hu,hr⟩:=VRL.get h2 j d (by simpa using hj);exact⟨u,by simpa using hu,hr⟩
theorem VRL.of:∀{cs:List (TV D.T)}{vs:List V},cs.length=vs.length->(∀(j:Nat) (c:TV D.T) (v:V),cs[j]? = some c->vs[j]? = some v->VR D ρ lv c v)->VRL D ρ lv cs vs
 |[],[],_,_=>by simp[VRL]
 |[],v::vs,h,_=>by simp at h
 |c::cs,[],h,_=>by simp at h
 |c::cs,v::vs,h,k=>by
  simp only[VRL];exact⟨v,vs,rfl,k 0 c v rfl rfl,VRL.of (by simpa using h) λj c' v' hc hv=>k (j+1) c' v' (by simpa using hc) (by simpa using hv)⟩
theorem VRL.zte{cs:List (TV D.T)}{vs:List V}(h:VRL D ρ lv cs vs){j:Nat}{c:TV D.T}{v:V}(hc:cs[j]? = some c)(hv:vs[j]? = some v):VR D ρ lv c v:=by
 obtain⟨u,hu,hr⟩:=h.get j c hc
 rw[hv]at hu;injection hu with hu;subst hu;exact hr
theorem VRL.take{cs:List (TV D.T)}{vs:List V}(h:VRL D ρ lv cs vs)(n:Nat):VRL D ρ lv (cs.take n) (vs.take n) :=
 .of (by simp[h.length]) λj c v hc hv=>by
   rw[Qaw]at hc hv;split at hc;rw[Qbx ‹_›]at hv;exact h.zte hc hv;cases hc
theorem VRL.drop{cs:List (TV D.T)}{vs:List V}(h:VRL D ρ lv cs vs)(n:Nat):VRL D ρ lv (cs.drop n) (vs.drop n) :=
 .of (by simp[h.length]) λj c v hc hv=>by
   rw[Qbf]at hc hv;exact h.zte hc hv
theorem VRL.append{a b:List (TV D.T)}{x y:List V}(h:VRL D ρ lv a x)(k:VRL D ρ lv b y):VRL D ρ lv (a++b) (x++y) :=
 .of (by simp[h.length,k.length]) λj c v hc hv=>by
   rw[Qbe]at hc hv;rw[<-h.length]at hv;split at hc;rw[Qbx ‹_›]at hv;exact h.zte hc hv;rw[Qby ‹_›]at hv;exact k.zte hc hv
theorem VRL.yzr{a b:List (TV D.T)}{x y:List V}(h:VRL D ρ lv a x)(k:VRL D ρ lv b y)(off:Nat):VRL D ρ lv (zfa a off b) (yzr x off y):=by
 unfold zfa Go.Ab.yzr;rw[k.length];exact((h.take off).append k).append (h.drop _)
theorem lookup_append{ρ e:List Slot}{s:Nat}{sl:Slot}(h:ρ[s]? = some sl):(ρ++e)[s]? = some sl:=by
 rw[Qal (Qaa.1 h).1];exact h
mutual
theorem VR.more(e:List Slot):∀{x:TV D.T}{v:V},VR D ρ lv x v->VR D (ρ++e) lv x v
 |.any,_,_=>by simp only[VR]
 |.bool b,_,h=>by simpa only[VR]using h
 |.int k n,_,h=>by simpa only[VR]using h
 |.str s,_,h=>by simpa only[VR]using h
 |.nilp,_,h=>by simpa only[VR]using h
 |.nils,_,h=>by simpa only[VR]using h
 |.mapn,_,h=>by simpa only[VR]using h
 |.nilf,_,h=>by simpa only[VR]using h
 |.nili,_,h=>by simpa only[VR]using h
 |.sl t xs fl,_,h=>by simpa only[VR]using h
 |.own s,_,h=>by simp only[VR]at h ⊢;obtain⟨sl,h1,h2⟩:=h;exact⟨sl,lookup_append h1,h2⟩
 |.osl s lo,_,h=>by simp only[VR]at h ⊢;obtain⟨sl,j,ver,h1,h2⟩:=h;exact⟨sl,j,ver,lookup_append h1,h2⟩
 |.ptr s off,_,h=>by simp only[VR]at h ⊢;obtain⟨sl,i,h1,h2⟩:=h;exact⟨sl,i,lookup_append h1,h2⟩
 |.bp s off,_,h=>by simp only[VR]at h ⊢;obtain⟨sl,i,h1,h2⟩:=h;exact⟨sl,i,lookup_append h1,h2⟩
 |.map s,_,h=>by simp only[VR]at h ⊢;obtain⟨sl,i,h1,h2⟩:=h;exact⟨sl,i,lookup_append h1,h2⟩
 |.mc t es,_,h=>by simpa only[VR]using h
 |.ref cs off,_,h=>by simp only[VR]at h ⊢;obtain⟨vs,h1,h2⟩:=h;exact⟨vs,h1,VRL.more e h2⟩
 |.ap s t i x off,_,h=>by simp only[VR]at h ⊢;obtain⟨sl,w,h1,h2⟩:=h;exact⟨sl,w,lookup_append h1,h2⟩
 |.fn f a b,_,h=>by simp only[VR]at h ⊢;obtain⟨as,bs,h1,h2,h3⟩:=h;exact⟨as,bs,h1,VRL.more e h2,VRL.more e h3⟩
 |.iface t x,_,h=>by simp only[VR]at h ⊢;obtain⟨y,h1,h2⟩:=h;exact⟨y,h1,VR.more e h2⟩
 |.agg cs,_,h=>by simp only[VR]at h ⊢;obtain⟨vs,h1,h2⟩:=h;exact⟨vs,h1,VRL.more e h2⟩
 |.tup cs,_,h=>by simp only[VR]at h ⊢;obtain⟨vs,h1,h2⟩:=h;exact⟨vs,h1,VRL.more e h2⟩
 |.dp s i off,_,h=>by simp only[VR]at h ⊢;obtain⟨sl,j,ver,m,h1,h2⟩:=h;exact⟨sl,j,ver,m,lookup_append h1,h2⟩
 |.bsl q cs,_,h=>by simp only[VR]at h ⊢;obtain⟨vs,h1,h2⟩:=h;exact⟨vs,h1,VRL.more e h2⟩
theorem VRL.more(e:List Slot):∀{cs:List (TV D.T)}{vs:List V},VRL D ρ lv cs vs->VRL D (ρ++e) lv cs vs
 |[],_,h=>by simpa only[VRL]using h
 |c::cs,_,h=>by simp only[VRL]at h ⊢;obtain⟨v,r,h1,h2,h3⟩:=h;exact⟨v,r,h1,VR.more e h2,VRL.more e h3⟩
end
theorem VR.cells{x:TV D.T}{v:V}(h:VR D ρ lv x v)(hs:x.zzi=true):VRL D ρ lv x.cells v.cells:=by
 have one:∀{x:TV D.T}{v:V},VR D ρ lv x v->v.cells=[v]->x.cells=[x]->VRL D ρ lv x.cells v.cells:=λ{x v} h h1 h2=>by
  rw[h1,h2];simp only[VRL];exact⟨v,[],rfl,h,rfl⟩
 cases x <;> simp only[TV.zzi,TV.leaf,Bool.false_eq_true]at hs
 case agg cs=>simp only[VR]at h;obtain⟨vs,rfl,h2⟩:=h;exact h2
 case sl t xs fl=>exact one h (by simp only[VR]at h;obtain⟨h,_⟩:=h;cases h <;> rfl) rfl
 case own s=>
  refine one h ?_ rfl;simp only[VR]at h;obtain⟨sl,_,_,h⟩:=h
  cases v <;> first|rfl|(simp[V.leaf]at h)
 case ap s t i x off=>
  refine one h ?_ rfl;simp only[VR]at h;obtain⟨sl,w,h1,h2,h3,h4,h5⟩:=h;split at h5;subst h5;rfl;obtain⟨ver,n,_,h5⟩:=h5;subst h5;rfl
 case fn f a b=>refine one h ?_ rfl;simp only[VR]at h;obtain⟨as,bs,rfl,_⟩:=h;rfl
 case iface t x=>refine one h ?_ rfl;simp only[VR]at h;obtain⟨y,rfl,_⟩:=h;rfl
 case ref cs off=>refine one h ?_ rfl;simp only[VR]at h;obtain⟨y,rfl,_⟩:=h;rfl
 case osl s lo=>refine one h ?_ rfl;simp only[VR]at h;obtain⟨y,i,ver,_,_,_,_,_,h⟩:=h;rcases h with rfl|⟨_,sz,rfl⟩ <;> rfl
 case ptr s off=>refine one h ?_ rfl;simp only[VR]at h;obtain⟨y,i,_,_,rfl⟩:=h;rfl
 case map s=>refine one h ?_ rfl;simp only[VR]at h;obtain⟨y,i,_,_,rfl⟩:=h;rfl
 case mc t es=>refine one h ?_ rfl;simp only[VR]at h;obtain⟨_,rfl⟩:=h;rfl
 case bp s off=>refine one h ?_ rfl;simp only[VR]at h;obtain⟨y,i,_,_,rfl⟩:=h;rfl
 case dp s i off=>refine one h ?_ rfl;simp only[VR]at h;obtain⟨y,j,ver,m,_,_,_,_,rfl⟩:=h;rfl
 case bsl q cs=>refine one h ?_ rfl;simp only[VR]at h;obtain⟨vs,rfl,_⟩:=h;rfl
 all_goals (refine one h ?_ rfl;simp only[VR]at h;subst h;rfl)
theorem VR.zzi{x:TV D.T}{v:V}(h:VR D ρ lv x v)(hs:x.zzi=true):v.zzi=true:=by
 have one:∀{v:V},v.leaf=true->v.zzi=true:=λ{v} h=>by cases v <;> first|rfl|exact h
 cases x <;> simp only[TV.zzi,TV.leaf,Bool.false_eq_true]at hs
 case agg cs=>simp only[VR]at h;obtain⟨vs,rfl,h2⟩:=h;rfl
 case sl t xs fl=>simp only[VR]at h;obtain⟨h,_⟩:=h;cases h <;> rfl
 case own s=>simp only[VR]at h;obtain⟨sl,_,_,h⟩:=h;exact one h
 case ap s t i x off=>
  simp only[VR]at h;obtain⟨sl,w,h1,h2,h3,h4,h5⟩:=h;split at h5;subst h5;rfl;obtain⟨ver,n,_,h5⟩:=h5;subst h5;rfl
 case fn f a b=>simp only[VR]at h;obtain⟨as,bs,rfl,_⟩:=h;rfl
 case iface t x=>simp only[VR]at h;obtain⟨y,rfl,_⟩:=h;rfl
 case ref cs off=>simp only[VR]at h;obtain⟨y,rfl,_⟩:=h;rfl
 case osl s lo=>simp only[VR]at h;obtain⟨y,i,ver,_,_,_,_,_,h⟩:=h;rcases h with rfl|⟨_,sz,rfl⟩ <;> rfl
 case ptr s off=>simp only[VR]at h;obtain⟨y,i,_,_,rfl⟩:=h;rfl
 case map s=>simp only[VR]at h;obtain⟨y,i,_,_,rfl⟩:=h;rfl
 case mc t es=>simp only[VR]at h;obtain⟨_,rfl⟩:=h;rfl
 case bp s off=>simp only[VR]at h;obtain⟨y,i,_,_,rfl⟩:=h;rfl
 case dp s i off=>simp only[VR]at h;obtain⟨y,j,ver,m,_,_,_,_,rfl⟩:=h;rfl
 case bsl q cs=>simp only[VR]at h;obtain⟨vs,rfl,_⟩:=h;rfl
 all_goals (simp only[VR]at h;subst h;rfl)
theorem VR.z8k(v:Value):VR D ρ lv (TV.z8k v) (Go.Ab.z8k v):=by
 unfold TV.z8k Go.Ab.z8k;split <;> simp only[VR]
theorem VRL.map{α:Type}(f:α->TV D.T)(g:α->V)(h:∀x,VR D ρ lv (f x) (g x)):∀l:List α,VRL D ρ lv (l.map f) (l.map g)
 |[]=>by simp[VRL]
 |x::l=>by simp only[List.map_cons,VRL];exact⟨_,_,rfl,h x,VRL.map f g h l⟩
theorem VR.ofC(v:Value):VR D ρ lv (TV.ofC v) (ofConst v):=by
 cases v with
 |agg cs=>
  simp only[TV.ofC,ofConst];split;simp only[VR];exact⟨_,rfl,VRL.map _ _ VR.z8k _⟩
  simp only[VR]
 |tuple cs=>simp only[TV.ofC,ofConst,VR];exact⟨_,rfl,VRL.map _ _ VR.z8k _⟩
 |iface t v=>simp only[TV.ofC,ofConst,VR];exact⟨_,rfl,VR.z8k _⟩
 |_=>simp only[TV.ofC,ofConst];exact VR.z8k _
theorem VR.leaf{t:DTy}{x:t.S D.T}{v:V}(h:DR D t x v):VR D ρ lv (D.leaf t x) v:=by
 cases t with
 |bool=>cases h;simp[Dat.leaf,VR]
 |int k=>cases h;simp[Dat.leaf,VR]
 |str=>cases h;simp[Dat.leaf,VR]
 |nat=>simp[Dat.leaf,VR]
 |st i=>simp[Dat.leaf,VR]
 |sl t=>simp only[Dat.leaf,VR];exact⟨h,by omega,by omega⟩
variable {P : Program} (hD : D.Ok P)
include hD
theorem DR.agg{i:Nat}{x:D.T i}{v:V}(h:DR D (.st i) x v):∃vs,v = .agg vs∧vs.length=(D.fl i).length∧∀(j:Nat) (p:(t:DTy)×t.S D.T) (u:V),HL.nth (D.fl i) (D.get i x) j=some p->vs[j]? = some u->DR D p.1 p.2 u:=by
 cases h with
 |st _ _ vs hl h=>exact⟨vs,rfl,hl,h⟩
 |enc=>exact⟨_,hD.enc i x,y0r _ _,λj p u hp hu=>by
  rw[y9d,hp]at hu;injection hu with hu;subst hu
  exact DR.el _ _⟩
theorem VR.tv{t:DTy}{x:t.S D.T}{v:V}(h:DR D t x v):VR D ρ lv (D.tv t x) v:=by
 cases t with
 |st i=>
  obtain⟨vs,rfl,h1,h2⟩:=DR.agg hD h;simp only[Dat.tv,VR];refine⟨vs,rfl,.of (by rw[z82,h1]) λj c u hc hu =>?_⟩;rw[zdb,Qaf]at hc;obtain⟨p,hp,rfl⟩:=hc
  exact .leaf (h2 j p u hp hu)
 |bool=>exact VR.leaf h
 |int k=>exact VR.leaf h
 |str=>exact VR.leaf h
 |nat=>exact VR.leaf h
 |sl t=>exact VR.leaf h
omit hD in
theorem zt3{T:Nat->Type}{a b:DTy}{x:List (B8×a.S T)}{y:List (B8×b.S T)}(h:zok a b x=some y):∃e:a=b,y=e▸x:=by
 unfold zok at h;split at h
 rename_i e;injection h with h;exact⟨e,h.symm⟩
 cases h
omit hD in
theorem zvo{α β:Type}:∀l:List (α×β),List.zip (l.map (·.1)) (l.map (·.2))=l
 |[]=>rfl
 |p::l=>by
  show(p.1,p.2)::List.zip (l.map (·.1)) (l.map (·.2))=p::l;rw[zvo l]
omit hD in
theorem z5w{T:Nat->Type}{a b:DTy}{x:List (a.S T)}{y:List (b.S T)}(h:za8 a b x=some y):∃e:a=b,y=e▸x:=by
 unfold za8 at h;split at h
 rename_i e;injection h with h;exact⟨e,h.symm⟩
 cases h
omit hD in
theorem zh3{t:DTy}{c:TV D.T}{x:t.S D.T}{v:V}(h:zf7 D t c = .ok x)(hv:VR D ρ lv c v):DR D t x v:=by
 unfold zf7 at h;split at h;injection h with h;subst h;simp only[VR]at hv;subst hv;exact .bool _;split at h
 rename_i hk;injection h with h;subst h;subst hk;simp only[VR]at hv;subst hv;exact .int _ _
 cases h;injection h with h;subst h;simp only[VR]at hv;subst hv;exact .str _;rename_i t t' xs fl
 cases hl:za8 t' t xs with
 |none=>rw[hl]at h;cases h
 |some y=>
  rw[hl]at h;injection h with h;subst h;obtain⟨rfl,rfl⟩:=z5w hl;simp only[VR]at hv;exact hv.1
 injection h with h;subst h;simp only[VR]at hv;subst hv;exact .nil _;cases h;cases h
omit hD in
theorem zhs:∀{l:List DTy}{cs:List (TV D.T)}{x:HL D.T l}{vs:List V},z7i D l cs = .ok x->VRL D ρ lv cs vs->vs.length=l.length∧∀(j:Nat) (p:(t:DTy)×t.S D.T) (u:V),HL.nth l x j=some p->vs[j]? = some u->DR D p.1 p.2 u
 |[],[],x,vs,h,hv=>by simp only[VRL]at hv;subst hv;exact⟨rfl,λj p u _ hu=>by simp at hu⟩
 |[],c::cs,x,vs,h,hv=>by simp[z7i]at h
 |t::l,[],x,vs,h,hv=>by simp[z7i]at h
 |t::l,c::cs,x,vs,h,hv=>by
  simp only[VRL]at hv;obtain⟨v,r,rfl,h1,h2⟩:=hv;simp only[z7i]at h;split at h;rename_i y hy;split at h;rename_i ys hys;injection h with h;subst h;obtain⟨k1,k2⟩:=zhs hys h2;refine⟨by simp[k1],λj p u hp hu =>?_⟩
  cases j with
  |zero=>simp only[HL.nth,Qbu]at hp;subst hp;simp at hu;subst hu;exact zh3 hy h1
  |succ j=>exact k2 j p u hp (by simpa using hu)
  cases h;cases h;cases h;cases h
theorem zf2{t:DTy}{c:TV D.T}{x:t.S D.T}{v:V}(h:asD D t c = .ok x)(hv:VR D ρ lv c v):DR D t x v:=by
 unfold asD at h;split at h;rename_i i cs;split at h;rename_i y hy;injection h with h;subst h;simp only[VR]at hv;obtain⟨vs,rfl,hv⟩:=hv;obtain⟨k1,k2⟩:=zhs hy hv;exact .st i _ vs k1 (by rw[hD.getMake];exact k2);cases h;cases h;cases h;exact zh3 h hv
theorem zsz{t:DTy}:∀{cs:List (TV D.T)}{xs:List (t.S D.T)}{vs:List V},y9h D t cs = .ok xs->VRL D ρ lv cs vs->vs.length=xs.length∧∀(j:Nat) (x:t.S D.T) (w:V),xs[j]? = some x->vs[j]? = some w->DR D t x w
 |[],xs,vs,h,hv=>by simp only[VRL]at hv;subst hv;simp only[y9h]at h;injection h with h;subst h;exact⟨rfl,λj x w hx=>by simp at hx⟩
 |c::cs,xs,vs,h,hv=>by
  simp only[VRL]at hv;obtain⟨v,r,rfl,h1,h2⟩:=hv;simp only[y9h]at h;split at h;rename_i y hy;split at h;rename_i ys hys;injection h with h;subst h;obtain⟨k1,k2⟩:=zsz hys h2;refine⟨by simp[k1],λj x w hx hw =>?_⟩
  cases j with
  |zero=>simp at hx hw;subst hx;subst hw;exact zf2 hD hy h1
  |succ j=>exact k2 j x w (by simpa using hx) (by simpa using hw)
  cases h;cases h;cases h;cases h
end
end
end Go.Ab
