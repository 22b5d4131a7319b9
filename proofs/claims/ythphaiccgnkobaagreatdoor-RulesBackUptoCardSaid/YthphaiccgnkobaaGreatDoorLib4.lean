/-
  THE TYPED MACHINE: calls, labels, code. Definitions.
-/
import Derived.Test.YthphaiccgnkobaaGreatDoorLib3
import Derived.Test.YthphaiccgnkobaaGreatDoorLib2
set_option linter.defProp false
set_option linter.unusedSectionVars false
set_option linter.unusedSimpArgs false
set_option linter.unusedVariables false
namespace Go.Ab
open Go
noncomputable section
def mks{α β:Type}(es:List (α×β)):List α:=es.map Prod.fst
def mvs{α β:Type}(es:List (α×β)):List β:=es.map Prod.snd
def yza{α β}:∀es:List (α×β),List.zip (mks es) (mvs es)=es
 |[]=>rfl
 |(_,_)::l=>congrArg (_ :: ·) (yza l)
inductive Src (T:Nat->Type) where
 |slot (s:Nat)
 |nil
abbrev za9(T:Nat->Type):=List (Nat×Src T)
section
variable {T:Nat → Type}
def Src.z091(s:Nat):Src T->Bool
 |.slot a=>a==s
 |_=>false
def zid(n k s:Nat)(M:za9 T):Option (za9 T) :=
 match fnd M k with
 |some (.slot a)=>if a=s then some M else none
 |some _=>none
 |none=>if k<n∧M.all (λp => !p.2.z091 s)then some ((k,.slot s)::M)else none
def yux(n k:Nat)(M:za9 T):Option (za9 T) :=
 match fnd M k with
 |some .nil=>some M
 |some _=>none
 |none=>if k<n then some ((k,.nil)::M)else none
def frU(o:Option (za9 T)):FR (za9 T×Unit) :=
 match o with
 |some M=>.ok (M,())
 |none=>.bad
end
def OSh.tys:OSh->List DTy
 |.cells cs=>Sh.z1i cs
 |.st i=>[.st i]
 |.acc _ t _=>[.sl t]
 |.siter=>[.str,.nat]
 |.rig=>[]
 |.mp _ t=>[.sl .str,.sl t]
 |.mit t=>[.sl .str,.sl t]
 |.bld _ _=>[]
 |.deep _ i=>[.sl (.st i)]
 |.deeph _ i _ _=>[.sl (.st i),.int .i64]
def z1j:List OSh->List DTy
 |[]=>[]
 |o::l=>o.tys++z1j l
def tysT:List (Nat×Sh)->List DTy
 |[]=>[]
 |p::l=>p.2.tys++tysT l
section
variable (D:Dat)
mutual
def ye8(n:Nat):(j:Sh)->TV D.T->za9 D.T->FR (za9 D.T×HL D.T j.tys)
 |.any,_,M=>.ok (M,())
 |.d t,v,M=>match asD D t v with
  |.ok x=>.ok (M,(x,()))
  |.frz s=>.frz s
  |.bad=>.bad
 |.own k,.own s,M=>frU (zid n k s M)
 |.own k,.nils,M=>frU (yux n k M)
 |.ptr k g,.ptr s e,M=>if g=e then frU (zid n k s M)else .bad
 |.bp k,.bp s 0,M=>frU (zid n k s M)
 |.map k,.map s,M=>frU (zid n k s M)
 |.mc t,.mc h es,M=>match zya h t es with
  |some es=>.ok (M,(mks es,(mvs es,())))
  |none=>.bad
 |.mc _,.map s,_=>.frz s
 |.nilp,.nilp,M=>.ok (M,())
 |.nilf,.nilf,M=>.ok (M,())
 |.nili,.nili,M=>.ok (M,())
 |.nils,.nils,M=>.ok (M,())
 |.fn f a b,.fn l o m,M=>if f=l then (match y4t n a o M with
  |.ok (M,x)=>match y4t n b m M with
   |.ok (M,y)=>.ok (M,HL.app x y)
   |.frz s=>.frz s
   |.bad=>.bad
  |.frz s=>.frz s
  |.bad=>.bad)else .bad
 |.iface t s,.iface h v,M=>if t=h then ye8 n s v M else .bad
 |.agg cs,.agg vs,M=>y4t n cs vs M
 |.tup cs,.tup vs,M=>y4t n cs vs M
 |.ref cs g,.ref vs e,M=>if g=e then y4t n cs vs M else .bad
 |.dp k g,.dp s i e,M=>if g=e then (match zid n k s M with
  |some M=>.ok (M,(i,()))
  |none=>.bad)else .bad
 |.ap k t g,.ap s h i x e,M=>if g=e then (match y99 h t x with
  |some x=>(match zid n k s M with
   |some M=>.ok (M,(i,(x,())))
   |none=>.bad)
  |none=>.bad)else .bad
 |_,_,_=>.bad
def y4t(n:Nat):(l:List Sh)->List (TV D.T)->za9 D.T->FR (za9 D.T×HL D.T (Sh.z1i l))
 |[],[],M=>.ok (M,())
 |sh::l,v::vs,M=>match ye8 n sh v M with
  |.ok (M,x)=>match y4t n l vs M with
   |.ok (M,y)=>.ok (M,HL.app x y)
   |.frz s=>.frz s
   |.bad=>.bad
  |.frz s=>.frz s
  |.bad=>.bad
 |_,_,_=>.bad
end
mutual
def zt5(m:Nat->Nat):(g:Sh)->HL D.T g.tys->TV D.T
 |.any,_=>.any
 |.d t,x=>D.tv t x.1
 |.own k,_=>.own (m k)
 |.ptr k e,_=>.ptr (m k) e
 |.bp k,_=>.bp (m k) 0
 |.map k,_=>.map (m k)
 |.mc t,x=>.mc t (List.zip x.1 x.2.1)
 |.nilp,_=>.nilp
 |.nilf,_=>.nilf
 |.nili,_=>.nili
 |.nils,_=>.nils
 |.fn f a b,x=>.fn f (z3n m a (HL.fst _ x)) (z3n m b (HL.snd _ x))
 |.iface t s,x=>.iface t (zt5 m s x)
 |.agg cs,x=>.agg (z3n m cs x)
 |.tup cs,x=>.tup (z3n m cs x)
 |.ref cs e,x=>.ref (z3n m cs x) e
 |.dp k e,x=>.dp (m k) x.1 e
 |.ap k t e,x=>.ap (m k) t x.1 x.2.1 e
def z3n(m:Nat->Nat):(l:List Sh)->HL D.T (Sh.z1i l)->List (TV D.T)
 |[],_=>[]
 |sh::l,x=>zt5 m sh (HL.fst _ x)::z3n m l (HL.snd _ x)
end
def ybc(n:Nat)(ts:TS D.T):(o:OSh)->Src D.T->za9 D.T->FR (za9 D.T×HL D.T o.tys)
 |.cells cs,.slot s,M=>match fnd ts.o s with
  |some (.cells vs)=>y4t D n cs vs M
  |_=>.bad
 |.st i,.slot s,M=>match fnd ts.o s with
  |some (.cells vs)=>match zcr D (D.fl i) vs with
   |.ok x=>.ok (M,(D.make i x,()))
   |.frz s=>.frz s
   |.bad=>.bad
  |_=>.bad
 |.acc ty t w,.slot s,M=>match fnd ts.o s with
  |some (.acc a d xs j)=>if ty=a∧(w=true->j=true)then (match zgp d t xs with|some xs=>.ok (M,(xs,()))|none=>.bad)else .bad
  |_=>.bad
 |.acc _ _ _,.nil,M=>.ok (M,([],()))
 |.siter,.slot s,M=>match fnd ts.o s with
  |some (.siter l g)=>.ok (M,(l,(g,())))
  |_=>.bad
 |.rig,.slot s,M=>match fnd ts.o s with
  |some .rig=>.ok (M,())
  |_=>.bad
 |.mp ty t,.slot s,M=>match fnd ts.o s with
  |some (.mp a d es)=>if ty=a then (match zya d t es with|some es=>.ok (M,(mks es,(mvs es,())))|none=>.bad)else .bad
  |_=>.bad
 |.mit t,.slot s,M=>match fnd ts.o s with
  |some (.mit d _ es)=>(match zya d t es with|some es=>.ok (M,(mks es,(mvs es,())))|none=>.bad)
  |_=>.bad
 |.bld ty k,.slot s,M=>match fnd ts.o s with
  |some (.bld a b)=>if ty=a then (match b with
   |some q=>frU (zid n k q M)
   |none=>frU (yux n k M))else .bad
  |_=>.bad
 |.deep ty q,.slot s,M=>match fnd ts.o s with
  |some (.deep a e xs h)=>if ty=a then (match h with
   |none=>(match zgp (.st e) (.st q) xs with
    |some xs=>.ok (M,(xs,()))
    |none=>.bad)
   |some _=>.frz s)else .bad
  |_=>.bad
 |.deep _ _,.nil,M=>.ok (M,([],()))
 |.deeph ty q f k,.slot s,M=>match fnd ts.o s with
  |some (.deep a e xs h)=>if ty=a then (match h with
   |some p=>if f=p.2.1 then (match zgp (.st e) (.st q) xs with
    |some xs=>(match zid n k p.2.2 M with
     |some M=>.ok (M,(xs,(p.1,())))
     |none=>.bad)
    |none=>.bad)else .bad
   |none=>.bad)else .bad
  |_=>.bad
 |_,_,_=>.bad
def ygt(n:Nat)(ts:TS D.T):(a:List OSh)->Nat->za9 D.T->FR (za9 D.T×HL D.T (z1j a))
 |[],_,M=>.ok (M,())
 |o::a,k,M=>match fnd M k with
  |some src=>match ybc D n ts o src M with
   |.ok (M,x)=>match ygt n ts a (k+1) M with
    |.ok (M,y)=>.ok (M,HL.app x y)
    |.frz s=>.frz s
    |.bad=>.bad
   |.frz s=>.frz s
   |.bad=>.bad
  |none=>.bad
def yx4(n:Nat)(ts:TS D.T):(l:List (Nat×Sh))->za9 D.T->FR (za9 D.T×HL D.T (tysT l))
 |[],M=>.ok (M,())
 |p::l,M=>match fnd ts.t p.1 with
  |some v=>match ye8 D n p.2 v M with
   |.ok (M,x)=>match yx4 n ts l M with
    |.ok (M,y)=>.ok (M,HL.app x y)
    |.frz s=>.frz s
    |.bad=>.bad
   |.frz s=>.frz s
   |.bad=>.bad
  |none=>.bad
def zxs(m:Nat->Nat):(o:OSh)->HL D.T o.tys->TO D.T
 |.cells cs,x=>.cells (z3n D m cs x)
 |.st i,x=>.cells (D.leaves (D.fl i) (D.get i x.1))
 |.acc ty t w,x=>.acc ty t x.1 w
 |.siter,x=>.siter x.1 x.2.1
 |.rig,_=>.rig
 |.mp ty t,x=>.mp ty t (List.zip x.1 x.2.1)
 |.mit t,x=>.mit t none (List.zip x.1 x.2.1)
 |.bld ty k,_=>.bld ty (some (m k))
 |.deep ty q,x=>.deep ty q x.1 none
 |.deeph ty q f k,x=>.deep ty q x.1 (some (x.2.1,f,m k))
def z6j(m:Nat->Nat):(a:List OSh)->Nat->HL D.T (z1j a)->List (Nat×TO D.T)
 |[],_,_=>[]
 |o::a,k,x=>(m k,zxs D m o (HL.fst _ x))::z6j m a (k+1) (HL.snd _ x)
def yv3(m:Nat->Nat):(l:List (Nat×Sh))->HL D.T (tysT l)->List (Nat×TV D.T)
 |[],_=>[]
 |p::l,x=>(p.1,zt5 D m p.2 (HL.fst _ x))::yv3 m l (HL.snd _ x)
end
structure LSh where
 ts:List (Nat×Sh)
 os:List OSh
 pin:Nat
 nt:Nat
 gs:List Nat:=[]
def LSh.tys(l:LSh):List DTy:=tysT l.ts++z1j l.os
section
variable (D:Dat)
def LSh.bld(l:LSh)(x:HL D.T l.tys):TS D.T :=
 ⟨yv3 D (λk=>k) l.ts (HL.fst _ x),z6j D (λk=>k) l.os 0 (HL.snd _ x),l.os.length,l.nt,[],l.gs.map some⟩
def pins{T}:Nat->za9 T
 |0=>[]
 |n+1=>(n,.slot n)::pins n
def fitG{T}(n:Nat):List Nat->List (Option Nat)->za9 T->Option (za9 T)
 |[],[],M=>some M
 |k::b,some s::a,M=>match zid n k s M with
  |some M=>fitG n b a M
  |none=>none
 |_,_,_=>none
def LSh.fit(l:LSh)(ts:TS D.T):FR (HL D.T l.tys) :=
 if ts.nt=l.nt∧ts.d.isEmpty=true then (match yx4 D l.os.length ts l.ts (pins l.pin)with
  |.ok (M,x)=>match fitG l.os.length l.gs ts.g M with
   |some M=>(match ygt D l.os.length ts l.os 0 M with
    |.ok (_,y)=>.ok (HL.app x y)
    |.frz s=>.frz s
    |.bad=>.bad)
   |none=>.bad
  |.frz s=>.frz s
  |.bad=>.bad)else .bad
def LSh.enter{R}(l:LSh)(k:HL D.T l.tys->Option R):Nat->TS D.T->Option R
 |0,_=>none
 |f+1,ts=>match l.fit D ts with
  |.ok x=>k x
  |.frz s=>match isHole ts s with
   |true=>ts.fold D (yfw 9 ts s) λa=>LSh.enter l k f a
   |false=>match ts.freeze D s with
    |some a=>LSh.enter l k f a
    |none=>none
  |.bad=>none
structure Ent where
 f:Nat
 p:Nat
 args:List Sh
 aos:List OSh
 outs:List Sh
 ros:List OSh
 pan:Sh
 pos:List OSh
 pure:Bool
 go:{R:Type}->HL D.T (Sh.z1i args++z1j aos)->(HL D.T (Sh.z1i outs++z1j ros)->Option R)->(HL D.T (pan.tys++z1j pos)->Option R)->Option R
 ren:List (Nat×Nat):=[]
 kc:List (Nat×Nat):=[]
def Ent.fit(e:Ent D)(vs:List (TV D.T))(ts:TS D.T):FR (za9 D.T×HL D.T (Sh.z1i e.args++z1j e.aos)) :=
 match y4t D e.aos.length e.args vs []with
 |.ok (M,x)=>match ygt D e.aos.length ts e.aos 0 M with
  |.ok (M,y)=>.ok (M,HL.app x y)
  |.frz s=>.frz s
  |.bad=>.bad
 |.frz s=>.frz s
 |.bad=>.bad
def zdm(M:za9 D.T)(p nx k:Nat):Nat :=
 if k<p then (match fnd M k with|some (.slot s)=>s|_=>0)else nx+(k-p)
def zlw:za9 D.T->List (Nat×TO D.T)
 |[]=>[]
 |(_,.slot s)::l=>(s,.gone)::zlw l
 |(_,.nil)::l=>zlw l
def zfh(M:za9 D.T)(p:Nat)(ts:TS D.T)(a)(y:HL D.T (z1j a)):TS D.T :=
 {ts with o:=z6j D (zdm D M p ts.nx) a 0 y++(zlw D M++ts.o),nx:=ts.nx+(a.length-p)}
def zgj(M:za9 D.T)(p nx:Nat):List (Nat×Nat)->TS D.T->TS D.T
 |[],ts=>ts
 |q::l,ts=>match fnd M q.1 with
  |some (.slot s)=>zgj M p nx l (ts.zf2 D (TV.ren D s (zdm D M p nx q.2)))
  |_=>zgj M p nx l ts
def zcs(M:za9 D.T)(a:TS D.T):List (Nat×Nat)->TS D.T->TS D.T
 |[],ts=>ts
 |q::l,ts=>match fnd M q.1 with
  |some (.slot s)=>(match fnd a.o s,fnd ts.o s with
   |some (.cells b),some (.cells news)=>(match b[q.2]? with
    |some v=>zcs M a l (ts.set D s (.cells (news.set q.2 v)))
    |none=>zcs M a l ts)
   |_,_=>zcs M a l ts)
  |_=>zcs M a l ts
def yua(M:za9 D.T)(ts:TS D.T):List (Nat×Nat)->Bool
 |[]=>true
 |q::l=>(match fnd M q.1 with
  |some (.slot s)=>(match fnd ts.o s with
   |some (.cells a)=>(match a[q.2]? with
    |some (.own _)=>yua M ts l
    |_=>false)
   |_=>false)
  |_=>false)
def altK{R:Type}(a:Sh)(k b:TV D.T->TS D.T->Option R):TV D.T->TS D.T->Option R:=match a with
 |.tup _=>k
 |_=>b
def yly:List (TV D.T)->TV D.T
 |[v]=>v
 |vs=>.tup vs
def z0e3{R:Type}(f:Nat)(vs:List (TV D.T))(ts:TS D.T)(k a:TV D.T->TS D.T->Option R)(b:Nat->Option R):Option R:=none
def zxj{R}(f:Nat)(vs:List (TV D.T))(ts:TS D.T)(k a:TV D.T->TS D.T->Option R)(b:Nat->Option R):List (Ent D)->Option R
 |[]=>z0e3 D f vs ts k a b
 |e::r=>match Nat.beq e.f f with
  |false=>zxj f vs ts k a b r
  |true=>match e.fit D vs ts with
   |.bad=>zxj f vs ts k a b r
   |.frz s=>b s
   |.ok (M,x)=>if yua D M ts e.kc=true∧e.p<=e.aos.length∧e.p<=e.ros.length∧e.p<=e.pos.length∧(List.range e.p).all (λk=>match fnd M k with|some (.slot _)=>true|_=>false)then
      e.go x (λy=>k (yly D (z3n D (zdm D M e.p ts.nx) e.outs (HL.fst _ y))) (zgj D M e.p ts.nx e.ren (zcs D M ts e.kc (zfh D M e.p ts e.ros (HL.snd _ y)))))
       (λy=>altK D e.pan k a (zt5 D (zdm D M e.p ts.nx) e.pan (HL.fst _ y)) (zfh D M e.p ts e.pos (HL.snd _ y)))
      else none
end
def Sh.z0af:Sh->Bool
 |.d t=>t.flat
 |_=>false
def pBor{R:Type}(D:Dat)(f:Nat)(vs:List (TV D.T))(ts:TS D.T)(k:TV D.T->TS D.T->Option R)(a:Option R):Option R:=a
def tBor{R}(D)(f:Nat)(vs:List (TV D.T))(ts:TS D.T)(k:TV D.T->TS D.T->Option R)(a:Option R):List (Ent D)->Option R
 |[]=>pBor D f vs ts k a
 |e::r=>match Nat.beq e.f f&&e.pure&&e.outs.all Sh.z0af with
  |true=>(match e.fit D (TV.seeL D ts vs) ts with
   |.ok b=>e.go b.2 (λy=>k (yly D (z3n D (λk=>k) e.outs (HL.fst _ y))) ts) (λ_=>none)
   |_=>tBor D f vs ts k a r)
  |false=>tBor D f vs ts k a r
section
variable (P:Program)(D:Dat)(tbl:List (Ent D))
def yo0{R}(op:Op)(k j:TV D.T->TS D.T->Option R):Nat->TS D.T->Option R
 |0,_=>none
 |fuel+1,ts=>
  let g:=λs=>match isHole ts s with
   |true=>ts.fold D (yfw 9 ts s) λh=>yo0 op k j fuel h
   |false=>(match ts.freeze D s with
    |some h=>yo0 op k j fuel h
    |none=>none)
  match op with
  |.load t a=>(match ts.ev a with
   |some (.dp s i l)=>z018 D P ts t s i l k g
   |_=>tOp P D ts op k g)
  |.call c=>match c.callee with
   |.value x=>match ts.ev x,ts.evs c.args.toList with
    |some (.fn f a b),some vs=>(match (TV.yib (a++vs++b)).find? (z0ag ts)with
     |some _=>(match (TV.yib (a++vs++b)).find? (isHole ts)with
      |some s=>g s
      |none=>tBor D f (a++vs++b) ts k (zxj D f (a++vs++b) ts k j g tbl) tbl)
     |none=>zxj D f (a++vs++b) ts k j g tbl)
    |_,_=>none
   |_=>tOp P D ts op k g
  |.panic x=>match ts.ev x with
   |some (.iface t v)=>j (.iface t v) ts
   |_=>none
  |.defer c=>match c.callee with
   |.value x=>match ts.ev x,ts.evs c.args.toList with
    |some (.fn f a b),some vs=>(match Nat.blt f 4000000000 with
     |true=>k .any {ts with d:=(f,a++vs++b)::ts.d}
     |false=>none)
    |_,_=>none
   |_=>none
  |.binOp o t x y _=>match ts.ev x,ts.ev y with
   |some .nili,some .nili=>(match isC x||isC y,P.underlying t with
    |true,some (.interface _)=>(match o with
     |.eql=>k (.bool true) ts
     |.neq=>k (.bool false) ts
     |_=>none)
    |_,_=>none)
   |_,_=>tOp P D ts op k g
  |.alloc t=>match zeroV P t,P.info? t with
   |some (.agg [.nilp,.nils]),some i=>(match z0dx P t&&Nat.beq i.size 2 with
    |true=>k (.bp ts.nx 0) (ts.new D (.bld t none))
    |false=>tOp P D ts op k g)
   |_,_=>tOp P D ts op k g
  |.convert s d x=>match ts.ev x with
   |some (.sl (.int .u8) xs _)=>(match P.underlying s,P.underlying d with
    |some (.slice e),some .string=>(match P.underlying e with
     |some (.int .u8)=>z9e (yiu xs) λy=>k (.str y) ts
     |_=>none)
    |_,_=>none)
   |_=>tOp P D ts op k g
  |.range t x=>match ts.ev x with
   |some (.map q)=>g q
   |some (.mc τ es)=>(match P.underlying t with
    |some (.map _ _)=>k (.ptr ts.nx 0) (ts.new D (.mit τ none es))
    |_=>none)
   |_=>tOp P D ts op k g
  |.next x false=>match ts.ev x with
   |some (.ptr s 0)=>(match fnd ts.o s with
    |some (.mit τ _ es)=>yd9 es (λa y r=>k (.tup [.bool true,.str a,D.leaf τ y]) (ts.set D s (.mit τ (some (a,y)) r))) (k (.tup [.bool false]) ts)
    |_=>none)
   |_=>none
  |.entry x=>match ts.ev x with
   |some (.ptr s 0)=>(match fnd ts.o s with
    |some (.mit τ (some p) _)=>k (.tup [.str p.1,D.leaf τ p.2]) ts
    |_=>none)
   |_=>none
  |_=>tOp P D ts op k g
def ykp{R}(all:List Oper)(o:Oper)(ts:TS D.T)(go skip:TS D.T->Option R):Option R :=
 match o.guard with
 |none=>go ts
 |some (j,want)=>match (all[j]?).bind (·.dst)with
  |none=>none
  |some d=>match fnd ts.t d with
   |some (.bool b)=>pIf b (if want then go {ts with t:=(d,.bool true)::ts.t}else skip {ts with t:=(d,.bool true)::ts.t})
     (if want then skip {ts with t:=(d,.bool false)::ts.t}else go {ts with t:=(d,.bool false)::ts.t})
   |some (.tup _)=>skip ts
   |_=>none
def cpB(all:List Oper)(o:Oper):Option (Nat×Operand×Operand):=match o.op,o.dst with
 |.slice t x (some lo) none none,some d=>if all.any (λq=>match q.op with
  |.call c=>(match c.callee with
   |.builtin .copy=>c.args.toList.any λa=>(match a with
    |.tmp i=>Nat.beq i d
    |_=>false)
   |_=>false)
  |_=>false)then some (t,x,lo)else none
 |_,_=>none
def tPC{R}(all:List Oper)(o:Oper)(k:TV D.T->Option R)(ts:TS D.T):Option R:=match cpB all o with
 |some (t,x,lo)=>(match ts.ev x,ts.ev lo with
  |some x,some lo=>tCut P D ts t x lo k (tP P D ts o.op k λ_=>none)
  |_,_=>none)
 |none=>tP P D ts o.op k λ_=>none
def litB(all:List Oper)(o:Oper):Bool:=match o.op,o.dst with
 |.buildSlice _ _ _,some d=>all.any λq=>(match q.op with
  |.assign (.tmp i)=>Nat.beq i d
  |_=>false)
 |_,_=>false
def tLit{R:Type}(ts:TS D.T)(op:Op)(k:TV D.T->TS D.T->Option R)(a:Option R):Option R:=match op with
 |.buildSlice t len d=>(match P.underlying t,y70 ts d.toList with
  |some (.slice e),some b=>(match zj7 P D t len b with
   |.ok (.sl τ xs 1)=>k (.own ts.nx) (ts.new D (.acc e τ xs true))
   |_=>a)
  |_,_=>a)
 |_=>a
def z071(o:Oper):Bool:=match o.op,o.dst with
 |.buildSlice _ _ _,some d=>tbl.any λe=>Nat.beq e.f 5000000000&&Nat.beq e.p d
 |_,_=>false
def z0ba{R}(all:List Oper)(o:Oper)(k a:TV D.T->TS D.T->Option R)(ts:TS D.T):Option R:=match cpB all o with
 |some (t,x,lo)=>(match ts.ev x,ts.ev lo with
  |some x,some lo=>tCut P D ts t x lo (λv=>k v ts) (yo0 P D tbl o.op k a 9 ts)
  |_,_=>none)
 |none=>match litB all o||z071 D tbl o with
  |true=>tLit P D ts o.op k (yo0 P D tbl o.op k a 9 ts)
  |false=>yo0 P D tbl o.op k a 9 ts
def y00{R}(all:List Oper)(b:TS D.T->Option R)(a:TV D.T->TS D.T->Option R):List Oper->TS D.T->Option R
 |[],ts=>b ts
 |o::rest,ts=>pOp o<|ykp D all o ts
  (λts=>z0ba P D tbl all o (λv ts=>match ts.put D o.dst v with|some ts=>y00 all b a rest ts|none=>none) a ts)
  (λts=>match ts.put D o.dst (.tup [])with|some ts=>y00 all b a rest ts|none=>none)
def z031(f:Nat):Bool:=tbl.any λe=>Nat.beq e.f f&&e.pure
def z0f4(op:Op):Bool :=
 match op with
 |.alloc _| .box _ _| .store _ _ _| .makeMap _ _| .mapUpdate _ _ _ _| .insert _ _ _ _| .range _ _| .next _ _| .panic _=>false
 |.call c=>match c.callee with
  |.builtin .len| .builtin .min| .builtin .max=>true
  |.value (.func f)=>z031 D tbl f
  |_=>false
 |_=>true
def zig{R}(all:List Oper)(d:TS D.T->Option R):List Oper->TS D.T->Option R
 |[],ts=>d ts
 |o::rest,ts=>pOp o<|ykp D all o ts
  (λts=>match o.op with
   |.call c=>match c.callee with
    |.value x=>match ts.ev x,ts.evs c.args.toList with
     |some (.fn f a b),some vs=>(match (TV.yib (a++vs++b)).find? (z0ag ts)with
      |some _=>tBor D f (a++vs++b) ts (λv _=>match ts.put D o.dst v with|some ts=>zig all d rest ts|none=>none) (zxj D f (a++vs++b) ts (λv _=>match ts.put D o.dst v with|some ts=>zig all d rest ts|none=>none) (λ_ _=>none) (λ_=>none) (tbl.filter (·.pure))) tbl
      |none=>zxj D f (a++vs++b) ts (λv _=>match ts.put D o.dst v with|some ts=>zig all d rest ts|none=>none) (λ_ _=>none) (λ_=>none) (tbl.filter (·.pure)))
     |_,_=>none
    |_=>tP P D ts o.op (λv=>match ts.put D o.dst v with|some ts=>zig all d rest ts|none=>none) (λ_=>none)
   |_=>tPC P D all o (λv=>match ts.put D o.dst v with|some ts=>zig all d rest ts|none=>none) ts)
  (λts=>match ts.put D o.dst (.tup [])with|some ts=>zig all d rest ts|none=>none)
def z033:List Oper->Nat
 |[]=>0
 |o::r=>if z0f4 D tbl o.op then z033 r+1 else 0
def TV.z00u{T}:TV T->Bool
 |.any| .own _| .osl _ _| .map _| .bp _ _=>false
 |_=>true
def TV.isOwn{T}:TV T->Bool
 |.own _=>true
 |_=>false
def z4a{T}(ts:TS T)(s:Nat):Bool:=match fnd ts.o s with
 |some .gone=>false
 |some _=>true
 |none=>false
def plainO{T}(ts:TS T)(x:Operand):Option (List Nat):=match ts.ev x with
 |some v=>(match v.z00u with
  |true=>some []
  |false=>none)
 |none=>none
def ownO{T}(ts:TS T)(x:Operand):Option (List Nat):=match ts.ev x with
 |some (.own s)=>(match fnd ts.o s with
  |some (.acc _ _ _ _)=>some [s]
  |some (.deep _ _ _ _)=>some [s]
  |_=>none)
 |_=>plainO ts x
abbrev Rd:=Nat×Option Nat
def whole(l:List Nat):List Rd:=l.map λs=>(s,none)
def rdK{T}(P:Program)(ts:TS T)(op:Op):Option (List Rd):=match op with
 |.load t a=>(match ts.ev a with
  |some (.ptr s b)=>(match Nat.beq (P.cellsOf t) 1 with
   |true=>some [(s,some b)]
   |false=>some [(s,none)])
  |some (.ap s _ _ _ _)=>some [(s,none)]
  |some (.dp s _ _)=>(match fnd ts.o s with
   |some (.deep _ _ _ _)=>some [(s,none)]
   |_=>none)
  |some (.ref _ _)=>some []
  |_=>none)
 |.indexAddr _ x _=>(ownO ts x).map whole
 |.slice _ x _ _ _=>(plainO ts x).map whole
 |.call c=>(match c.callee,c.args.toList with
  |.builtin .len,[x]=>(ownO ts x).map whole
  |.builtin .min,_=>some []
  |.builtin .max,_=>some []
  |_,_=>none)
 |.makeSlice _ _ _| .move _| .assign _| .pick _ _ _| .nilCheck _| .binOp _ _ _ _ _| .unOp _ _ _| .convert _ _ _| .makeInterface _ _| .makeFunc _ _ _| .fieldAddr _ _ _| .field _ _ _| .index _ _ _| .typeAssert _ _ _ _| .extract _ _| .build _ _| .buildSlice _ _ _=>some []
 |_=>none
def appW{T}(nx:Nat):Option (TV T)->Option (TV T)->Option Nat
 |_,some (.bsl _ _)=>none
 |some (.sl _ _ _),_=>some nx
 |some .nils,_=>some nx
 |_,_=>none
def wrK{T}(ts:TS T)(op:Op):Option Nat:=match op with
 |.alloc _=>some ts.nx
 |.box _ _=>some ts.nx
 |.store _ a _=>(match ts.ev a with
  |some (.ptr s _)=>some s
  |_=>none)
 |.call c=>(match c.callee,c.args.toList with
  |.builtin .append,[s,x]=>appW ts.nx (ts.ev s) (ts.ev x)
  |_,_=>none)
 |_=>none
def yq8{T}(ts:TS T)(op:Op):Option Nat:=match wrK ts op with
 |some s=>some s
 |none=>(match op with
  |.store _ a _=>(match ts.ev a with
   |some (.ap s _ _ _ _)=>(match z4a ts s with
    |true=>some s
    |false=>none)
   |_=>none)
  |.call c=>(match c.callee,c.args.toList with
   |.builtin .append,[s,_]=>(match ts.ev s with
    |some (.own s)=>(match fnd ts.o s with
     |some (.acc _ _ _ _)=>some s
     |some (.deep _ _ _ _)=>some s
     |_=>none)
    |some .nils=>some ts.nx
    |_=>none)
   |_,_=>none)
  |_=>none)
abbrev Rds:=List (Nat×Option (List Rd))
abbrev Wrs:=List (Nat×Option Nat)
def z08s(all:List Oper)(i:Nat)(w:Option Nat)(a:Rds):Bool:=a.all λp=>ysy all p.1 i||(match p.2,w with
 |some [],_=>true
 |some R,some s=>R.all λq => !Nat.beq q.1 s
 |_,_=>false)
def yij(all:List Oper)(i:Nat)(a:Wrs):Bool:=a.all λp=>ysy all p.1 i
def rdOk(all:List Oper)(i:Nat)(R:List Rd)(a:Wrs):Bool:=a.all λp=>ysy all p.1 i||(match R,p.2 with
 |[],_=>true
 |R,some s=>R.all λq => !Nat.beq q.1 s
 |_,_=>false)
def yun(w:Option Nat)(a:Rds):Rds:=match w with
 |some _=>a
 |none=>a.map λp=>(p.1,match p.2 with|some []=>some []|_=>none)
def z0eb{T}(ts:TS T)(a:Rds):Rds:=a.map λp=>(p.1,match p.2 with
 |some R=>(match R.all (λq=>z4a ts q.1)with
  |true=>some R
  |false=>none)
 |none=>none)
def yk3(w:Option Nat)(a:Wrs):Wrs:=match w with
 |some _=>a
 |none=>a.map λp=>(p.1,none)
def z0bw(all:List Oper)(i:Nat)(rest:List Nat):Bool:=rest.all λj=>ysy all i j
def z07p(all:List Oper)(done:List Nat)(j:Nat):Bool := !done.any (Nat.beq j)&&(match all[j]? with
 |some o=>o.after.toList.all λe => !Region.binds .any e||done.any (Nat.beq e.on)
 |none=>false)
def sched(all:List Oper)(quiet:Op->Bool):Nat->List Nat->List Nat
 |0,_=>[]
 |n+1,done=>match (List.range all.length).find? λj=>z07p all done j&&(match all[j]? with|some o=>quiet o.op|none=>false)with
  |some j=>j::sched all quiet n (j::done)
  |none=>match (List.range all.length).find? λj=>z07p all done j with
   |some j=>j::sched all quiet n (j::done)
   |none=>[]
def z0ef(a:List (Nat×Nat))(k:Nat)(c:Option Nat):Bool:=match c with
 |some c=>a.any λz=>Nat.beq z.1 k&&Nat.beq z.2 c
 |none=>false
def z0b4{T}(all:List Oper)(i:Nat)(a:Rds)(b:List (Nat×Nat))(M:za9 T):Bool:=a.all λp=>ysy all p.1 i||(match p.2 with
 |some R=>R.all λq=>M.all λm=>match m.2 with
  |.slot s => !Nat.beq q.1 s||z0ef b m.1 q.2
  |.nil=>true
 |none=>false)
def kcC(e:Ent D):List (Nat×Nat):=match e.pan with
 |.tup _=>[]
 |_=>e.kc
def z0a1{R:Type}(f:Nat)(vs:List (TV D.T))(ts:TS D.T)(chk:List (Nat×Nat)->za9 D.T->Bool)(k a:TV D.T->TS D.T->Option R):Option R:=none
def yax{R}(f:Nat)(vs:List (TV D.T))(ts:TS D.T)(chk:List (Nat×Nat)->za9 D.T->Bool)(k a:TV D.T->TS D.T->Option R):List (Ent D)->Option R
 |[]=>z0a1 D f vs ts chk k a
 |e::r=>match Nat.beq e.f f with
  |false=>yax f vs ts chk k a r
  |true=>match e.fit D vs ts with
   |.ok (M,x)=>if chk (kcC D e) M=true∧yua D M ts e.kc=true∧e.p<=e.aos.length∧e.p<=e.ros.length∧e.p<=e.pos.length∧(List.range e.p).all (λk=>match fnd M k with|some (.slot _)=>true|_=>false)then
      e.go x (λy=>k (yly D (z3n D (zdm D M e.p ts.nx) e.outs (HL.fst _ y))) (zgj D M e.p ts.nx e.ren (zcs D M ts e.kc (zfh D M e.p ts e.ros (HL.snd _ y)))))
       (λy=>altK D e.pan k a (zt5 D (zdm D M e.p ts.nx) e.pan (HL.fst _ y)) (zfh D M e.p ts e.pos (HL.snd _ y)))
      else none
   |_=>yax f vs ts chk k a r
def z0eh(τ:DTy):TV D.T->Option (List (τ.S D.T))
 |.nils=>some []
 |.sl t xs _=>zgp t τ xs
 |_=>none
def fl12(n:Nat):Bool:=match n with
 |1=>true
 |2=>true
 |_=>false
def z0ar{R}(t u:Nat)(s x:TV D.T)(k:TV D.T->Option R):Option R :=
 match s with
 |.sl b xs d=>(match fl12 d with
  |true=>(match P.underlying t,P.underlying u with
   |some (.slice e),some g=>(match P.info? e,D.ty e with
    |some i,some τ=>(match i.zero with
     |some z=>(match y0t g&&decide (0<i.size)&&decide (i.bytes<=524288)&&z.cells.size==i.size&&Nat.beq (D.len τ) i.size with
      |true=>(match zgp b τ xs,z0eh D τ x with
       |some xs,some a=>z9e (ext xs a) λzs=>k (.sl τ zs 0)
       |_,_=>none)
      |false=>none)
     |none=>none)
    |_,_=>none)
   |_,_=>none)
  |false=>none)
 |_=>none
def appB(op:Op):Bool:=match op with
 |.call c=>(match c.callee with
  |.builtin .append=>true
  |_=>false)
 |_=>false
def z0ez(all:List Oper)(i:Nat):Bool:=(List.range all.length).any λj => !Nat.beq i j&&(match all[j]? with|some o=>effB o.op|none=>false) && !ysy all i j && !ysy all j i
def zg0{R}(all:List Oper)(l:TS D.T->Option R)(k:TV D.T->TS D.T->Option R):List Nat->Rds->Wrs->TS D.T->Option R
 |[],_,_,ts=>l ts
 |i::rest,h,g,ts=>match all[i]? with
 |none=>none
 |some o=>pOp o<|ykp D all o ts
  (λts=>match effB o.op with
   |true=>(match appB o.op&&z0ez all i with
    |true=>(match o.op with
     |.call c=>(match c.callee,c.args.toList,c.argTypes.toList with
      |.builtin .append,[s,x],[t,u]=>(match ts.ev s,ts.ev x with
       |some s,some x=>z0ar P D t u s x (λv=>match ts.put D o.dst v with
        |some d=>zg0 all l k rest ((i,some [])::h) g d
        |none=>none)
       |_,_=>none)
      |_,_,_=>none)
     |_=>none)
    |false=>(match z08s all i (yq8 ts o.op) h&&yij all i g with
    |true=>tOp P D ts o.op (λv j=>match j.put D o.dst v with
     |some d=>zg0 all l k rest (yun (wrK ts o.op) h) ((i,wrK ts o.op)::yk3 (wrK ts o.op) g) d
     |none=>none) (λ_=>none)
    |false=>none))
   |false=>(match z071 D tbl o with
    |true=>(match z08s all i (some ts.nx) h&&yij all i g with
     |true=>tLit P D ts o.op (λv j=>match j.put D o.dst v with
      |some d=>zg0 all l k rest h ((i,some ts.nx)::g) d
      |none=>none) none
     |false=>none)
    |false=>match rdK P ts o.op with
    |some R=>(match rdOk all i R g&&R.all (λq=>z4a ts q.1)with
     |true=>tP P D ts o.op (λv=>match ts.put D o.dst v with
      |some d=>zg0 all l k rest ((i,some R)::h) g d
      |none=>none) (λ_=>none)
     |false=>none)
    |none=>(match o.op with
     |.call c=>(match c.callee with
      |.value x=>(match ts.ev x,ts.evs c.args.toList with
       |some (.fn f a b),some vs=>(match z031 D tbl f && !vs.any TV.isOwn with
        |true=>zxj D f (a++vs++b) ts (λv _=>match ts.put D o.dst v with
         |some d=>zg0 all l k rest ((i,some [])::h) g d
         |none=>none) (λ_ _=>none) (λ_=>none) (tbl.filter (·.pure))
        |false=>(match z0bw all i rest&&yij all i g with
         |true=>yax D f (a++vs++b) ts (z0b4 all i h) (λv j=>match j.put D o.dst v with
          |some d=>zg0 all l k rest (z0eb d h) ((i,none)::yk3 none g) d
          |none=>none) (λz j=>k z {j with t:=[]}) (tbl.filter λe => !e.pure)
         |false=>none))
       |_,_=>none)
      |_=>none)
     |_=>none)))
  (λts=>match ts.put D o.dst (.tup [])with
   |some d=>zg0 all l k rest ((i,some [])::h) g d
   |none=>none)
def dry1(ts:TS D.T)(op:Op):Option (TV D.T):=match op with
 |.move x=>ts.ev x
 |.assign x=>ts.ev x
 |.nilCheck x=>ts.ev x
 |.fieldAddr _ _ _=>tP P D ts op some (λ_=>none)
 |.binOp .add _ _ _ _=>tP P D ts op some (λ_=>none)
 |.binOp .sub _ _ _ _=>tP P D ts op some (λ_=>none)
 |.indexAddr _ x i=>(match ts.ev x,ts.ev i with
  |some (.own s),some (.int _ n)=>some (.dp s n 0)
  |_,_=>none)
 |.load _ a=>(match ts.ev a with
  |some (.ptr s b)=>(match fnd ts.o s with
   |some (.cells cs)=>cs[b]?
   |_=>none)
  |some (.dp s _ b)=>(match fnd ts.o s with
   |some (.deep _ _ _ (some p))=>(match Nat.beq p.2.1 b with
    |true=>some (.own p.2.2)
    |false=>none)
   |_=>none)
  |_=>none)
 |_=>none
def dryO:List Oper->TS D.T->Option (Nat×Int×Nat)
 |[],_=>none
 |o::r,ts=>
  let go:=λ_:Unit=>match ts.put D o.dst (match o.guard with
   |some _=>.any
   |none=>(match dry1 P D ts o.op with
    |some v=>v
    |none=>.any))with
   |some d=>dryO r d
   |none=>none
  match o.op with
  |.load _ a=>(match ts.ev a with
   |some (.dp s i b)=>(match fnd ts.o s with
    |some (.deep _ q _ none)=>(match D.ow q b with
     |some _=>some (s,i,b)
     |none=>go ())
    |_=>go ())
   |_=>go ())
  |_=>go ()
def yvz{R}(ops:List Oper):Nat->TS D.T->(TS D.T->Option R)->Option R
 |0,ts,k=>k ts
 |n+1,ts,k=>match dryO P D ops ts with
  |some q=>ts.opn D q.1 q.2.1 q.2.2 λ_ ts=>yvz ops n ts k
  |none=>k ts
def z0fu(ops:Array Oper):Nat:=match ops.toList.any (z071 D tbl)with
 |true=>0
 |false=>z033 D tbl ops.toList
def ya6{R}(ops:Array Oper)(draw:Bool)(ts:TS D.T)(a:TS D.T->Option R)(b:TV D.T->TS D.T->Option R):Option R :=
 if draw then
  let n:=z0fu D tbl ops
  if P.follows .mixedOrders then
   (if n=ops.size then (if Region.lexB .any ops then zig P D tbl ops.toList a ops.toList ts else none)
   else (if Region.lexTailB .any ops n then (yvz P D ops.toList 4 ts λts=>zig P D tbl ops.toList (λts=>y00 P D tbl ops.toList a b (ops.toList.drop n) ts) (ops.toList.take n) ts)
   else (let l:=sched ops.toList (λop => !effB op&&(match op with| .call c=>(match c.callee with| .value (.func f)=>z031 D tbl f| .value _=>false|_=>true)|_=>true)) ops.size []
    if yaw .any ops l (Array.replicate ops.size false)&&Nat.beq l.length ops.size&&(List.range ops.size).all (λj=>l.any (Nat.beq j))then (yvz P D ops.toList 4 ts λts=>zg0 P D tbl ops.toList a b l [] [] ts)else none)))
  else none
 else y00 P D tbl ops.toList a b ops.toList ts
end
inductive AC where
 |skip
 |region (id:Nat) (ops:Array Oper) (draw:Bool)
 |seq (a b:AC)
 |cond (c:Operand) (a b:AC)
 |block (id:Nat) (a:AC)
 |loop (a:AC)
 |exit (id:Nat)
 |ret
 |lab (l:Nat) (a:AC)
 |rng (lf:Nat) (g:Operand) (p:Nat) (a b:AC)
 |other (c:Code)
def AC.erase:AC->Code
 |.skip=>.skip
 |.region id ops d=>.region id ops d
 |.seq a b=>.seq a.erase b.erase
 |.cond c a b=>.cond c a.erase b.erase
 |.block id a=>.block id a.erase
 |.loop a=>.loop a.erase
 |.exit id=>.exit id
 |.ret=>.ret
 |.lab _ a=>a.erase
 |.rng _ g p a b=>.rangeFunc g #[p] a.erase b.erase
 |.other c=>c
def AC.labels:AC->List Nat
 |.seq a b=>a.labels++b.labels
 |.cond _ a b=>a.labels++b.labels
 |.block _ a=>a.labels
 |.loop a=>a.labels
 |.lab l a=>l::a.labels
 |_=>[]
def AC.zn2:AC->List Nat
 |.seq a b=>a.zn2++b.zn2
 |.cond _ a b=>a.zn2++b.zn2
 |.block _ a=>a.zn2
 |.loop a=>a.zn2
 |.lab _ a=>a.zn2
 |.rng d _ _ _ _=>[d]
 |_=>[]
def y8j(f:List (Nat×Nat))(i:Nat)(a:AC):AC :=
 match fnd f i with
 |some l=>.lab l a
 |none=>a
def ann(f:List (Nat×Nat)):Code->Nat->AC×Nat
 |.skip,i=>(y8j f i .skip,i+1)
 |.region id ops d,i=>(y8j f i (.region id ops d),i+1)
 |.seq a b,i=>
  let x:=ann f a (i+1)
  let y:=ann f b x.2
  (y8j f i (.seq x.1 y.1),y.2)
 |.cond c a b,i=>
  let x:=ann f a (i+1)
  let y:=ann f b x.2
  (y8j f i (.cond c x.1 y.1),y.2)
 |.block id a,i=>
  let x:=ann f a (i+1)
  (y8j f i (.block id x.1),x.2)
 |.loop a,i=>
  let x:=ann f a (i+1)
  (y8j f i (.loop x.1),x.2)
 |.exit id,i=>(y8j f i (.exit id),i+1)
 |.ret,i=>(y8j f i .ret,i+1)
 |.rangeFunc g e a b,i=>match fnd f (i+1000000),e with
  |some h,⟨[p]⟩ =>
   let x:=ann f a (i+1)
   let y:=ann f b x.2
   (y8j f i (.rng h g p x.1 y.1),y.2)
  |_,_=>(.other (.rangeFunc g e a b),i+1)
 |c,i=>(.other c,i+1)
structure Lb(D:Dat)(R:Type) where
 sh:LSh
 go:HL D.T sh.tys->Option R
def jump(D){R}(z2k:List (Nat×Lb D R))(l:Nat)(ts:TS D.T):Option R :=
 match fnd z2k l with
 |some a=>a.sh.enter D a.go 9 ts
 |none=>none
structure Ks(T:Nat->Type)(R:Type) where
 kn:TS T->Option R
 kx:List (Nat×(TS T->Option R))
 kr:TS T->Option R
 kp:TV T->TS T->Option R
section
variable (P:Program)(D:Dat)(tbl:List (Ent D)){R:Type}(J:Nat → TS D.T → Option R)
def z073(ts:TS D.T):List (TV D.T)->Option Nat
 |[]=>none
 |v::l=>match v with
  |.own k=>(match fnd ts.o k with
   |some (.acc _ _ _ _)=>some k
   |_=>z073 ts l)
  |_=>z073 ts l
def usedB(r:List Oper)(b:Option Nat):Bool:=match b with
 |some d=>r.any λq=>(match q.op with
  |.call c=>(match c.callee with
   |.value (.func f)=>z031 D tbl f&&c.args.toList.any λa=>(match a with
    |.tmp i=>Nat.beq i d
    |_=>false)
   |_=>false)
  |_=>false)
 |none=>false
def preS:List Oper->TS D.T->Option Nat
 |[],_=>none
 |o::r,ts=>match o.op with
  |.slice _ x _ _ _=>(match ts.ev x with
   |some (.own k)=>(match fnd ts.o k with
    |some (.deep _ _ _ _)=>some k
    |_=>none)
   |_=>none)
  |.buildSlice _ _ _=>preS r ts
  |.fieldAddr _ _ _| .load _ _| .move _=>(match tP1 P D ts o.op with
   |.ok v=>(match z020 D ts (match v with| .agg cells=>cells|_=>[])with
    |some k=>some k
    |none=>(match z073 D ts (match usedB D tbl r o.dst with|true=>(match v with| .agg cells=>cells|_=>[])|false=>[])with
     |some k=>some k
     |none=>(match ts.put D o.dst v with
      |some ts=>preS r ts
      |none=>none)))
   |_=>none)
  |.call _=>preS r ts
  |_=>none
def pre1(ops:Array Oper)(ts:TS D.T):TS D.T:=match preS P D tbl ops.toList ts with
 |some s=>(match ts.freeze D s with
  |some a=>a
  |none=>ts)
 |none=>ts
def pre(ops:Array Oper)(d:Bool)(ts:TS D.T):TS D.T:=match d with
 |true=>pre1 P D tbl ops (pre1 P D tbl ops ts)
 |false=>ts
def run:AC->TS D.T->Ks D.T R->Option R
 |.skip,ts,K=>K.kn ts
 |.region _ ops d,ts,K=>ya6 P D tbl ops d (pre P D tbl ops d ts) K.kn K.kp
 |.seq a b,ts,K=>run a ts {K with kn:=λts=>run b ts K}
 |.cond c a b,ts,K=>match ts.ev c with
  |some (.bool v)=>(match c with
   |.tmp t=>pIf v (run a {ts with t:=(t,.bool true)::ts.t} K) (run b {ts with t:=(t,.bool false)::ts.t} K)
   |_=>pIf v (run a ts K) (run b ts K))
  |_=>none
 |.block id a,ts,K=>run a ts {K with kx:=(id,K.kn)::K.kx}
 |.loop _,_,_=>none
 |.exit id,ts,K=>match fnd K.kx id with
  |some k=>k ts
  |none=>none
 |.ret,ts,K=>K.kr ts
 |.lab l _,ts,_=>J l ts
 |.rng _ _ _ _ _,_,_=>none
 |.other _,_,_=>none
def z03v(a b:B8):Option Unit:=if a=b then some ()else none
def capS(s:B8):Option Unit:=if s.length<=4611686018427387904 then some ()else none
def TS.back{T}(ts a:TS T):TS T:={a with t:=ts.t,d:=ts.d,nt:=ts.nt}
def TS.mark{T}(ts:TS T):TS T:={ts with d:=(4000000000,[])::ts.d}
def z025(l m:Nat)(g:Operand)(p:Nat)(a b:AC)(K:Ks D.T R)(ts:TS D.T):Option R :=
 match a.labels,b.labels,calm a.erase&&calm b.erase with
 |[],[],true=>(match ts.ev g with
  |some (.fn f [] [.ptr k 0])=>(match Nat.beq f m,fnd ts.o k with
   |true,some (.cells [.str r])=>z9e (capS r) λ_=>pIf (noS r) (K.kn ts.mark) (match TS.put D {ts with d:=[]} (some p) (.str (lnA r))with
    |some i=>run P D tbl J a (i.set D k (.cells [.str (lnB r)])) ⟨λh=>run P D tbl J b h ⟨λe=>(match fnd e.o k with
      |some (.cells [.str j])=>z9e (z03v j (lnB r)) λ_=>J l (ts.back e)
      |_=>none),K.kx.map (λq=>(q.1,λe=>q.2 (ts.back e).mark)),λe=>K.kr (ts.back e).mark,λ_ _=>none⟩,[],λ_=>none,λ_ _=>none⟩
    |none=>none)
   |_,_=>none)
  |_=>none)
 |_,_,_=>none
def z0ad(l:Nat)(a:AC)(K:Ks D.T R):TS D.T->Option R:=λts=>
 match a with
 |.loop b=>run P D tbl J b ts {K with kn:=J l}
 |.rng d g p a b=>z025 P D tbl J l d g p a b K ts
 |a=>run P D tbl J a ts K
def AC.at(l:Nat):AC->Ks D.T R->(TS D.T->Option R)->Option (TS D.T->Option R)
 |.seq a b,K,_=>match AC.at l a {K with kn:=λts=>run P D tbl J b ts K} (λ_=>none)with
  |some x=>some x
  |none=>AC.at l b K (λ_=>none)
 |.cond _ a b,K,_=>match AC.at l a K (λ_=>none)with
  |some x=>some x
  |none=>AC.at l b K (λ_=>none)
 |.block id a,K,_=>AC.at l a {K with kx:=(id,K.kn)::K.kx} (λ_=>none)
 |.loop a,K,kl=>AC.at l a {K with kn:=kl} (λ_=>none)
 |.lab d a,K,_=>match Nat.beq d l with
  |true=>some (z0ad P D tbl J d a K)
  |false=>AC.at l a K (J d)
 |_,_,_=>none
end
def argT{α:Type}:List α->Nat->List (Nat×α)
 |[],_=>[]
 |a::l,k=>(k,a)::argT l (k+1)
def entry(D:Dat)(args)(aos)(a:Nat)(gs:List Nat)(x:HL D.T (Sh.z1i args++z1j aos)):TS D.T :=
 ⟨argT (z3n D (λk=>k) args (HL.fst _ x)) 0,z6j D (λk=>k) aos 0 (HL.snd _ x),aos.length,a,[],gs.map some⟩
def y1h(P:Program)(D:Dat)(ts:TS D.T):List ResultVar->Option (List (TV D.T))
 |[]=>some []
 |.tmp t::rs=>match fnd ts.t t,y1h P D ts rs with
  |some v,some vs=>some (v::vs)
  |_,_=>none
 |.cell a t::rs=>match fnd ts.t a with
  |some p=>match z03c P D ts t p,y1h P D ts rs with
   |some v,some vs=>some (v::vs)
   |_,_=>none
  |none=>none
def y06{R}(D:Dat)(l:LSh)(pack:HL D.T l.tys->R):Ks D.T R :=
 ⟨l.enter D (λx=>some (pack x)) 9,[],l.enter D (λx=>some (pack x)) 9,λ_ _=>none⟩
def TS.yc5{T}(ts:TS T):TS T:=match ts.d with
 |[(f,[])]=>(match Nat.beq f 4000000000 with
  |true=>{ts with d:=[]}
  |false=>ts)
 |_=>ts
def yue{R}(D:Dat)(l:LSh)(pack:HL D.T l.tys->R):Ks D.T R :=
 ⟨λts=>l.enter D (λx=>some (pack x)) 9 ts.yc5,[],λts=>l.enter D (λx=>some (pack x)) 9 ts.yc5,λ_ _=>none⟩
section
variable (D:Dat)
def z01t(b:Sh)(a)(p:Nat)(z:TV D.T)(ts:TS D.T):Option (HL D.T (b.tys++z1j a)) :=
 match ts.d with
 |[]=>match ye8 D a.length b z (pins p)with
  |.ok (M,x)=>match ygt D a.length ts a 0 M with
   |.ok (_,y)=>some (HL.app x y)
   |_=>none
  |_=>none
 |_=>none
def y9o:Option Sh->List DTy
 |none=>[]
 |some s=>s.tys
structure y1i where
 f:Nat
 args:List Sh
 aos:List OSh
 m:Option Sh
 ros:List OSh
 go:HL D.T (Sh.z1i args++z1j aos)->HL D.T (y9o m)->Option (HL D.T (z1j ros))
def y1i.ent(a:y1i D):Ent D:={f:=a.f,p:=a.aos.length,args:=a.args,aos:=a.aos,outs:=[],ros:=a.ros,pan:=.nilp,pos:=[],pure:=false,go:=λ_ _ _=>none}
def ypz:(m:Option Sh)->Option (TV D.T)->Option (HL D.T (y9o m))
 |none,none=>some ()
 |some s,some z=>match ye8 D 0 s z []with
  |.ok (_,x)=>some x
  |_=>none
 |_,_=>none
def ycc{R}(f:Nat)(vs:List (TV D.T))(m:Option (TV D.T))(ts:TS D.T)(k:TS D.T->Option R):List (y1i D)->Option R
 |[]=>none
 |de::r=>match Nat.beq de.f f with
  |false=>ycc f vs m ts k r
  |true=>match ypz D de.m m with
   |none=>ycc f vs m ts k r
   |some a=>match de.ent.fit D vs ts with
    |.ok (M,x)=>if de.aos.length<=de.ros.length∧(List.range de.aos.length).all (λk=>match fnd M k with|some (.slot _)=>true|_=>false)then
       z9e (de.go x a) λy=>k (zfh D M de.aos.length ts de.ros y)else none
    |_=>ycc f vs m ts k r
def zix{R}(des:List (y1i D))(k:TS D.T->Option R)(b:TV D.T->TS D.T->Option R):List (Nat×List (TV D.T))->Option (TV D.T)->TS D.T->Option R
 |[],none,ts=>k ts
 |[],some z,ts=>b z ts
 |(f,vs)::r,m,ts=>match Nat.blt f 4000000000 with
  |true=>ycc D f vs m ts (λa=>zix des k b r none {a with d:=r}) des
  |false=>none
def panK{X R}(d:Sh)(b)(p:Nat)(a:HL D.T (d.tys++z1j b)->X)(z:TV D.T)(ts:TS D.T):Option (Res X R):=match z01t D d b p z ts with
 |some y=>some (.pan (a y))
 |none=>none
def z03n{X R}(des:List (y1i D))(l:LSh)(pack:HL D.T l.tys->R)(e:Sh)(b)(p:Nat)(a:HL D.T (e.tys++z1j b)->X):Ks D.T (Res X R) :=
 ⟨λts=>zix D des (l.enter D (λx=>some (.ok (pack x))) 9) (panK D e b p a) ts.d none ts,[],
  λts=>zix D des (l.enter D (λx=>some (.ok (pack x))) 9) (panK D e b p a) ts.d none ts,
  λz ts=>zix D des (l.enter D (λx=>some (.ok (pack x))) 9) (panK D e b p a) ts.d (some z) ts⟩
def z03g{R}(des:List (y1i D))(l:LSh)(pack:HL D.T l.tys->R):Ks D.T R :=
 ⟨λts=>zix D des (l.enter D (λx=>some (pack x)) 9) (λ_ _=>none) ts.d none ts,[],
  λts=>zix D des (l.enter D (λx=>some (pack x)) 9) (λ_ _=>none) ts.d none ts,
  λz ts=>zix D des (l.enter D (λx=>some (pack x)) 9) (λ_ _=>none) ts.d (some z) ts⟩
def runS{R}(P:Program)(tbl:List (Ent D))(J:Nat->TS D.T->Option R)(a:TV D.T):AC->TS D.T->Ks D.T R->Option R
 |.seq (.region _ ops false) b,ts,K=>match ops.toList with
  |o::rest=>match isRec o with
   |true=>match ts.put D o.dst a with
    |some ts=>y00 P D tbl ops.toList (λts=>run P D tbl J b ts K) K.kp rest ts
    |none=>none
   |false=>none
  |[]=>none
 |_,_,_=>none
end
theorem yzc{α}(i)(a)(r:List (Nat×α))(j):fnd ((i,a)::r) j=if i=j then some a else fnd r j:=by
 simp[fnd]
 cases h:Nat.beq i j with
 |true=>simp_all
 |false=>rw[Qbr (λe=>by simp_all)]
def zo5{α}(f:α->α):∀(l) (j),fnd (l.map λp=>(p.1,f p.2)) j=(fnd l j).map f
 |[],j=>rfl
 |(i,a)::r,j=>by
  rw[List.map_cons,yzc,yzc];split;rfl;exact zo5 f r j
def HL.nth{T}:(l:List DTy)->HL T l->Nat->Option ((t:DTy)×t.S T)
 |[],_,_=>none
 |t::_,x,0=>some ⟨t,x.1⟩
 |_::l,x,j+1=>HL.nth l x.2 j
def HL.zn7{T}:∀(l) (x:HL T l) (j),j<l.length->∃p,HL.nth l x j=some p∧l[j]? = some p.1
 |[],_,j,h=>by simp at h
 |t::_,x,0,_=>⟨⟨t,x.1⟩,rfl,rfl⟩
 |_::l,x,j+1,h=>by
  have⟨p,b,a⟩:=HL.zn7 l x.2 j (by simpa using h);exact⟨p,b,by simpa using a⟩
theorem HL.zic{T}:∀(l) (x) (j) (p:(t:DTy)×t.S T),HL.nth l x j=some p->j<l.length∧l[j]? = some p.1
 |[],_,j,p,h=>by simp[HL.nth]at h
 |t::_,x,0,p,h=>by simp[HL.nth]at h;subst h;simp
 |_::l,x,j+1,p,h=>by
  have⟨b,a⟩:=HL.zic l x.2 j p h;exact⟨by simpa using b,by simpa using a⟩
structure Dat.Ok(P:Program)(D:Dat):Prop where
 enc:∀i x,D.enc i x = .agg (D.els (D.fl i) (D.get i x))
 getMake:∀i x,D.get i (D.make i x)=x
 flat:∀i t,t∈D.fl i->(match t with| .st _=>False| .nat=>False|_=>True)
 ty:∀e t,D.ty e=some t->t ≠ .nat
 kin:∀i x (Dm:Nat->Nat->Prop),V.kin Dm (D.enc i x)
section
variable {D:Dat}
def yg1:∀(l) (x),(D.els l x).length=l.length
 |[],_=>rfl
 |t::l,x=>by simp[Dat.els,yg1 l x.2]
theorem yr6:∀(l) (x) (j),(D.els l x)[j]? = (HL.nth l x j).map λp=>D.el p.1 p.2
 |[],_,j=>by simp[Dat.els,HL.nth]
 |t::l,x,0=>by simp[Dat.els,HL.nth]
 |t::l,x,j+1=>by simpa[Dat.els,HL.nth]using yr6 l x.2 j
theorem zgi:∀(l) (x),(D.leaves l x).length=l.length
 |[],_=>rfl
 |t::l,x=>by simp[Dat.leaves,zgi l x.2]
def ziu:∀(l) (x) (j),(D.leaves l x)[j]? = (HL.nth l x j).map λp=>D.leaf p.1 p.2
 |[],_,j=>by simp[Dat.leaves,HL.nth]
 |t::l,x,0=>by simp[Dat.leaves,HL.nth]
 |t::l,x,j+1=>by simpa[Dat.leaves,HL.nth]using ziu l x.2 j
inductive DR (D:Dat):(t:DTy)->t.S D.T->V->Prop where
 |bool (b:Bool):DR D .bool b (.bool b)
 |int (k:IntKind) (n:Int):DR D (.int k) n (.int k n)
 |str (s:B8):DR D .str s (.str s)
 |nat (n:Nat):DR D .nat n .any
 |nil (t:DTy):DR D (.sl t) ([]:List (t.S D.T)) .nils
 |sl (t:DTy) (xs:List (t.S D.T)) (ws:List V) (full:Bool) (hl:ws.length=xs.length) (h:∀(j:Nat) (x:t.S D.T) (w:V),xs[j]? = some x->ws[j]? = some w->DR D t x w):DR D (.sl t) xs (.sl (D.len t) ws full)
 |st (i:Nat) (x:D.T i) (vs:List V) (hl:vs.length=(D.fl i).length) (h:∀(j:Nat) (p:(t:DTy)×t.S D.T) (v:V),HL.nth (D.fl i) (D.get i x) j=some p->vs[j]? = some v->DR D p.1 p.2 v):DR D (.st i) x (.agg vs)
 |enc (i:Nat) (x:D.T i):DR D (.st i) x (D.enc i x)
variable {P:Program}(hD:D.Ok P)
include hD
theorem yxi(t)(x):(D.el t x).cells.length=D.len t:=by
 cases t with
 |st i=>exact(congrArg (λv=>v.cells.length) (hD.enc i x)).trans (yg1 _ _)
 |_=>rfl
theorem DR.cells{t x v}(h:DR D t x v):v.cells.length=D.len t:=by
 cases h with
 |enc i x=>exact yxi hD (.st i) x
 |st i x vs a h=>simpa[Dat.len]using a
 |_=>rfl
omit hD in
theorem DR.elsl(t:DTy)(xs:List (t.S D.T))(h:∀x,DR D t x (D.el t x)):DR D (.sl t) xs (.sl (D.len t) (xs.map (D.el t)) false) :=
 .sl t xs _ false (by simp) λj x w a b=>by
   grind
omit hD in
theorem DR.el:∀(t) (x),DR D t x (D.el t x)
 |.bool,b=>.bool b
 |.int k,n=>.int k n
 |.str,s=>.str s
 |.nat,n=>.nat n
 |.sl t,xs=>DR.elsl t xs (DR.el t)
 |.st i,x=>.enc i x
end
structure Slot where
 v:V
 k:Option Nat
 ws:List V
 fp:List Nat:=[]
def Slot.has(sl:Slot)(i:Nat):Prop:=sl.k=some i∨i∈sl.fp
def yeh{T}:(t:DTy)->t.S T->PV
 |.bool,b=>.bool b
 |.int k,n=>.int k n
 |.str,s=>.str s
 |_,_=>.bool false
def z0bn(D:Dat):∀{t},t.flat=true->∀x:t.S D.T,(yeh t x).v=D.el t x
 |.bool,_,_=>rfl
 |.int _,_,_=>rfl
 |.str,_,_=>rfl
section
variable (D:Dat)(ρ:List Slot)(lv:Nat)
mutual
def VR:TV D.T->V->Prop
 |.any,_=>True
 |.bool b,v=>v = .bool b
 |.int k n,v=>v = .int k n
 |.str s,v=>v = .str s
 |.nilp,v=>v = .nilp
 |.nils,v=>v = .nils
 |.mapn,v=>v = .mapn
 |.nilf,v=>v = .nilf
 |.nili,v=>v = .nili
 |.sl t xs g,v=>DR D (.sl t) xs v∧(1<=g->∃ws,v = .sl (D.len t) ws true)∧(g=2->xs=[])
 |.own s,v=>∃sl,ρ[s]? = some sl∧v=sl.v∧v.leaf=true
 |.osl s lo,v=>∃sl j e,ρ[s]? = some sl∧sl.k=some j∧sl.v = .hs lv j e 0 sl.ws.length false∧0<=lo∧lo.toNat<=sl.ws.length∧(v = .hs lv j e lo.toNat (sl.ws.length-lo.toNat) false∨(lo.toNat=sl.ws.length∧∃l,v = .sl l [] false))
 |.ptr s d,v=>∃sl i,ρ[s]? = some sl∧sl.k=some i∧v = .ptr lv i d
 |.bp s d,v=>∃sl i,ρ[s]? = some sl∧sl.k=some i∧v = .ap lv i 0 0 d
 |.map s,v=>∃sl i,ρ[s]? = some sl∧sl.k=some i∧v = .map lv i
 |.mc t es,v=>t.flat=true∧v = .mapc (es.map λp=>(.str p.1,yeh t p.2))
 |.ref cs d,v=>∃vs,v = .ref vs d∧VRL cs vs
 |.ap s t i x d,v=>∃sl w,ρ[s]? = some sl∧0<=i∧sl.ws[i.toNat]? = some w∧DR D t x w ∧
  (match sl.k with
  |none=>v = .ref w.cells d
  |some j=>∃e n,sl.v = .hs lv j e 0 n false∧v = .ap lv j e i.toNat d)
 |.fn f a b,v=>∃h bs,v = .fn f h bs∧VRL a h∧VRL b bs
 |.iface t x,v=>∃y,v = .iface t y∧VR x y
 |.agg cs,v=>∃vs,v = .agg vs∧VRL cs vs
 |.tup cs,v=>∃vs,v = .tup vs∧VRL cs vs
 |.dp s i d,v=>∃sl j e m,ρ[s]? = some sl∧sl.v = .hs lv j e 0 m false∧0<=i∧i.toNat<m∧v = .ap lv j e i.toNat d
 |.bsl q cs,v=>∃vs,v = .sl (D.len (.st q)) vs true∧VRL cs vs
def VRL:List (TV D.T)->List V->Prop
 |[],vs=>vs=[]
 |c::cs,vs=>∃v r,vs=v::r∧VR c v∧VRL cs r
end
end
section
variable {D:Dat}{ρ:List Slot}{lv:Nat}
def VRL.length:∀{cs vs},VRL D ρ lv cs vs->cs.length=vs.length
 |[],vs,h=>by subst h;rfl
 |c::cs,vs,h=>by
  obtain⟨v,r,rfl,_,a⟩:=h;simp[VRL.length a]
theorem VRL.get:∀{cs vs},VRL D ρ lv cs vs->∀(j:Nat) (c),cs[j]? = some c->∃v,vs[j]? = some v∧VR D ρ lv c v
 |[],vs,h,j,c,a=>by simp at a
 |c::cs,vs,h,0,d,a=>by
  simp[VRL]at h
  grind
 |c::cs,vs,h,j+1,d,a=>by
  obtain⟨v,r,rfl,i,g⟩:=h;have⟨u,b,e⟩:=VRL.get g j d (by simpa using a);exact⟨u,by simpa using b,e⟩
def VRL.of:∀{cs vs},cs.length=vs.length->(∀(j:Nat) (c) (v),cs[j]? = some c->vs[j]? = some v->VR D ρ lv c v)->VRL D ρ lv cs vs
 |[],[],_,_=>by simp[VRL]
 |[],v::vs,h,_=>by simp at h
 |c::cs,[],h,_=>by simp at h
 |c::cs,v::vs,h,k=>by
  exact⟨v,vs,rfl,k 0 c v rfl rfl,VRL.of (by simpa using h) λj e a d b=>k (j+1) e a (by simpa using d) (by simpa using b)⟩
def VRL.y63{cs vs}(h:VRL D ρ lv cs vs){j:Nat}{c v}(a:cs[j]? = some c)(b:vs[j]? = some v):VR D ρ lv c v:=by
 have⟨u,d,e⟩:=h.get j c a
 grind
def VRL.take{cs vs}(h:VRL D ρ lv cs vs)(n):VRL D ρ lv (cs.take n) (vs.take n) :=
 .of (by simp[h.length]) λj c v a b=>by
   rw[Qaw]at a b;split at a;rw[Qbq ‹_›]at b;exact h.y63 a b;cases a
def VRL.drop{cs vs}(h:VRL D ρ lv cs vs)(n):VRL D ρ lv (cs.drop n) (vs.drop n) :=
 .of (by simp[h.length]) λj c v b a=>by
   rw[Qba]at b a;exact h.y63 b a
def VRL.append{a b x y}(h:VRL D ρ lv a x)(k:VRL D ρ lv b y):VRL D ρ lv (a++b) (x++y) :=
 .of (by simp[h.length,k.length]) λj c v e d=>by
   rw[Qaz]at e d;rw[<-h.length]at d;split at e;rw[Qbq ‹_›]at d;exact h.y63 e d;rw[Qbr ‹_›]at d;exact k.y63 e d
theorem VRL.z0m{a b x y}(h:VRL D ρ lv a x)(k:VRL D ρ lv b y)(d):VRL D ρ lv (zm9 a d b) (z0m x d y):=by
 unfold zm9 Go.Ab.z0m;rw[k.length];exact((h.take d).append k).append (h.drop _)
def lookup_append{ρ e:List Slot}{s:Nat}{sl}(h:ρ[s]? = some sl):(ρ++e)[s]? = some sl:=by
 grind
mutual
def VR.more(e:List Slot):∀{x:TV D.T}{v:V},VR D ρ lv x v->VR D (ρ++e) lv x v
 |.any,_,_=>by simp only[VR]
 |.bool b,_,h=>by simpa only[VR]using h
 |.int k n,_,h=>by simpa only[VR]using h
 |.str s,_,h=>by simpa only[VR]using h
 |.nilp,_,h=>by simpa only[VR]using h
 |.nils,_,h=>by simpa only[VR]using h
 |.mapn,_,h=>by simpa only[VR]using h
 |.nilf,_,h=>by simpa only[VR]using h
 |.nili,_,h=>by simpa only[VR]using h
 |.sl t xs u,_,h=>by simpa only[VR]using h
 |.own s,_,h=>by simp only[VR]at h ⊢;have⟨sl,g,d⟩:=h;exact⟨sl,lookup_append g,d⟩
 |.osl s lo,_,h=>by simp only[VR]at h ⊢;have⟨sl,j,o,g,d⟩:=h;exact⟨sl,j,o,lookup_append g,d⟩
 |.ptr s l,_,h=>by simp only[VR]at h ⊢;have⟨sl,i,g,d⟩:=h;exact⟨sl,i,lookup_append g,d⟩
 |.bp s l,_,h=>by simp only[VR]at h ⊢;have⟨sl,i,g,d⟩:=h;exact⟨sl,i,lookup_append g,d⟩
 |.map s,_,h=>by simp only[VR]at h ⊢;have⟨sl,i,g,d⟩:=h;exact⟨sl,i,lookup_append g,d⟩
 |.mc t es,_,h=>by simpa only[VR]using h
 |.ref cs l,_,h=>by simp only[VR]at h ⊢;have⟨vs,g,d⟩:=h;exact⟨vs,g,VRL.more e d⟩
 |.ap s t i x l,_,h=>by simp only[VR]at h ⊢;have⟨sl,w,g,d⟩:=h;exact⟨sl,w,lookup_append g,d⟩
 |.fn f a b,_,h=>by simp only[VR]at h ⊢;have⟨r,bs,g,d,p⟩:=h;exact⟨r,bs,g,VRL.more e d,VRL.more e p⟩
 |.iface t x,_,h=>by simp only[VR]at h ⊢;have⟨y,g,d⟩:=h;exact⟨y,g,VR.more e d⟩
 |.agg cs,_,h=>by simp only[VR]at h ⊢;have⟨vs,g,d⟩:=h;exact⟨vs,g,VRL.more e d⟩
 |.tup cs,_,h=>by simp only[VR]at h ⊢;have⟨vs,g,d⟩:=h;exact⟨vs,g,VRL.more e d⟩
 |.dp s i l,_,h=>by simp only[VR]at h ⊢;have⟨sl,j,o,m,g,d⟩:=h;exact⟨sl,j,o,m,lookup_append g,d⟩
 |.bsl q cs,_,h=>by simp only[VR]at h ⊢;have⟨vs,g,d⟩:=h;exact⟨vs,g,VRL.more e d⟩
def VRL.more(e:List Slot):∀{cs:List (TV D.T)}{vs:List V},VRL D ρ lv cs vs->VRL D (ρ++e) lv cs vs
 |[],_,h=>by simpa only[VRL]using h
 |c::cs,_,h=>by simp only[VRL]at h ⊢;have⟨v,r,d,b,a⟩:=h;exact⟨v,r,d,VR.more e b,VRL.more e a⟩
end
theorem VR.cells{x v}(h:VR D ρ lv x v)(o:x.yzo=true):VRL D ρ lv x.cells v.cells:=by
 have one:∀{x:TV D.T}{v:V},VR D ρ lv x v->v.cells=[v]->x.cells=[x]->VRL D ρ lv x.cells v.cells:=λ{x v} h l k=>by
  rw[l,k];simp[VRL];grind
 cases x <;> simp[TV.yzo,TV.leaf,Bool.false_eq_true]at o
 case agg cs=>simp[VR]at h;obtain⟨vs,rfl,k⟩:=h;exact k
 case sl t xs z=>exact one h (by simp[VR]at h;have⟨h,_⟩:=h;cases h <;> rfl) rfl
 case own s=>
  refine one h ?_ rfl;simp[VR]at h;have⟨sl,_,_,h⟩:=h
  cases v <;> first|rfl|(simp[V.leaf]at h)
 case ap s t i x d=>
  refine one h ?_ rfl;simp only[VR]at h;have⟨sl,w,l,k,u,r,e⟩:=h;split at e;subst e;rfl;have⟨g,n,_,e⟩:=e;subst e;rfl
 case fn f a b=>refine one h ?_ rfl;simp[VR]at h;obtain⟨A,bs,rfl,_⟩:=h;rfl
 case iface t x=>refine one h ?_ rfl;simp[VR]at h;obtain⟨y,rfl,_⟩:=h;rfl
 case ref cs d=>refine one h ?_ rfl;simp[VR]at h;obtain⟨y,rfl,_⟩:=h;rfl
 case osl s lo=>refine one h ?_ rfl;simp[VR]at h;have⟨y,i,g,_,_,_,_,_,h⟩:=h;rcases h with rfl|⟨_,p,rfl⟩ <;> rfl
 case ptr s d=>refine one h ?_ rfl;simp[VR]at h;obtain⟨y,i,_,_,rfl⟩:=h;rfl
 case map s=>refine one h ?_ rfl;simp[VR]at h;obtain⟨y,i,_,_,rfl⟩:=h;rfl
 case mc t es=>refine one h ?_ rfl;simp[VR]at h;obtain⟨_,rfl⟩:=h;rfl
 case bp s d=>refine one h ?_ rfl;simp[VR]at h;obtain⟨y,i,_,_,rfl⟩:=h;rfl
 case dp s i d=>refine one h ?_ rfl;simp[VR]at h;obtain⟨y,j,g,m,_,_,_,_,rfl⟩:=h;rfl
 case bsl q cs=>refine one h ?_ rfl;simp[VR]at h;obtain⟨vs,rfl,_⟩:=h;rfl
 all_goals (refine one h ?_ rfl;subst h;rfl)
def VR.yzo{x v}(h:VR D ρ lv x v)(k:x.yzo=true):v.yzo=true:=by
 have one:∀{v:V},v.leaf=true->v.yzo=true:=λ{v} h=>by cases v <;> first|rfl|exact h
 cases x <;> simp[TV.yzo,TV.leaf,Bool.false_eq_true]at k
 case agg cs=>simp[VR]at h;obtain⟨vs,rfl,l⟩:=h;rfl
 case sl t xs z=>simp[VR]at h;have⟨h,_⟩:=h;cases h <;> rfl
 case own s=>grind[VR]
 case ap s t i x d=>
  simp only[VR]at h;have⟨sl,w,u,l,r,p,e⟩:=h;split at e;subst e;rfl;have⟨g,n,_,e⟩:=e;subst e;rfl
 case fn f a b=>simp[VR]at h;obtain⟨A,bs,rfl,_⟩:=h;rfl
 case iface t x=>simp[VR]at h;obtain⟨y,rfl,_⟩:=h;rfl
 case ref cs d=>simp[VR]at h;obtain⟨y,rfl,_⟩:=h;rfl
 case osl s lo=>simp[VR]at h;have⟨y,i,g,_,_,_,_,_,h⟩:=h;rcases h with rfl|⟨_,o,rfl⟩ <;> rfl
 case ptr s d=>simp[VR]at h;obtain⟨y,i,_,_,rfl⟩:=h;rfl
 case map s=>simp[VR]at h;obtain⟨y,i,_,_,rfl⟩:=h;rfl
 case mc t es=>simp[VR]at h;obtain⟨_,rfl⟩:=h;rfl
 case bp s d=>simp[VR]at h;obtain⟨y,i,_,_,rfl⟩:=h;rfl
 case dp s i d=>simp[VR]at h;obtain⟨y,j,g,m,_,_,_,_,rfl⟩:=h;rfl
 case bsl q cs=>simp[VR]at h;obtain⟨vs,rfl,_⟩:=h;rfl
 all_goals (subst h;rfl)
theorem VR.ze5(v):VR D ρ lv (TV.ze5 v) (Go.Ab.ze5 v):=by
 unfold TV.ze5 Go.Ab.ze5;split <;> simp[VR]
def VRL.map{α:Type}(f)(g)(h:∀x,VR D ρ lv (f x) (g x)):∀l:List α,VRL D ρ lv (l.map f) (l.map g)
 |[]=>by simp[VRL]
 |x::l=>by exact⟨_,_,rfl,h x,VRL.map f g h l⟩
theorem VR.ofC(v):VR D ρ lv (TV.ofC v) (ofConst v):=by
 cases v with
 |agg cs=>
  simp[TV.ofC,ofConst];split;simp only[VR];exact⟨_,rfl,VRL.map _ _ VR.ze5 _⟩
  simp[VR]
 |tuple cs=>exact⟨_,rfl,VRL.map _ _ VR.ze5 _⟩
 |iface t v=>exact⟨_,rfl,VR.ze5 _⟩
 |_=>grind[TV.ofC,ofConst,VR.ze5]
theorem VR.leaf{t x v}(h:DR D t x v):VR D ρ lv (D.leaf t x) v:=by
 cases t with
 |bool=>cases h;simp[Dat.leaf,VR]
 |int k=>cases h;simp[Dat.leaf,VR]
 |str=>cases h;simp[Dat.leaf,VR]
 |nat=>simp[Dat.leaf,VR]
 |st i=>simp[Dat.leaf,VR]
 |sl t=>grind[Dat.leaf,VR]
variable {P:Program}(hD:D.Ok P)
include hD
theorem DR.agg{i}{x:D.T i}{v}(h:DR D (.st i) x v):∃vs,v = .agg vs∧vs.length=(D.fl i).length∧∀(j) (p) (u),HL.nth (D.fl i) (D.get i x) j=some p->vs[j]? = some u->DR D p.1 p.2 u:=by
 cases h with
 |st _ _ vs d h=>grind
 |enc=>exact⟨_,hD.enc i x,yg1 _ _,λj p u b a=>by
  grind[yr6,DR.el]⟩
theorem VR.tv{t x v}(h:DR D t x v):VR D ρ lv (D.tv t x) v:=by
 cases t with
 |st i=>
  obtain⟨vs,rfl,g,e⟩:=DR.agg hD h;refine⟨vs,rfl,.of (by rw[zgi,g]) λj c u a b =>?_⟩;rw[ziu,Qaf]at a;obtain⟨p,d,rfl⟩:=a
  exact .leaf (e j p u d b)
 |bool=>exact VR.leaf h
 |int k=>exact VR.leaf h
 |str=>exact VR.leaf h
 |nat=>exact VR.leaf h
 |sl t=>exact VR.leaf h
omit hD in
theorem y6v{T a b x}{y:List (B8×b.S T)}(h:zya a b x=some y):∃e:a=b,y=e▸x:=by
 grind[zya]
omit hD in
theorem yi6{α β:Type}:∀l:List (α×β),List.zip (l.map (·.1)) (l.map (·.2))=l
 |[]=>rfl
 |p::l=>by
  simp_all[List.zip]
omit hD in
theorem zad{T a b x}{y:List (b.S T)}(h:zgp a b x=some y):∃e:a=b,y=e▸x:=by
 grind[zgp]
omit hD in
theorem zoa{t c x v}(h:zlh D t c = .ok x)(a:VR D ρ lv c v):DR D t x v:=by
 unfold zlh at h;split at h;cases h;simp[VR]at a;subst a;exact .bool _;split at h
 rename_i e;cases h;subst e;simp[VR]at a;subst a;exact .int _ _
 cases h;cases h;simp[VR]at a;subst a;exact .str _;rename_i t d xs g
 cases b:zgp d t xs with
 |none=>rw[b]at h;cases h
 |some y=>
  rw[b]at h;cases h;obtain⟨rfl,rfl⟩:=zad b;simp[VR]at a;exact a.1
 cases h;simp[VR]at a;subst a;exact .nil _;cases h;cases h
omit hD in
theorem zpv:∀{l cs x vs},zcr D l cs = .ok x->VRL D ρ lv cs vs->vs.length=l.length∧∀(j) (p) (u),HL.nth l x j=some p->vs[j]? = some u->DR D p.1 p.2 u
 |[],[],x,vs,h,a=>by simp[VRL]at a;grind
 |[],c::cs,x,vs,h,a=>by simp[zcr]at h
 |t::l,[],x,vs,h,a=>by simp[zcr]at h
 |t::l,c::cs,x,vs,h,a=>by
  obtain⟨v,r,rfl,o,k⟩:=a;simp[zcr]at h;split at h;rename_i y n;split at h;rename_i m b;cases h;have⟨e,d⟩:=zpv b k;refine⟨by simp[e],λj p u i g =>?_⟩
  cases j with
  |zero=>grind[HL.nth,zoa]
  |succ j=>exact d j p u i (by simpa using g)
  cases h;cases h;cases h;cases h
theorem zli{t c x v}(h:asD D t c = .ok x)(a:VR D ρ lv c v):DR D t x v:=by
 unfold asD at h;split at h;rename_i i cs;split at h;rename_i y e;cases h;simp[VR]at a;obtain⟨vs,rfl,a⟩:=a;have⟨d,b⟩:=zpv e a;exact .st i _ vs d (by rw[hD.getMake];exact b);cases h;cases h;cases h;exact zoa h a
theorem y64{t}:∀{cs xs vs},ytk D t cs = .ok xs->VRL D ρ lv cs vs->vs.length=xs.length∧∀(j:Nat) (x) (w),xs[j]? = some x->vs[j]? = some w->DR D t x w
 |[],xs,vs,h,a=>by simp[VRL]at a;simp only[ytk]at h;grind
 |c::cs,xs,vs,h,a=>by
  obtain⟨v,r,rfl,l,d⟩:=a;simp[ytk]at h;split at h;rename_i y k;split at h;rename_i e b;cases h;have⟨i,g⟩:=y64 b d
  grind[zli]
  cases h;cases h;cases h;cases h
end
end
end Go.Ab
namespace Go.Ab
open Go
structure Fr where
 lv:Nat
 E:Nat->Nat->Option yzm
 e0:Nat->Nat->Option yzm
 L0:List (Option yzm)
 out:Nat->Prop
 pin:List Slot
 gv:List V
def yw1{T S}(g:T->S)(k):∀ms:List (B8×T),zau (ms.map λp=>(p.1,g p.2)) k=(zau ms k).map g
 |[]=>rfl
 |p::ms=>by
  have a:=yw1 g k ms
  grind[zau]
def ywy{T k x}:∀{ms:List (B8×T)},zau ms k=some x->∃p∈ms,p.2=x
 |[],h=>by cases h
 |p::ms,h=>by
  unfold zau at h;rw[List.find?_cons]at h;cases a:k==p.1 <;> rw[a]at h
  obtain⟨q,d,b⟩:=ywy (ms:=ms) (by unfold zau;exact h)
  grind
  grind
def z0a7{T S}(g:T->S)(k)(x)(ms):ze4 (ms.map λp=>(p.1,g p.2)) k (g x)=(ze4 ms k x).map λp=>(p.1,g p.2):=by
 unfold ze4;rw[List.findIdx?_map];show(match ms.findIdx? (λp=>k==p.1)with|none=>_|some j=>_)=_
 grind[List.map_set]
def z0aa{T k x ms}{p:B8×T}(h:p∈ze4 ms k x):p=(k,x)∨p∈ms:=by
 grind[ze4]
inductive OM where
 |dat
 |own (ty:Nat)
 |el
def omOf:Option Nat->OM
 |none=>.dat
 |some ty=>.own ty
inductive DO (D:Dat) (lv:Nat) (L:List (Option yzm)):OM->(t:DTy)->t.S D.T->V->List Nat->Prop where
 |dat {t:DTy} {x:t.S D.T}{v:V}(h:DR D t x v):DO D lv L .dat t x v []
 |nil {ty:Nat} {t:DTy}{v:V}(h:DR D (.sl t) ([]:List (t.S D.T)) v) (hv:v = .nils∨v = .sl (D.len t) [] true):DO D lv L (.own ty) (.sl t) ([]:List (t.S D.T)) v []
 |own {ty:Nat} {t:DTy}{xs:List (t.S D.T)}{j ver:Nat}{cp:Option Nat}{ws:List V}{fps:List (List Nat)}(hL:L[j]? = some (some (.arr ver ty (D.len t) ws cp))) (hl:ws.length=xs.length) (hf:fps.length=xs.length)
  (he:∀(n:Nat) (x:t.S D.T) (w:V) (c:List Nat),xs[n]? = some x->ws[n]? = some w->fps[n]? = some c->DO D lv L .el t x w c):DO D lv L (.own ty) (.sl t) xs (.hs lv j ver 0 ws.length false) (j::fps.flatten)
 |el {i:Nat} {x:D.T i}{vs:List V}{cs:List (List Nat)}(hl:vs.length=(D.fl i).length) (hc:cs.length=(D.fl i).length)
  (h:∀(f:Nat) (p:(t:DTy)×t.S D.T) (u:V) (b:List Nat),HL.nth (D.fl i) (D.get i x) f=some p->vs[f]? = some u->cs[f]? = some b->DO D lv L (omOf (D.ow i f)) p.1 p.2 u b):DO D lv L .el (.st i) x (.agg vs) cs.flatten
 |elf {t:DTy} {x:t.S D.T}{v:V}(ht:∀i f,f<(D.fl i).length->t = .st i->D.ow i f=none) (h:DR D t x v):DO D lv L .el t x v []
section
variable (D:Dat)(ρ:List Slot)(lv:Nat)(L:List (Option yzm))
def z4j(h:Option (Int×Nat×Nat))(n f:Nat):Option Nat:=match h with
 |some (a,b,s)=>if a.toNat=n∧b=f then some s else none
 |none=>none
def EO(q)(h:Option (Int×Nat×Nat))(n:Nat)(x:D.T q)(w:V)(c:List Nat):Prop :=
 ∃(vs:List V) (cs:List (List Nat)),w = .agg vs∧vs.length=(D.fl q).length∧cs.length=(D.fl q).length∧c=cs.flatten ∧
  ∀(f) (p) (u) (b),HL.nth (D.fl q) (D.get q x) f=some p->vs[f]? = some u->cs[f]? = some b ->
   match z4j h n f with
   |some s=>b=[]∧(D.ow q f).isSome=true∧u.leaf=true∧∃sl',ρ[s]? = some sl'∧u=sl'.v
   |none=>DO D lv L (omOf (D.ow q f)) p.1 p.2 u b
def OR(sl:Slot):TO D.T->Prop
 |.cells cs=>∃i vs,sl.k=some i∧L[i]? = some (some (.cells vs))∧VRL D ρ lv cs vs
 |.acc ty t xs w=>sl.ws.length=xs.length∧(∀(j:Nat) (x) (v),xs[j]? = some x->sl.ws[j]? = some v->DR D t x v) ∧
  (match sl.k with
  |none=>(sl.v = .nils∧sl.ws=[])∨((sl.v = .sl (D.len t) sl.ws true∧t ≠ .int .u8)∧(w=true->sl.ws=[]))
  |some i=>∃d m,sl.v = .hs lv i d 0 sl.ws.length false∧L[i]? = some (some (.arr d ty (D.len t) sl.ws m)))
 |.siter s o=>∃i,sl.k=some i∧L[i]? = some (some (.siter s o))
 |.mp ty t es=>∃(i:Nat) (ms:List (B8×(t.S D.T×V))),sl.k=some i∧es=ms.map (λp=>(p.1,p.2.1))∧(∀p∈ms,DR D t p.2.1 p.2.2)∧L[i]? = some (some (.map (ms.map λp=>(.str p.1,p.2.2))))
 |.mit t last es=>∃(i:Nat) (g:List (B8×t.S D.T)) (e:List Nat),sl.k=some i∧t.flat=true∧L[i]? = some (some (.mit (g.map λp=>(.str p.1,yeh t p.2)) e))∧(∀q∈e,q<g.length)∧es.Perm (((List.range g.length).filter λq => !e.contains q).filterMap λq=>g[q]?)∧∀p,last=some p->∃(l:List Nat) (j:Nat),e=l++[j]∧g[j]? = some p
 |.bld ty b=>∃i a c,sl.k=some i∧L[i]? = some (some (.arr 0 ty 2 [.agg [a,c]] (some 1)))∧(a = .nilp∨a = .ap lv i 0 0 0)∧VR D ρ lv (yqn b) c
 |.gone=>True
 |.rig=>sl.k=none∧sl.fp=[]∧sl.v.leaf=true
 |.deep ty q xs h=>sl.ws.length=xs.length∧(match sl.k with
  |none=>xs=[]∧(sl.v = .nils∨sl.v = .sl (D.len (.st q)) [] true)∧sl.fp=[]∧h=none
  |some j=>∃(d:Nat) (m:Option Nat) (fps:List (List Nat)),sl.v = .hs lv j d 0 sl.ws.length false∧L[j]? = some (some (.arr d ty (D.len (.st q)) sl.ws m))∧fps.length=xs.length∧sl.fp=fps.flatten∧sl.fp.Nodup ∧
   (∀(n) (x) (w) (c),xs[n]? = some x->sl.ws[n]? = some w->fps[n]? = some c->EO D ρ lv L q h n x w c) ∧
   ∀n f s,h=some (n,f,s)->0<=n∧n.toNat<xs.length)
end
def TO.live{T}:TO T->Prop
 |.gone=>False
 |_=>True
def DfL(D:Dat)(ρ:List Slot)(lv:Nat):List (Nat×List (TV D.T))->List (Nat×List V)->Prop
 |[],a=>a=[]
 |p::r,a=>∃vs s,a=(p.1,vs)::s∧VRL D ρ lv p.2 vs∧DfL D ρ lv r s
def DfL.imp{D ρ ρ' lv}(f:List (TV D.T)->List (TV D.T))(b:∀xs vs,VRL D ρ lv xs vs->VRL D ρ' lv (f xs) vs):∀{l a},DfL D ρ lv l a->DfL D ρ' lv (l.map λp=>(p.1,f p.2)) a
 |[],a,h=>h
 |p::r,a,h=>by
  have⟨vs,s,g,e,d⟩:=h;exact⟨vs,s,g,b _ _ e,DfL.imp f b d⟩
def DfL.more{D ρ lv}(e){l a}(h:DfL D ρ lv l a):DfL D (ρ++e) lv l a:=by
 have:=h.imp (ρ':=ρ++e) (λxs=>xs) (λxs vs k=>k.more e);simpa using this
structure TRr(D:Dat)(F:Fr)(ρ:List Slot)(ts:TS D.T)(σ:St):Prop where
 nx:ρ.length=ts.nx
 nt:σ.t.length=ts.nt
 tm:∀(j:Nat) (x:TV D.T),fnd ts.t j=some x->∃v,σ.t[j]? = some v∧VR D ρ F.lv x v
 ob:∀(s:Nat) (o:TO D.T),fnd ts.o s=some o->∃sl,ρ[s]? = some sl∧OR D ρ F.lv σ.H.L sl o
 inj:∀(s s':Nat) (o o':TO D.T) (sl sl':Slot) (i:Nat),fnd ts.o s=some o->fnd ts.o s'=some o'->o.live->o'.live->ρ[s]? = some sl->ρ[s']? = some sl'->sl.has i->sl'.has i->s=s'
 mine:∀(s:Nat) (o:TO D.T) (sl:Slot) (i:Nat),fnd ts.o s=some o->o.live->ρ[s]? = some sl->sl.has i->¬F.out i
 lv:σ.H.lv=F.lv
 E:σ.H.E=F.E
 e0:σ.e0=F.e0
 d:DfL D ρ F.lv ts.d σ.d
 out:∀i,F.out i->i<σ.H.L.length∧σ.H.L[i]? = F.L0[i]?
 pin:∀(j:Nat) (sl:Slot),F.pin[j]? = some sl->ρ[j]? = some sl
 fpl:∀(s:Nat) (o:TO D.T) (sl:Slot) (i:Nat),fnd ts.o s=some o->o.live->ρ[s]? = some sl->i∈sl.fp->sl.k≠some i∧∃a,σ.H.L[i]? = some (some a)
 g:∀(i s:Nat) (v:V),ts.g[i]? = some (some s)->F.gv[i]? = some v->VR D ρ F.lv (.own s) v
section
variable {P:Program}{D:Dat}{F:Fr}{ρ:List Slot}{ts:TS D.T}{σ:St}{lv:Nat}
def zh7{t a cs vs x}(d:VRL D ρ lv cs vs)(h:tRd P t cs a=some x):∃v,rd P t vs a=some v∧VR D ρ lv x v:=by
 unfold tRd at h;unfold rd;split at h;cases h;rename_i b;rw[b];split at h;rename_i e;cases h;refine⟨_,by simp only;rw[Qbq (by rw[<-d.length];exact e)],?_⟩;simp only[VR];exact⟨_,rfl,(d.drop _).take _⟩;cases h;rename_i b;rw[b];split at h;rename_i e;cases h;refine⟨_,by simp only;rw[Qbq (by rw[<-d.length];exact e)],?_⟩;simp only[VR];exact⟨_,rfl,(d.drop _).take _⟩;cases h
 have⟨v,i,g⟩:=d.get a x h
 grind
theorem TRr.ev(a:TRr D F ρ ts σ){o x}(h:ts.ev o=some x):VR D ρ F.lv x (σ.ev o):=by
 cases o with
 |tmp t=>
  have⟨v,d,b⟩:=a.tm t x h
  grind[St.ev]
 |const v=>simp[TS.ev,Qbn]at h;subst h;exact .ofC v
 |func f=>simp[TS.ev,Qbn]at h;subst h;exact⟨[],[],rfl,by simp[VRL],by simp[VRL]⟩
 |global g=>simp[TS.ev]at h
theorem TRr.evs(b:TRr D F ρ ts σ):∀{l xs},ts.evs l=some xs->VRL D ρ F.lv xs (l.map σ.ev)
 |[],xs,h=>by grind[TS.evs,VRL]
 |o::l,xs,h=>by
  simp[TS.evs]at h;split at h;rename_i v vs d a;cases h;simp only[VRL];exact⟨_,_,rfl,b.ev d,b.evs a⟩;cases h
theorem TRr.get(a:TRr D F ρ ts σ){i o}(h:σ.H.L[i]? = some (some o)):σ.H.get F.lv i=some o:=by
 unfold Heap.get;rw[Qbq a.lv.symm,h];rfl
variable (hD:D.Ok P)
include hD
theorem VR.yta{t x v}(h:DR D t x v):VRL D ρ lv (D.tv t x).cells v.cells:=by
 cases t with
 |nat=>cases h;simp only[Dat.tv,VRL];exact⟨_,_,rfl,by simp[VR],rfl⟩
 |st i=>exact(VR.tv hD h).cells rfl
 |bool=>exact(VR.tv hD h).cells rfl
 |int k=>exact(VR.tv hD h).cells rfl
 |str=>exact(VR.tv hD h).cells rfl
 |sl t=>exact(VR.tv hD h).cells rfl
theorem ycq(m:TRr D F ρ ts σ){t a x G}(h:z03c P D ts t a=some x)(g:VR D ρ F.lv a G):∃v,zej P σ.H t G=some v∧VR D ρ F.lv x v:=by
 unfold z03c at h;split at h;simp[VR]at g;obtain⟨vs,rfl,C⟩:=g;exact zh7 C h;rename_i s z;split at h;rename_i cs p;simp only[VR]at g;obtain⟨sl,i,r,B,rfl⟩:=g;have⟨sl',e,d⟩:=m.ob s _ p;rw[r]at e;cases e;simp only[OR]at d;have⟨U,vs,l,A,o⟩:=d;rw[B]at l;cases l;simp[m.get A];exact zh7 o h;cases h;rename_i s τ i y z;split at h;rename_i ty t' xs w p;simp only[VR]at g
 have⟨sl,u,r,B,Y,X,q⟩:=g;have⟨sl',e,d⟩:=m.ob s _ p;rw[r]at e;cases e;simp only[OR]at d;have⟨l,A,o⟩:=d;have K:=VR.yta (ρ:=ρ) (lv:=F.lv) hD X
 cases I:sl.k with
 |none=>
  rw[I]at q;simp at q;subst q
  exact zh7 K h
 |some j=>
  rw[I]at q o;obtain⟨h6,n,W,rfl⟩:=q;have⟨N,cp,M,Z⟩:=o;rw[W]at M;cases M;simp[y5i,m.get Z,Y,Option.bind_some];exact zh7 K h
 cases h;rename_i s z;split at h;rename_i ty b p;simp only[VR]at g;obtain⟨sl,i,r,B,rfl⟩:=g;have⟨sl',e,d⟩:=m.ob s _ p;rw[r]at e;cases e;simp only[OR]at d;have⟨U,u,c,l,A,o,Q⟩:=d;rw[B]at l;cases l
 have C:VRL D ρ F.lv [.any,yqn b] [u,c]:=by
  simp only[VRL];exact⟨u,[c],rfl,by simp[VR],c,[],rfl,Q,rfl⟩
 have⟨v,O,w2⟩:=zh7 C h;refine⟨v,?_,w2⟩;simp[y5i,m.get A,V.cells];exact O;cases h;cases h
omit hD in
theorem ybl{s f x y l}(h:y6d P s f x=some y)(a:VR D ρ lv x l):∃v,zd6 P s f l=some v∧VR D ρ lv y v:=by
 unfold y6d at h;unfold zd6;split at h;cases h;rename_i o u;rw[u];split at h;cases h;simp[VR]at a ⊢;obtain⟨vs,rfl,z⟩:=a
 grind
 cases h;simp[VR]at a ⊢;obtain⟨sl,i,e,d,rfl⟩:=a
 grind
 cases h;simp[VR]at a ⊢;have⟨sl,w,e,d,r,q,b⟩:=a
 cases p:sl.k with
 |none=>rw[p]at b;simp at b;subst b;grind
 |some j=>rw[p]at b;obtain⟨g,n,A,rfl⟩:=b;exact⟨_,rfl,sl,w,e,d,r,q,by grind⟩
 cases h;simp[VR]at a ⊢;obtain⟨sl,i,e,d,rfl⟩:=a
 grind
 cases h;simp[VR]at a ⊢;obtain⟨sl,j,g,m,e,d,r,q,rfl⟩:=a
 grind
 cases h
omit hD in
theorem ytx{s f x y a}(h:z016 P s f x=some y)(b:VR D ρ lv x a):∃v,ykr P s f a=some v∧VR D ρ lv y v:=by
 unfold z016 at h;unfold ykr;split at h;rename_i i e;rw[e];simp;split at h;rename_i j g;rw[g];split at h;simp[VR]at b;obtain⟨vs,rfl,d⟩:=b;exact zh7 d h;cases h;cases h;cases h
omit hD in
theorem yjv{i x y a}(h:ygb i x=some y)(b:VR D ρ lv x a):∃v,y9q i a=some v∧VR D ρ lv y v:=by
 unfold ygb at h;split at h;simp[VR]at b;obtain⟨vs,rfl,d⟩:=b;exact d.get i y h;cases h
omit hD in
theorem yyr{x y b}(h:tNil x=some y)(a:VR D ρ lv x b):∃v,yal b=some v∧VR D ρ lv y v:=by
 unfold tNil at h;split at h;cases h;refine⟨b,?_,a⟩;simp[VR]at a;obtain⟨sl,i,g,e,rfl⟩:=a;rfl;cases h;refine⟨b,?_,a⟩;simp[VR]at a;obtain⟨vs,rfl,p⟩:=a;rfl;cases h;refine⟨b,?_,a⟩;simp[VR]at a;have⟨sl,w,g,e,o,l,d⟩:=a;split at d;subst d;rfl;obtain⟨k,n,q,rfl⟩:=d;rfl;cases h;refine⟨b,?_,a⟩;simp[VR]at a;obtain⟨sl,i,g,e,rfl⟩:=a;rfl;cases h;refine⟨b,?_,a⟩
 simp[VR]at a;obtain⟨sl,j,k,m,g,e,o,l,rfl⟩:=a;rfl;cases h;refine⟨b,?_,a⟩;simp[VR]at a;obtain⟨r,bs,rfl,_⟩:=a;rfl;cases h
omit hD in
theorem z046{op x y b}(h:tUn op x=some y)(a:VR D ρ lv x b):∃v,pUn op b=some v∧VR D ρ lv y v:=by
 unfold tUn at h;split at h;cases h;simp[VR]at a;subst a;exact⟨_,rfl,by simp[VR]⟩;cases h;simp[VR]at a;subst a;exact⟨_,rfl,by simp[VR]⟩;cases h;simp[VR]at a;subst a;exact⟨_,rfl,by simp[VR]⟩;cases h
omit hD in
theorem yk2{s d x y g}(h:yhp P s d x=some y)(a:VR D ρ lv x g):∃v,y2l P s d g=some v∧VR D ρ lv y v:=by
 unfold yhp at h;unfold y2l;split at h;simp[VR]at a;subst a;split at h;rename_i e b;cases h;simp only[e,b];exact⟨_,rfl,by simp[VR]⟩;cases h;simp[VR]at a;subst a;split at h;rename_i e b;cases h;simp only[e,b];exact⟨_,rfl,by simp[VR]⟩;cases h;cases h
omit hD in
theorem y9t{u ok x y b}(h:y02 P x u ok=some y)(e:VR D ρ lv x b):∃v,zmf P b u ok=some v∧VR D ρ lv y v:=by
 unfold y02 at h;unfold zmf;split at h;cases h;rename_i d t z a i;simp[VR]at e;obtain⟨w,rfl,g⟩:=e;split at h;rename_i j;cases h;rw[i]
 cases d <;> first
  |exact(a _ rfl).elim
  |(refine⟨_,by simp only;rw[Qbq j],?_⟩
    cases ok;exact g
    simp[VR,VRL];grind)
 cases h;cases h
omit hD in
theorem y5h{m xs vs y}(h:yfr m xs=some y)(a:VRL D ρ lv xs vs):∃v,zwb m vs=some v∧VR D ρ lv y v:=by
 unfold yfr at h;split at h;cases h;simp[VRL,VR]at a;obtain⟨_,_,rfl,rfl,_,_,rfl,rfl,rfl⟩:=a;exact⟨_,rfl,by simp[VR];cases m <;> rfl⟩;cases h;simp[VRL,VR]at a;obtain⟨_,_,rfl,rfl,_,_,rfl,rfl,_,_,rfl,rfl,rfl⟩:=a;exact⟨_,rfl,by simp[VR];cases m <;> rfl⟩;cases h
omit hD in
theorem TRr.parts(b:TRr D F ρ ts σ):∀{l xs},y70 ts l=some xs->xs.map (·.1)=(l.map λp=>(p.1,σ.ev p.2)).map (·.1)∧VRL D ρ F.lv (xs.map (·.2)) ((l.map λp=>(p.1,σ.ev p.2)).map (·.2))
 |[],xs,h=>by grind[y70,VRL]
 |(i,o)::l,xs,h=>by
  simp[y70]at h;split at h;rename_i v vs d a;cases h;have⟨g,e⟩:=b.parts a;simp only[List.map_cons,VRL];exact⟨by rw[g],_,_,rfl,b.ev d,e⟩;cases h
omit hD in
theorem y1a{place}:∀{g e cs r vs},g.map (·.1)=e.map (·.1)->VRL D ρ lv (g.map (·.2)) (e.map (·.2))->VRL D ρ lv cs vs->ypo place cs g=some r->∃m,y0b place vs e=some m∧VRL D ρ lv r m
 |[],[],cs,r,vs,_,_,j,h=>by simp[ypo,Qbn]at h;subst h;exact⟨vs,rfl,j⟩
 |[],q::e,cs,r,vs,d,_,_,_=>by simp at d
 |p::g,[],cs,r,vs,d,_,_,_=>by simp at d
 |(i,x)::g,(y,v)::e,cs,r,vs,d,k,j,h=>by
  simp[List.cons.injEq]at d;obtain⟨rfl,d⟩:=d;have⟨u,w,o,k,s⟩:=k;cases o;simp only[ypo]at h;simp only[y0b];split at h;cases h;rename_i l size n;split at h;rename_i a;simp[Qar]at a;have b:=k.cells a.1.1;rw[n];simp only;rw[Qbq (by simp[Qar];exact⟨⟨k.yzo a.1.1,by rw[<-b.length];exact a.1.2⟩,by rw[<-j.length];exact a.2⟩)]
  exact y1a d s (j.z0m b l) h;cases h
omit hD in
theorem zn1{t x}(h:yor P t=some x):∃v,zeroV P t=some v∧VR D ρ lv x v:=by
 unfold yor at h;unfold zeroV;rw[Qaf]at h;obtain⟨z,a,rfl⟩:=h;exact⟨_,by rw[a];rfl,.ofC z⟩
omit hD in
theorem ypy{t i g y}(l:i.map (·.1)=g.map (·.1))(k:VRL D ρ lv (i.map (·.2)) (g.map (·.2)))(h:yym P t i=some y):∃v,ygw P t g=some v∧VR D ρ lv y v:=by
 unfold yym at h;unfold ygw;split at h;rename_i z p;have⟨v,q,b⟩:=zn1 (ρ:=ρ) (lv:=lv) p;simp[VR]at b;obtain⟨vs,rfl,b⟩:=b;rw[q];simp;split at h;rename_i u j;rw[j];simp;split at h;rename_i places s;rw[s];rw[Qaf]at h;obtain⟨r,a,rfl⟩:=h;have⟨d,o,m⟩:=y1a l k b a;exact⟨.agg d,by grind,by simp[VR];grind⟩;cases h;rename_i n e j;rw[j];simp only;split at h;rename_i hi;rw[Qbq hi]
 rw[Qaf]at h;obtain⟨r,a,rfl⟩:=h;have⟨d,o,m⟩:=y1a l k b a;exact⟨.agg d,by grind,by simp[VR];grind⟩;cases h;cases h;cases h
omit hD in
theorem z00o(o:TRr D F ρ ts σ){t x y u}(h:tLen P D ts t x=some y)(b:VR D ρ F.lv x u):∃v,zt3 P σ.H t u=some v∧VR D ρ F.lv y v:=by
 unfold tLen at h;split at h;split at h;rename_i a;cases h;simp_all[VR];cases h;split at h;rename_i a;cases h;simp_all[VR];cases h;split at h;rename_i a;cases h;simp[VR]at b;have⟨b,_⟩:=b
 cases b with
 |nil=>simp_all[VR]
 |sl _ _ ws full G I=>simp_all[VR]
 cases h;split at h;rename_i a p;cases h;simp[VR]at b;obtain⟨sl,r,rfl,n⟩:=b;have⟨sl',m,l⟩:=o.ob _ _ p;rw[r]at m;cases m;simp only[OR]at l;have⟨g,w,d⟩:=l
 cases q:sl.k with
 |none=>
  rw[q]at d
  rcases d with ⟨e,e2⟩|⟨e,e2⟩
  rw[e,ypj,a];exact⟨_,rfl,by simp[VR];rw[<-g,e2];rfl⟩;rw[e.1,z03u,a]
  exact⟨_,rfl,by simp[VR];rw[g]⟩
 |some j=>
  rw[q]at d;have⟨s,A,e,e2⟩:=d;rw[e];refine⟨.int .i64 sl.ws.length,?_,by simp[VR];rw[g]⟩;simp[zt3,a,o.get e2,if_true]
 rename_i a p;cases h;simp[VR]at b;obtain⟨sl,r,rfl,n⟩:=b;have⟨sl',m,l⟩:=o.ob _ _ p;rw[r]at m;cases m;simp only[OR]at l;have⟨g,d⟩:=l
 cases q:sl.k with
 |none=>
  rw[q]at d;have⟨e,e2,_⟩:=d
  rcases e2 with e2|e2
  rw[e2,ypj,a];exact⟨_,rfl,by simp[VR];rw[e];rfl⟩;rw[e2,z03u,a]
  exact⟨_,rfl,by simp[VR];rw[e];rfl⟩
 |some j=>
  rw[q]at d;have⟨s,A,fps,e,e2,_⟩:=d;rw[e];refine⟨.int .i64 sl.ws.length,?_,by simp[VR];rw[g]⟩;simp[zt3,a,o.get e2,if_true]
 cases h;split at h;rename_i a;cases h;simp[VR]at b;obtain⟨vs,rfl,_⟩:=b;simp_all[VR];cases h;split at h;rename_i a p;cases h;simp only[VR]at b;obtain⟨sl,i,r,z,rfl⟩:=b;have⟨sl',m,l⟩:=o.ob _ _ p;rw[r]at m;cases m;simp only[OR]at l;have⟨C,ms,g,w,B,d⟩:=l;rw[z]at g;cases g;exact⟨_,by rw[z0aj,a];simp[o.get d];rfl,by simp[VR];rw[w];simp⟩;cases h;cases h
omit hD in
theorem zm2:∀(a) (k n),a.map (·.1)=List.range' k n->zog k a=true
 |[],_,_,_=>rfl
 |(i,v)::r,k,n,h=>by
  cases n with
  |zero=>simp at h
  |succ n=>
   simp[List.range'_succ,List.cons.injEq]at h;simp[zog,h.1,Bool.true_and];exact zm2 r (k+1) n h.2
theorem zkw{t len i b y}(O:i.map (·.1)=b.map (·.1))(u:VRL D ρ lv (i.map (·.2)) (b.map (·.2)))(h:zj7 P D t len i = .ok y):∃v,zek P t len b=some v∧VR D ρ lv y v:=by
 unfold zj7 at h;unfold zek;split at h;rename_i e N;rw[N];simp;split at h;rename_i z τ M U;rw[M];simp only;split at h;rename_i G;simp only[Qag,Qbg,Qat]at G;have⟨⟨⟨⟨⟨⟨⟨⟨c1,W⟩,H⟩,Z⟩,I⟩,Y⟩,A⟩,X⟩,w⟩:=G;have hlen:=by have:=congrArg List.length O;simpa using this
 split at h;rename_i q cells s;obtain⟨rfl,rfl⟩:=z01d D s;cases h;have r:=by omega
 have m:∀p∈b,p.2.yzo=true∧p.2.cells.length=P.cellsOf e:=λp n=>by
  have⟨j,o⟩:=Qbj n;have d:j<[(0,TV.agg cells)].length:=by grind
  have g:=A [(0,TV.agg cells)][j] (Qad d);have l:VR D ρ lv [(0,TV.agg cells)][j].2 p.2:=u.y63 (j:=j) (by grind) (by simp[o]);exact⟨l.yzo g.1,by rw[<-(l.cells g.1).length];exact g.2⟩
 have a:(z.yzo&&z.cells.length==P.cellsOf e&&decide (0<P.cellsOf e)&&(P.info? e).isSome&&b.length==len&&zog 0 b&&b.all (λp=>p.2.yzo&&p.2.cells.length==P.cellsOf e)&&decide (len * P.cellsOf e<=2 ^ 24))=true:=by
  simp[Qat]
  grind[zm2,List.range_eq_range']
 rw[Qbq a];refine⟨_,rfl,?_⟩;simp[List.length_nil]at I;rw[Qbr (by omega),<-w];simp[VR]
 grind
 rename_i x;split at h;rename_i xs B;cases h;have⟨C,K⟩:=y64 hD B u;have r:=by omega
 have m:∀p∈b,p.2.yzo=true∧p.2.cells.length=P.cellsOf e:=λp n=>by
  have⟨j,o⟩:=Qbj n;have d:j<i.length:=by grind
  have g:=A i[j] (Qad d);have l:VR D ρ lv i[j].2 p.2:=u.y63 (j:=j) (by simp[d]) (by simp[o]);exact⟨l.yzo g.1,by rw[<-(l.cells g.1).length];exact g.2⟩
 have a:(z.yzo&&z.cells.length==P.cellsOf e&&decide (0<P.cellsOf e)&&(P.info? e).isSome&&b.length==len&&zog 0 b&&b.all (λp=>p.2.yzo&&p.2.cells.length==P.cellsOf e)&&decide (len * P.cellsOf e<=2 ^ 24))=true:=by
  simp[Qat]
  grind[zm2,List.range_eq_range']
 rw[Qbq a];refine⟨_,rfl,?_⟩;simp[List.length_map]at C;by_cases k:len=0;rw[Qbq k,Qbq k,<-w];have:xs=[]:=Qao (by omega);subst this;simp only[VR];exact⟨.sl τ [] [] true rfl (by simp),λ_=>⟨[],rfl⟩,λ_=>trivial⟩;rw[Qbr k,Qbr k,<-w];simp only[VR];exact⟨.sl τ xs _ true (by simpa using C) K,λ_=>⟨_,rfl⟩,by simp⟩;have r:=by omega
 have m:∀p∈b,p.2.yzo=true∧p.2.cells.length=P.cellsOf e:=λp n=>by
  have⟨j,o⟩:=Qbj n;have d:j<i.length:=by grind
  have g:=A i[j] (Qad d);have l:VR D ρ lv i[j].2 p.2:=u.y63 (j:=j) (by simp[d]) (by simp[o]);exact⟨l.yzo g.1,by rw[<-(l.cells g.1).length];exact g.2⟩
 have a:(z.yzo&&z.cells.length==P.cellsOf e&&decide (0<P.cellsOf e)&&(P.info? e).isSome&&b.length==len&&zog 0 b&&b.all (λp=>p.2.yzo&&p.2.cells.length==P.cellsOf e)&&decide (len * P.cellsOf e<=2 ^ 24))=true:=by
  simp[Qat]
  grind[zm2,List.range_eq_range']
 rw[Qbq a];split at h;rename_i Q _ _ q cells;split at h;cases h;refine⟨_,rfl,?_⟩;simp[List.length_nil]at I;rw[Qbr (by omega),<-w];simp[VR]
 grind
 cases h;cases h;cases h;cases h;cases h;cases h;cases h
omit hD in
theorem FR.zrp{α o}{a:α}(h:FR.of o = .ok a):o=some a:=by
 cases o with
 |none=>cases h
 |some b=>injection h with h;rw[h]
theorem z053{t n c k g y}(h:tMk P D t n c = .ok y):∃v,zln P t (.int k n) (.int g c)=some v∧VR D ρ lv y v:=by
 unfold tMk at h;split at h
 case h_2=>cases h
 rename_i n c;split at h
 case h_2=>cases h
 rename_i e o;split at h
 case h_2=>cases h
 rename_i i z τ hi l G;split at h
 case h_2=>cases h
 rename_i b;simp only[Qag]at b;have⟨⟨⟨⟨⟨⟨d,C⟩,B⟩,A⟩,u⟩,s⟩,r⟩:=b;split at h
 case h_2=>cases h
 case h_3=>cases h
 rename_i x m;cases h;have⟨v,b1,b2⟩:=zn1 (D:=D) (ρ:=ρ) (lv:=lv) l;have p:=(b2.cells d).length;have I:=zli hD m b2;refine⟨.sl i.size (List.replicate n v) (Nat.beq n c),?_,?_⟩;simp[zln,o,hi,b1]
 have q:(v.yzo&&Nat.beq v.cells.length i.size&&Nat.blt 0 i.size&&Nat.ble n c&&Nat.ble c 1000000&&Nat.ble i.bytes 100000)=true:=by
  simp only[Qag];exact⟨⟨⟨⟨⟨b2.yzo d,by rw[<-p];exact C⟩,B⟩,A⟩,u⟩,s⟩
 rw[q];rw[<-Qaj r];refine⟨.sl _ _ _ _ (by simp) λj a w M K =>?_,λh=>by omega,λh=>by cases h⟩
 simp_all[Qbi]
theorem yos(b:TRr D F ρ ts σ){op x}(h:tP1 P D ts op = .ok x):∃v,pv P σ.H σ.ev op=some v∧VR D ρ F.lv x v:=by
 unfold tP1 at h;unfold pv;split at h;exact⟨_,rfl,b.ev (FR.zrp h)⟩;exact⟨_,rfl,b.ev (FR.zrp h)⟩;split at h;rename_i a;exact ycq hD b (FR.zrp h) (b.ev a);cases h;split at h;rename_i a;exact yyr (FR.zrp h) (b.ev a);cases h;split at h;rename_i a;exact z046 (FR.zrp h) (b.ev a);cases h;split at h;rename_i a;exact yk2 (FR.zrp h) (b.ev a);cases h;split at h;rename_i a;split at h;rename_i l;cases h
 exact⟨_,by simp only[zkm];rw[Qbq l],by simp only[VR];exact⟨_,rfl,b.ev a⟩⟩;cases h;cases h;split at h;rename_i a i;cases h;exact⟨_,rfl,by simp only[VR];exact⟨_,_,rfl,b.evs a,b.evs i⟩⟩;cases h;split at h;rename_i a;exact ybl (FR.zrp h) (b.ev a);cases h;split at h;rename_i a;exact ytx (FR.zrp h) (b.ev a);cases h;split at h;rename_i a;exact y9t (FR.zrp h) (b.ev a);cases h;split at h
 rename_i a;exact yjv (FR.zrp h) (b.ev a);cases h;split at h;rename_i a;have⟨k,j⟩:=b.parts a;exact ypy k j (FR.zrp h);cases h;split at h;rename_i a;have⟨k,j⟩:=b.parts a;exact zkw hD k j (z00x _ h);cases h;split at h;rename_i a i;have n:=b.ev a;have m:=b.ev i
 simp_all[VR,z053]
 cases h;unfold zf9;split at h;rename_i d;split at h;rename_i o t e g;split at h;rename_i a;simp[d,e,g];exact z00o b (FR.zrp h) (b.ev a);cases h;cases h;rename_i d;split at h;rename_i a;simp[d];exact y5h (FR.zrp h) (b.evs a);cases h;rename_i d;split at h;rename_i a;simp[d];exact y5h (FR.zrp h) (b.evs a);cases h;cases h;cases h
end
def zw4(H:Heap):Heap:=⟨H.lv,[],λ_ _=>none⟩
def noGh(g:Gh):Gh:={g with dom:=λ_ _=>False}
def zqa(H)(l i):(zw4 H).get l i=none:=by
 unfold Heap.get zw4;split <;> simp
def z03l{g H b}:¬Own g (zw4 H) b:=λ⟨l,i,o,a,_⟩=>by rw[zqa]at a;cases a
def z044{W g H}(h:Good W g H):Good W (noGh g) (zw4 H) :=
 ⟨λl i o a=>(by rw[zqa]at a;cases a),λl i o a=>(by rw[zqa]at a;cases a),λl i o j k o' a=>(by rw[zqa]at a;cases a),λl i d=>d.elim,λl i o a=>(by rw[zqa]at a;cases a),h.zqr.ycl (λb e=>(z03l e).elim),h.base⟩
def z06w{W g H v u c}(e:Good W g H)(h:VS H (λ_ _=>False) v u)(d:Rel W g H v c):Rel W (noGh g) (zw4 H) u c :=
 VS.rel e (λ_ _ h=>h.elim) (λ_ _ h=>h.elim) (λ_ _ h=>h.elim) (λ_ _ h=>h.elim) (λ_ _ h=>h.elim) (λb a=>(z03l a).elim) (λi o _ a=>z03l a) h d
inductive VFl:V->Prop where
 |bool (b:Bool):VFl (.bool b)
 |int (k:IntKind) (n:Int):VFl (.int k n)
 |str (s:B8):VFl (.str s)
 |tup (vs:List V) (h:∀(j:Nat) (v:V),vs[j]? = some v->VFl v):VFl (.tup vs)
def VFl.rel{v}(h:VFl v){W W' g g' H H'}:∀{c},Rel W g H v c->Rel W' g' H' v c:=by
 induction h with
 |bool b=>intro c a;cases a;exact .bool _
 |int k n=>intro c a;cases a;exact .int _ _
 |str s=>intro c a;cases a;exact .str _
 |tup vs h e=>
  intro c a
  cases a with
  |tup _ cs l i=>exact .tup vs cs l λj v d=>e j v d (i j v d)
def yts{P f vs k r H}(s:zrw P f k r)(h:VSL H (λ_ _=>False) vs k)(o:VFl r):y4u P f vs H r H:=λW g a i q=>by
 have hlen:=h.length
 have m:zmy W (noGh g) (zw4 H) k a:=⟨q.1.trans hlen,λj u p=>by
  have z:=(Qaa.1 p).1;have n:vs[j]? = some (vs[j]'(by omega)):=Qab _
  exact z06w i (h.get j _ u n p) (q.2 j _ n)⟩
 have grow:∀{W':World}{g':Gh},Step W (noGh g) (zw4 H) W' g' (zw4 H)->Grow W W':=λst=>⟨st.os,st.tape,st.output,st.size,λb w=>st.block b w z03l⟩
 rcases s (zw4 H) W (noGh g) a (z044 i) m with ⟨e,d⟩|⟨c,W',g',e,st,x,l⟩
 exact .inl ⟨e,d.mono λe W' ⟨c,g',y,st,x,l⟩=>⟨c,g,y,(grow st).step,i.grow (grow st),o.rel l⟩⟩;exact .inr ⟨c,W',g,e,(grow st).step,i.grow (grow st),o.rel l⟩
section
variable {P:Program}{D:Dat}{F:Fr}{ρ:List Slot}{ts:TS D.T}{σ:St}{lv:Nat}{L:List (Option yzm)}{E:Nat → Nat → Option yzm}
def zmj{α:Type}{Q:Nat->α->Prop}:∀n:Nat,(∀j,j<n->∃a,Q j a)->∃l:List α,l.length=n∧∀j a,l[j]? = some a->Q j a
 |0,_=>⟨[],rfl,λj a h=>by simp at h⟩
 |n+1,h=>by
  have⟨l,d,k⟩:=zmj n λj e=>h j (by omega)
  have⟨a,i⟩:=h n (by omega);refine⟨l++[a],by simp[d],λj b g =>?_⟩
  grind
theorem DR.kin(hD:D.Ok P){t x v}(h:DR D t x v)(Dm):V.kin Dm v:=by
 induction h with
 |bool|int|str|nat|nil=>simp[V.kin]
 |sl t xs ws full k h b=>
  exact zhd λw d=>by
   have⟨j,a⟩:=Qbj d;have e:=(Qaa.1 a).1
   exact b j _ w (Qab (by omega)) a
 |st i x vs k h b=>
  exact zhd λw d=>by
   have⟨j,a⟩:=Qbj d;have e:=(Qaa.1 a).1;have⟨p,g,_⟩:=HL.zn7 (D.fl i) (D.get i x) j (by omega)
   exact b j p w g a
 |enc i x=>exact hD.kin i x Dm
def Seen(H:Heap):OM->V->V->Prop
 |.el,v,u=>v.cells.length=u.cells.length∧∀(j:Nat) (a b),v.cells[j]? = some a->u.cells[j]? = some b->VS H (λ_ _=>False) a b
 |.dat,v,u=>VS H (λ_ _=>False) v u
 |.own _,v,u=>VS H (λ_ _=>False) v u
def DO.see(hD:D.Ok P){m:OM}{t:DTy}{x:t.S D.T}{v:V}{O:List Nat}(h:DO D lv L m t x v O) :
  ∃u,DR D t x u∧Seen ⟨lv,L,E⟩ m v u:=by
 induction h with
 |dat h=>exact⟨_,h,.keep _ (h.kin hD _)⟩
 |nil h Y=>exact⟨_,h,.keep _ (h.kin hD _)⟩
 | @own ty t xs j K U ws fps N M B H C=>
   have⟨k,I,s⟩:=zmj (Q:=λn u=>∀(x:t.S D.T) (w:V),xs[n]? = some x->ws[n]? = some w->DR D t x u∧w.cells.length=u.cells.length∧∀(j:Nat) (a b:V),w.cells[j]? = some a->u.cells[j]? = some b->VS ⟨lv,L,E⟩ (λ_ _=>False) a b) xs.length λn z=>by
    have⟨u,G,r⟩:=C n _ _ _ (Qab z) (Qab (show n<ws.length by omega)) (Qab (show n<fps.length by omega));refine⟨u,λx w y d =>?_⟩
    rw[Qab z]at y;cases y
    rw[Qab (show n<ws.length by omega)]at d;cases d
    exact⟨G,r⟩
   refine⟨.sl (D.len t) k false,.sl t xs k false I λn x u y o =>?_,?_⟩;have z:=(Qaa.1 y).1;exact(s n u o x _ y (Qab (show n<ws.length by omega))).1;refine .hs lv j K ty (D.len t) 0 ws.length false ws k U rfl ?_ (by omega) (λn w u d o =>?_) λn w u c a b d o e l =>?_
   show(if lv=lv then (L[j]?).join else _)=_;rw[Qbq rfl,N];rfl;rw[Nat.zero_add]at d;have z:=(Qaa.1 d).1;exact(s n u o _ w (Qab (show n<xs.length by omega)) d).2.1;rw[Nat.zero_add]at d;have z:=(Qaa.1 d).1
   exact(s n u o _ w (Qab (show n<xs.length by omega)) d).2.2 c a b e l
 | @el i x vs cs M W h C=>
   have⟨k,I,s⟩:=zmj (Q:=λf u=>∀(p:(t:DTy)×t.S D.T) (w:V),HL.nth (D.fl i) (D.get i x) f=some p->vs[f]? = some w->DR D p.1 p.2 u∧VS ⟨lv,L,E⟩ (λ_ _=>False) w u) (D.fl i).length λf B=>by
    have⟨p,q,_⟩:=HL.zn7 (D.fl i) (D.get i x) f B;have⟨u,G,r⟩:=C f p _ _ q (Qab (show f<vs.length by omega)) (Qab (show f<cs.length by omega));refine⟨u,λX w g d =>?_⟩
    rw[q]at g;injection g with g;subst g
    rw[Qab (show f<vs.length by omega)]at d;cases d
    refine⟨G,?_⟩
    cases A:D.ow i f with
    |none=>rw[A]at r;exact r
    |some ty=>rw[A]at r;exact r
   refine⟨.agg k,.st i x k I λf p u q o =>?_,?_⟩;have B:=(HL.zic _ _ _ _ q).1;exact(s f u o p _ q (Qab (show f<vs.length by omega))).1;refine⟨by show vs.length=k.length;omega,λf a b e l =>?_⟩;replace e:vs[f]? = some a:=e;replace l:k[f]? = some b:=l;have B:=(Qaa.1 e).1;have⟨p,q,_⟩:=HL.zn7 (D.fl i) (D.get i x) f (by omega)
   exact(s f b l p a q e).2
 |elf Z h=>exact⟨_,h,rfl,λj a b e l=>by rw[e]at l;cases l;exact .keep _ (zco (zuz (h.kin hD _)) j a e)⟩
end
section
variable {P:Program}{D:Dat}{F:Fr}{ρ:List Slot}{ts:TS D.T}{σ:St}{lv:Nat}
mutual
def y7d:∀{d t:Nat}{x y:TV D.T}{j i:V}{b:Bool},ywe P d t x y=some b->VR D ρ lv x j->VR D ρ lv y i->eqv P d t j i=some b
 |0,t,x,y,j,i,b,h,e,a=>by simp[ywe]at h
 |d+1,t,x,y,j,i,b,h,e,a=>by
  simp only[ywe]at h;split at h;simp only[VR]at e a;subst e;subst a;(simp only[eqv];split at h <;> first|(rename_i g;simp only[g];exact h)|cases h);simp only[VR]at e a;subst e;subst a;(simp only[eqv];split at h <;> first|(rename_i g;simp only[g];exact h)|cases h);simp only[VR]at e a;subst e;subst a;(simp only[eqv];split at h <;> first|(rename_i g;simp only[g];exact h)|cases h)
  simp only[VR]at e a;obtain⟨xs,rfl,e⟩:=e;obtain⟨l,rfl,a⟩:=a;simp only[eqv];split at h;rename_i g;simp only[g];split at h;cases h;rename_i k;rw[Qbr k];exact y0x h e a;cases h;simp only[VR]at e a;subst e;subst a;(simp only[eqv];split at h <;> first|(rename_i g;simp only[g];exact h)|cases h)
  simp only[VR]at e a;subst e;obtain⟨_,_,_,_,rfl⟩:=a;(simp only[eqv];split at h <;> first|(rename_i g;simp only[g];exact h)|cases h);simp only[VR]at e a;subst e;obtain⟨_,rfl,_⟩:=a;(simp only[eqv];split at h <;> first|(rename_i g;simp only[g];exact h)|cases h)
  simp only[VR]at e a;subst a;obtain⟨_,_,_,_,rfl⟩:=e;(simp only[eqv];split at h <;> first|(rename_i g;simp only[g];exact h)|cases h);simp only[VR]at e a;subst a;obtain⟨_,rfl,_⟩:=e;(simp only[eqv];split at h <;> first|(rename_i g;simp only[g];exact h)|cases h);simp only[VR]at e a;subst e;subst a;(simp only[eqv];split at h <;> first|(rename_i g;simp only[g];exact h)|cases h)
  simp only[VR]at e a;subst e;subst a;(simp only[eqv];split at h <;> first|(rename_i g;simp only[g];exact h)|cases h);simp only[VR]at e a;subst e;obtain⟨_,_,rfl,_⟩:=a;(simp only[eqv];split at h <;> first|(rename_i g;simp only[g];exact h)|cases h);simp only[VR]at e a;subst a;obtain⟨_,_,rfl,_⟩:=e;(simp only[eqv];split at h <;> first|(rename_i g;simp only[g];exact h)|cases h)
  simp only[VR]at e a;subst e;obtain⟨_,rfl,_⟩:=a;(simp only[eqv];split at h <;> first|(rename_i g;simp only[g];exact h)|cases h);simp only[VR]at e a;subst a;obtain⟨_,rfl,_⟩:=e;(simp only[eqv];split at h <;> first|(rename_i g;simp only[g];exact h)|cases h);cases h
def y0x:∀{d:Nat}{l:List Field}{xs e:List (TV D.T)}{i g:List V}{b:Bool},yjg P d l xs e=some b->VRL D ρ lv xs i->VRL D ρ lv e g->yll P d l i g=some b
 |0,l,xs,e,i,g,b,h,k,j=>by simp[yjg]at h
 |d+1,[],xs,e,i,g,b,h,k,j=>by simpa only[yll,yjg]using h
 |d+1,f::l,xs,e,i,g,b,h,k,j=>by
  simp only[yjg]at h;simp only[yll];split at h;rename_i m;rw[Qbq m];exact y0x h k j;rename_i m;rw[Qbr m];split at h;rename_i a c y x;have⟨A,q,p⟩:=zh7 k y;have⟨z,o,n⟩:=zh7 j x;rw[q,o];split at h;rename_i r s w u;simp only[y7d w p n,y0x u k j];exact h;cases h;cases h
end
def yxh{t x y g i b}(h:ywe P 24 t x y=some b)(l:(x.odd&&y7u P t x y)=true)(e:VR D ρ lv x g)(d:VR D ρ lv y i) :
  (∀k j a c,g = .int k a->i = .int j c->False)∧(∀a c,g = .str a->i = .str c->False)∧(g.odd&&zoe P t g i)=true:=by
 simp[ywe]at h;split at h <;> (try simp[TV.odd,y7u,Bool.true_and]at l) <;> (try simp[VR]at e d)
 subst e;subst d;exact⟨by simp,by simp,rfl⟩;obtain⟨xs,rfl,e⟩:=e;obtain⟨m,rfl,d⟩:=d
 grind[V.odd,zoe]
 subst e;subst d;exact⟨by simp,by simp,rfl⟩;subst e;obtain⟨_,_,_,_,rfl⟩:=d;exact⟨by simp,by simp,rfl⟩;subst e;obtain⟨_,rfl,_⟩:=d;exact⟨by simp,by simp,rfl⟩;subst d;obtain⟨_,_,_,_,rfl⟩:=e;exact⟨by simp,by simp,rfl⟩;subst d;obtain⟨_,rfl,_⟩:=e;exact⟨by simp,by simp,rfl⟩;subst e;subst d;exact⟨by simp,by simp,rfl⟩;subst e;subst d;exact⟨by simp,by simp,rfl⟩
 subst e;obtain⟨_,_,rfl,_⟩:=d;exact⟨by simp,by simp,rfl⟩;subst d;obtain⟨_,_,rfl,_⟩:=e;exact⟨by simp,by simp,rfl⟩;subst e;obtain⟨_,rfl,_⟩:=d;exact⟨by simp,by simp,rfl⟩;subst d;obtain⟨_,rfl,_⟩:=e;exact⟨by simp,by simp,rfl⟩;cases h
def z3f{α o β}{f:α->Option β}{r}(h:z9e o f=some r):∃x,o=some x∧f x=some r:=ztc h
def z0b9{t x y b}(i:∀k d a c,x = .int k a->y = .int d c->False)(h:∀a c,x = .str a->y = .str c->False)(g:(x.odd&&zoe P t x y)=true)(e:eqv P 24 t x y=some b):yad P .eql t x y=some (.bool b):=by
 unfold yad;split
 grind
 grind
 grind
def z08b{t x y b}(i:∀k d a c,x = .int k a->y = .int d c->False)(h:∀a c,x = .str a->y = .str c->False)(g:(x.odd&&zoe P t x y)=true)(e:eqv P 24 t x y=some b):yad P .neq t x y=some (.bool (!b)):=by
 unfold yad;split
 grind
 grind
 grind
def z01v{R op t x y u s k}{r:R}(h:tBin P op t x y k=some r)(m:VR D ρ lv x u)(l:VR D ρ lv y s) :
  ∃z v,yad P op t u s=some v∧VR D ρ lv z v∧k z=some r:=by
 unfold tBin at h;split at h
 ·rename_i i a w b;simp[VR]at m l;subst m;subst l;split at h;have⟨z,d,e⟩:=z3f h;unfold shl at d;split at d;cases d;rename_i g;cases d;exact⟨_,_,by simp only[yad];rw[Qbr g],by simp[VR],e⟩;have⟨z,d,e⟩:=z3f h;unfold shr at d;split at d;cases d;rename_i g;cases d;exact⟨_,_,by simp only[yad];rw[Qbr g],by simp[VR],e⟩
  ·rename_i q p;split at h
   ·rename_i hi;subst hi
    have n:∀v,yi9 op i a b=some v->yad P op t (.int i a) (.int i b)=some v:=λv A=>by
     unfold yad
     cases op <;> first|exact(q rfl).elim|exact(p rfl).elim|grind
    split at h
    all_goals first
     |(refine⟨_,_,n _ rfl,by simp[VR],h⟩;done)
     |skip
    have⟨z,d,e⟩:=z3f h;obtain⟨j,rfl⟩:=z09v d;exact⟨_,_,n _ (by simp only[yi9];rw[Qbr j]),by simp[VR],e⟩;have⟨z,d,e⟩:=z3f h;obtain⟨j,rfl⟩:=z06q d;exact⟨_,_,n _ (by simp only[yi9];rw[Qbr j]),by simp[VR],e⟩;cases h
   cases h
 rename_i a b;simp[VR]at m l;subst m;subst l;split at h;have⟨z,d,e⟩:=z3f h;obtain⟨j,rfl⟩:=z07b d;exact⟨_,_,by simp only[yad,z00n];rw[Qbq j],by simp[VR],e⟩;exact⟨_,_,rfl,by simp[VR],h⟩;exact⟨_,_,rfl,by simp[VR],h⟩;exact⟨_,_,rfl,by simp[VR],h⟩;exact⟨_,_,rfl,by simp[VR],h⟩;exact⟨_,_,rfl,by simp[VR],h⟩;exact⟨_,_,rfl,by simp[VR],h⟩;cases h;split at h;split at h;rename_i o;split at h;rename_i b g
 have⟨d,e,j⟩:=yxh g o m l;exact⟨_,_,z0b9 d e j (y7d g m l),by simp[VR],h⟩;cases h;cases h;split at h;rename_i o;split at h;rename_i b g;have⟨d,e,j⟩:=yxh g o m l;exact⟨_,_,z08b d e j (y7d g m l),by simp[VR],h⟩;cases h;cases h;cases h
variable (hD:D.Ok P)
include hD
omit hD in
theorem z01y{t xs}{ws:List V}(g:ws.length=xs.length)(h:∀(j:Nat) (x:t.S D.T) (w:V),xs[j]? = some x->ws[j]? = some w->DR D t x w){n y}(b:ix xs n=some y):0<=n∧n.toNat<ws.length∧∃w,ws[n.toNat]? = some w∧DR D t y w:=by
 have⟨e,d⟩:=zm4 b;have a:n.toNat<ws.length:=by grind
 exact⟨e,a,ws[n.toNat],Qab a,h _ _ _ d (Qab a)⟩
omit hD in
theorem y4y{R r}:∀{len:Nat}{n} {f:Nat->Option R},0<=n->n<(len:Int)->y9h len n f=some r->∃m,m<len∧n=Int.ofNat m∧f m=some r
 |0,_,_,_,_,h=>by cases h
 |1,n,f,a,d,h=>⟨0,by omega,by grind,h⟩
 |len+2,n,f,a,d,h=>by
  simp[y9h]at h;rw[yfq]at h;split at h
  grind
  rename_i b;have e:=by simpa using b
  have⟨m,j,i,g⟩:=y4y a (by omega) h
  grind
omit hD in
theorem y54{R}{t len e:Nat}{q H x i k}{r:R}{m}(M:P.underlying t=some (.array len e))(h:yg2 P len e x k m=some r)(b:VR D ρ lv x i) :
  ∃z v,yzz P H t i (.int q (Int.ofNat m))=some v∧VR D ρ lv z v∧k z=some r:=by
 unfold yg2 at h;split at h;rename_i y;have C:=Int.natCast_nonneg m;have G:=Int.ofNat_lt.2 y.1;split at h;rename_i cs a;simp[VR]at b;obtain⟨vs,rfl,K⟩:=b;exact⟨_,.ref vs (a+m * P.cellsOf e),by simp_all[yzz],by simp[VR];grind,h⟩;rename_i s a;simp only[VR]at b;obtain⟨sl,j,p,o,rfl⟩:=b;exact⟨_,.ptr lv j (a+m * P.cellsOf e),by simp_all,by simp[VR];grind,h⟩;rename_i s τ u I a;simp only[VR]at b
 have⟨sl,w,p,o,B,A,d⟩:=b
 cases l:sl.k with
 |none=>
  rw[l]at d;simp at d;subst d
  exact⟨_,.ref w.cells (a+m * P.cellsOf e),by simp_all[yzz],by grind[VR],h⟩
 |some j=>
  rw[l]at d;obtain⟨g,n,N,rfl⟩:=d;exact⟨_,.ap lv j g u.toNat (a+m * P.cellsOf e),by simp_all[yzz],by simp only[VR];exact⟨sl,w,p,o,B,A,by grind⟩,h⟩
 cases h;cases h
theorem ya5{R}(I:TRr D F ρ ts σ){t x i X Y k}{r:R}(h:y6l P D ts t x i k=some r)(a:VR D ρ F.lv x X)(hi:VR D ρ F.lv i Y) :
  ∃z v,yzz P σ.H t X Y=some v∧VR D ρ F.lv z v∧k z=some r:=by
 unfold y6l at h;split at h;rename_i ik n;simp[VR]at hi;subst hi;split at h;rename_i e A;split at h;rename_i he;split at h;rename_i τ xs fl;split at h;rename_i O;have⟨y,l,h⟩:=z3f h;simp[VR]at a;have⟨a,_⟩:=a
 cases a with
 |nil=>have⟨_,K⟩:=zm4 l;simp at K
 |sl _ _ ws full hl W=>
  have⟨M,K,w,h3,h4⟩:=z01y hl W l;refine⟨_,.ref w.cells 0,?_,?_,h⟩
  simp_all
  simp only[VR];exact⟨_,rfl,VR.yta hD h4⟩
 cases h;rename_i s;split at h;rename_i ty τ xs w U;split at h;rename_i O;have⟨y,l,h⟩:=z3f h;simp[VR]at a;obtain⟨sl,M,rfl,g⟩:=a;have⟨sl',p,o⟩:=I.ob _ _ U;rw[M]at p;cases p;simp only[OR]at o;have⟨Z,q2,b⟩:=o;have⟨N,p2,u,p3,p4⟩:=z01y Z q2 l
 cases G:sl.k with
 |none=>
  rw[G]at b
  rcases b with ⟨C,B⟩|⟨C,B⟩
  grind
  refine⟨_,.ref u.cells 0,?_,?_,h⟩
  simp_all
  grind[VR]
 |some j=>
  rw[G]at b;have⟨d,cp,C,B⟩:=b;refine⟨_,.ap F.lv j d n.toNat 0,?_,?_,h⟩;rw[C];unfold yzz;simp only;rw[Qbq N,A];simp only[I.get B];rw[Qbq ⟨trivial,O,he,by omega⟩];simp
  grind[VR]
 cases h;rename_i ty q xs W U;split at h;rename_i O;have⟨y,l,h⟩:=z3f h;simp[VR]at a;obtain⟨sl,M,rfl,g⟩:=a;have⟨sl',p,o⟩:=I.ob _ _ U;rw[M]at p;cases p;simp only[OR]at o;have⟨Z,b⟩:=o;have⟨N,p2⟩:=zm4 l;have h5:n.toNat<sl.ws.length:=by grind
 cases G:sl.k with
 |none=>
  grind
 |some j=>
  rw[G]at b;have⟨d,cp,fps,C,B,_⟩:=b;refine⟨_,.ap F.lv j d n.toNat 0,?_,?_,h⟩;rw[C];unfold yzz;simp only;rw[Qbq N,A];simp[I.get B]
  grind
  grind[VR]
 cases h;cases h;cases h;cases h;rename_i len e A;split at h;have⟨_,Q,h⟩:=z3f h;unfold inR at Q;split at Q;rename_i hc;obtain⟨m,hm,rfl,K⟩:=y4y hc.1 hc.2 h;exact y54 A K a;cases Q;split at h;exact y54 A h a;cases h;cases h;cases h
omit hD in
theorem yuy{t}:∀{cs xs},ytk D t cs = .ok xs->xs.length=cs.length
 |[],xs,h=>by grind[ytk]
 |c::cs,xs,h=>by
  simp[ytk]at h;split at h;split at h;rename_i b a;cases h;simp[yuy a];cases h;cases h;cases h;cases h
theorem ys8{R t x i g j k}{r:R}(h:yyo P D t x i k=some r)(a:VR D ρ lv x g)(hi:VR D ρ lv i j) :
  ∃z v,y9w P t g j=some v∧VR D ρ lv z v∧k z=some r:=by
 unfold yyo at h;split at h;rename_i N n;simp[VR]at hi;subst hi;split at h;rename_i s;simp[VR]at a;subst a;split at h;rename_i m;have⟨b,B,h⟩:=z3f h;have⟨U,Q⟩:=zm4 B;refine⟨_,.int .u8 b.toNat,?_,by simp[VR],h⟩
 simp_all[y9w]
 cases h;rename_i cs;simp[VR]at a;obtain⟨vs,rfl,a⟩:=a;split at h;rename_i len e m;split at h;rename_i τ O;split at h;rename_i A;have⟨I,G,C,X⟩:=A;split at h;split at h;rename_i xs d;have⟨y,w,h⟩:=z3f h;have⟨l,q⟩:=y64 hD d a;have⟨p,M,u,K,o⟩:=z01y l q w;have hlen:vs.length=len:=by rw[l,yuy d,I]
 refine⟨_,u,?_,VR.leaf o,h⟩;unfold y9w;simp only;rw[Qbq p,m];simp only;rw[Qbq ⟨by omega,C⟩,G,Nat.mul_one]
 grind[rd,TypeDesc.isAgg]
 cases h;cases h;cases h;cases h;cases h;cases h;cases h
omit hD in
theorem z0a5{d n:Nat}{o l a}(j:d<=n)(h:yr2 D (d:Int) o=some l)(b:∀x,o=some x->∃v,a=some v∧VR D ρ lv x v)(e:o=none->a=none)(k:0<=l)(i:l<=n):bnd n d a=some l.toNat:=by
 unfold yr2 at h;split at h;cases h;rw[e rfl];simp[bnd];rename_i g x;cases h;have⟨v,p,m⟩:=b _ rfl
 simp_all[VR,bnd]
 cases h
omit hD in
theorem ytj{R t x lo hi Q b g k U}{r:R}(h:z00l P D t x lo hi k U=some r)(a:VR D ρ lv x Q)
  (M:∀y,lo=some y->∃v,b=some v∧VR D ρ lv y v) (m:lo=none->b=none) (N:∀y,hi=some y->∃v,g=some v∧VR D ρ lv y v) (o:hi=none->g=none) (H) :
  (∃z v,zkf P H t Q b g none=some v∧VR D ρ lv z v∧k z=some r)∨∃s,U s=some r:=by
 unfold z00l at h
 have bounds:∀{n:Nat}{l q:Int},yr2 D 0 lo=some l->yr2 D (n:Int) hi=some q->0<=l->l<=q->q<=n->zm3 n b g none=some (l.toNat,q.toNat,none):=λ{n l q} B A G X C=>by
  simp[zm3];rw[z0a5 (Qbp n) A N o (by omega) C];simp[Option.bind_some];rw[z0a5 (d:=0) (n:=q.toNat) (Qbo _) B M m G (by omega)];rfl
 split at h;rename_i s;simp[VR]at a;subst a;split at h;rename_i Z;split at h;rename_i l q B A;have⟨y,u,h⟩:=z3f h;obtain⟨G,X,C,rfl,_⟩:=yxp u;left;exact⟨_,.str ((s.take q.toNat).drop l.toNat),by grind[zkf],by simp[VR],h⟩;cases h;cases h
 ·rename_i τ xs W;simp[VR]at a;have⟨a,O,h6⟩:=a;split at h
  ·rename_i e Z;split at h
   ·rename_i hz;split at h
    ·rename_i l q B A;have⟨y,u,h⟩:=z3f h;obtain⟨G,X,C,rfl,_⟩:=yxp u;left
     cases a with
     |nil=>
      refine⟨_,.nils,?_,?_,h⟩
      simp_all[zkf]
      simp only[VR];refine⟨by simp[List.drop_nil];exact .nil τ,λi =>?_,λi=>by simp⟩
      grind
     |sl _ _ ws full K hh=>
      refine⟨_,.sl (D.len τ) ((ws.take q.toNat).drop l.toNat) (full&&q.toNat==ws.length),?_,?_,h⟩
      rotate_left
      simp[VR];refine⟨.sl τ _ ((ws.take q.toNat).drop l.toNat) (full&&q.toNat==ws.length) (by simp[K]) λj x w a Y =>?_,λi =>?_,λi =>?_⟩;rw[Qba,Qaw]at a Y;split at a
      grind
      cases a
      have p:hi=none∧1<=W:=by
       grind
      have⟨h4,I⟩:=O p.2;cases I
      have h5:q=xs.length:=by
       grind[yr2]
      simp_all
      grind
      simp_all[zkf]
    cases h
   cases h
  cases h
 exact .inr ⟨_,h⟩;cases h
omit hD in
theorem TRr.oev(d:TRr D F ρ ts σ){o x}(h:oev D ts o=some x):(∀y,x=some y->∃v,o.map σ.ev=some v∧VR D ρ F.lv y v)∧(x=none->o.map σ.ev=none):=by
 cases o with
 |none=>simp[Go.Ab.oev,Qbn]at h;grind
 |some o=>
  simp[Go.Ab.oev,Qaf]at h;obtain⟨y,b,rfl⟩:=h;exact⟨λz a=>by cases a;exact⟨_,rfl,d.ev b⟩,by simp⟩
omit hD in
theorem DR.flat{t}(a:t.flat=true){x v}(h:DR D t x v):v=D.el t x:=by
 cases h <;> first|rfl|cases a
theorem yn2{R}(G:TRr D F ρ ts σ){t x a o u ok k}{r:R}(h:ytn P D ts t x a ok k=some r)(B:VR D ρ F.lv x o)(C:VR D ρ F.lv a u) :
  ∃z v,zwm P σ.H t o u ok=some v∧VR D ρ F.lv z v∧k z=some r:=by
 unfold ytn at h;split at h;rename_i kt e s Q;simp[VR]at C;subst C;split at h;rename_i z l N;have⟨n,g,d⟩:=zn1 (ρ:=ρ) (lv:=F.lv) N;split at h;rename_i q;split at h;rename_i ty τ es X;simp only[VR]at B;obtain⟨sl,i,W,Z,rfl⟩:=B;have⟨sl',A,y⟩:=G.ob _ _ X;rw[W]at A;cases A;simp only[OR]at y;have⟨i',ms,w,K,q4,I⟩:=y;rw[Z]at w;cases w;split at h;rename_i b j;have h0:=zli hD j d
 have⟨l1,M⟩:=z027 (P:=P) (f:=λx:τ.S D.T×V=>x.2) (m:=ms) Q l g (G.get I) s (b,n) rfl;have eg:zau es s=(zau ms s).map Prod.fst:=by rw[K];exact yw1 Prod.fst s ms
 have O:VR D ρ F.lv (D.tv τ ((zau es s).getD b)) ((zau ms s).getD (b,n)).2:=by
  rw[eg]
  cases Y:zau ms s with
  |none=>exact VR.tv hD h0
  |some p=>
   have⟨q,a1,a2⟩:=ywy Y
   grind[VR.tv]
 have U:(zau es s).isSome=(zau ms s).isSome:=by grind
 cases ok
 grind
 exact⟨_,_,M,by
  simp only[VR,VRL]
  exact⟨_,rfl,_,_,rfl,O,_,_,rfl,by rw[U],rfl⟩,h⟩
 cases h;cases h;cases h;cases h;cases h
omit hD in
theorem DO.datE{L t x v c}(h:DO D lv L .dat t x v c):DR D t x v:=by
 cases h with
 |dat h=>exact h
omit hD in
theorem y2w(q):∀(l) (x) (f j),(y83 D q l x f)[j]? = (HL.nth l x j).map λp=>match D.ow q (f+j)with|none=>D.leaf p.1 p.2|some _=>.any
 |[],_,_,j=>by simp[y83,HL.nth]
 |t::l,x,f,0=>by rfl
 |t::l,x,f,j+1=>by
  have:=y2w q l x.2 (f+1) j
  grind[y83,HL.nth]
omit hD in
theorem yvd{ρ0 ρ' L q n h x w c}(k:EO D ρ0 lv L q h n x w c):VRL D ρ' lv (y83 D q (D.fl q) (D.get q x) 0) w.cells:=by
 obtain⟨vs,cs,rfl,m,s,r,l⟩:=k;refine .of ?_ λj y v e g =>?_
 show(y83 D q (D.fl q) (D.get q x) 0).length=vs.length;rw[m];apply Nat.le_antisymm;apply Nat.le_of_not_lt;intro a;have:=y2w (D:=D) q (D.fl q) (D.get q x) 0 (D.fl q).length;rw[Qab a]at this
 cases i:HL.nth (D.fl q) (D.get q x) (D.fl q).length with
 |none=>grind
 |some p=>have:=(HL.zic _ _ _ _ i).1;omega
 apply Nat.le_of_not_lt;intro a;have⟨p,b,_⟩:=HL.zn7 (D.fl q) (D.get q x) _ a;have:=y2w (D:=D) q (D.fl q) (D.get q x) 0 (y83 D q (D.fl q) (D.get q x) 0).length
 simp_all
 rw[y2w,Qaf]at e;obtain⟨p,b,rfl⟩:=e;have o:=(HL.zic _ _ _ _ b).1;rw[Nat.zero_add]
 cases d:D.ow q j with
 |some ty=>simp[VR]
 |none=>
  have:=l j p v _ b g (Qab (show j<cs.length by omega));rw[d]at this;split at this
  grind
  exact VR.leaf this.datE
omit hD in
theorem zhc{R}(hR:TRr D F ρ ts σ){ρ' t s off i set k}{r:R}{va}(hset:∀f v sl w u,set=some (f,v)->ρ[s]? = some sl->sl.ws[i.toNat]? = some w->w.cells[f]? = some u->VR D ρ' F.lv v u)
  (h:y03 P D ts t s i off set k=some r) (ha:VR D ρ F.lv (.dp s i off) va):∃x v,zej P σ.H t va=some v∧VR D ρ' F.lv x v∧k x=some r:=by
 unfold y03 at h;split at h;rename_i ty q xs hh ho;obtain⟨y,hy,h⟩:=z3f h;split at h;rename_i x hx;simp only[VR]at ha;obtain⟨sl,j,ver,m,a1,a2,a3,a4,rfl⟩:=ha;obtain⟨sl',b1,b2⟩:=hR.ob s _ ho;rw[a1]at b1;cases b1;simp only[OR]at b2;obtain⟨c1,c2⟩:=b2;obtain⟨p1,p2⟩:=zm4 hy
 cases hk:sl.k with
 |none=>grind
 |some j'=>
  rw[hk]at c2;obtain⟨ver',cp,fps,d1,d2,d3,d4,d5,d6,d7⟩:=c2;rw[a2]at d1;cases d1;have hw:=Qab a4;have hE:=d6 i.toNat y _ _ p2 hw (Qab (show i.toNat<fps.length by omega));have hm:=yvd (ρ':=ρ') hE
  have hs:VRL D ρ' F.lv (setO (y83 D q (D.fl q) (D.get q y) 0) set) (sl.ws[i.toNat]'a4).cells:=by
   cases set with
   |none=>exact hm
   |some p=>
    obtain⟨f,v⟩:=p;refine .of (by simp[setO,hm.length]) λn c u hc hu =>?_
    simp[setO]at hc;rw[Qbc]at hc;split at hc;rename_i e;subst e;split at hc;injection hc with hc;grind;cases hc;exact hm.y63 hc hu
  obtain⟨v,v1,v2⟩:=zh7 hs hx;refine⟨x,v,?_,v2,h⟩;simp[y5i,hR.get d2,hw,Option.bind_some];exact v1
 cases h;cases h
omit hD in
theorem ysl{R}(g:TRr D F ρ ts σ){t s b i k}{r:R}{y}
  (h:z00g P D ts t s i b k=some r) (l:VR D ρ F.lv (.dp s i b) y):∃x v,zej P σ.H t y=some v∧VR D ρ F.lv x v∧k x=some r:=by
 unfold z00g at h;split at h;rename_i ty q xs p I;have⟨n,j,c⟩:=p;split at h;rename_i a;have a:=Qaj a;subst a;have⟨_,X,h⟩:=z3f h
 have o:n=i:=by
  grind[zmb]
 subst o;refine zhc g (ρ':=ρ) (λf2 v sl w z e m C d =>?_) h l;injection e with e;cases e;have⟨sl',b1,b2⟩:=g.ob s _ I;rw[m]at b1;cases b1;simp only[OR]at b2;have⟨c1,A⟩:=b2
 cases K:sl.k with
 |none=>grind
 |some U=>
  rw[K]at A;have⟨B,Q,fps,d1,d2,d3,d4,d5,d6,d7⟩:=A;have u:=(d7 _ _ _ rfl).2;have⟨vs,cs,N,W,Z,Y,M⟩:=d6 n.toNat _ w _ (Qab u) C (Qab (show n.toNat<fps.length by omega));subst N;replace d:vs[j]? = some z:=d;have O:=(Qaa.1 d).1;have⟨p,G,_⟩:=HL.zn7 (D.fl q) (D.get q xs[n.toNat]) j (by omega)
  have:=M j p z _ G d (Qab (show j<cs.length by omega))
  grind[z4j,VR]
 exact zhc g (ρ':=ρ) (λf v _ _ _ e=>by cases e) h l;exact zhc g (ρ':=ρ) (λf v _ _ _ e=>by cases e) h l
theorem yhh{R}(d:TRr D F ρ ts σ){op k p}{r:R}(h:tP P D ts op k p=some r) :
  (∃x v,pv P σ.H σ.ev op=some v∧VR D ρ F.lv x v∧k x=some r)∨∃s,p s=some r:=by
 unfold tP at h;split at h;rename_i c a b;split at h;rename_i t x y q e i;have g:=d.ev q;simp[VR]at g;left;rw[yfq]at h;split at h;rename_i m;exact⟨x,_,by simp only[pv,g];rw[Qbq m],d.ev e,h⟩;rename_i m;exact⟨y,_,by simp only[pv,g];rw[Qbr m],d.ev i,h⟩;cases h;split at h;rename_i e i;left;have⟨z,v,g,l,j⟩:=z01v h (d.ev e) (d.ev i);exact⟨z,v,g,l,j⟩;cases h;split at h;rename_i e i;left
 have⟨z,v,g,l,j⟩:=ya5 hD d h (d.ev e) (d.ev i);exact⟨z,v,g,l,j⟩;cases h;split at h;rename_i e i;left;have⟨z,v,g,l,j⟩:=ys8 hD h (d.ev e) (d.ev i);exact⟨z,v,g,l,j⟩;cases h;split at h;rename_i e i;left;have⟨z,v,g,l,j⟩:=yn2 hD d h (d.ev e) (d.ev i);exact⟨z,v,g,l,j⟩;cases h;split at h;rename_i e n o;have⟨w,u⟩:=d.oev n;have⟨b1,b2⟩:=d.oev o
 exact ytj h (d.ev e) w u b1 b2 σ.H;cases h;split at h;rename_i e;left;exact ysl d h (d.ev e)
 grind[yos]
 grind[yos]
end
end Go.Ab
