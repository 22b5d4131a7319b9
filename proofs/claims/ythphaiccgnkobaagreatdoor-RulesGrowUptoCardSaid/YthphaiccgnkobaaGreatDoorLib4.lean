/-
  THE TYPED MACHINE: calls, labels, code. Definitions.
-/
import Derived.Test.YthphaiccgnkobaaGreatDoorLib3
import Derived.Test.YthphaiccgnkobaaGreatDoorLib2
namespace Go.Ab
open Go
set_option linter.unusedVariables false
noncomputable section
def mks{α β:Type}(es:List (α×β)):List α:=es.map Prod.fst
def mvs{α β:Type}(es:List (α×β)):List β:=es.map Prod.snd
theorem kz5{α β}:∀es:List (α×β),List.zip (mks es) (mvs es)=es
 |[]=>rfl
 |(_,_)::l=>congrArg (_ :: ·) (kz5 l)
inductive Src (T:Nat->Type) where
 |slot (s:Nat)
 |nil
abbrev z8s(T:Nat->Type):=List (Nat×Src T)
section
variable {T : Nat → Type}
def Src.z026(s:Nat):Src T->Bool
 |.slot s'=>s'==s
 |_=>false
def zg8(n k s:Nat)(M:z8s T):Option (z8s T) :=
 match fnd M k with
 |some (.slot s')=>if s'=s then some M else none
 |some _=>none
 |none=>if k<n∧M.all (λp => !p.2.z026 s)then some ((k,.slot s)::M)else none
def yrx(n k:Nat)(M:z8s T):Option (z8s T) :=
 match fnd M k with
 |some .nil=>some M
 |some _=>none
 |none=>if k<n then some ((k,.nil)::M)else none
def frU(o:Option (z8s T)):FR (z8s T×Unit) :=
 match o with
 |some M=>.ok (M,())
 |none=>.bad
end
def OSh.tys:OSh->List DTy
 |.cells cs=>Sh.z04 cs
 |.st i=>[.st i]
 |.acc _ t _=>[.sl t]
 |.siter=>[.str,.nat]
 |.rig=>[]
 |.mp _ t=>[.sl .str,.sl t]
 |.mit t=>[.sl .str,.sl t]
 |.bld _ _=>[]
 |.deep _ i=>[.sl (.st i)]
 |.deeph _ i _ _=>[.sl (.st i),.int .i64]
def z03:List OSh->List DTy
 |[]=>[]
 |o::l=>o.tys++z03 l
def tysT:List (Nat×Sh)->List DTy
 |[]=>[]
 |p::l=>p.2.tys++tysT l
section
variable (D : Dat)
mutual
def y9x(n:Nat):(sh:Sh)->TV D.T->z8s D.T->FR (z8s D.T×HL D.T sh.tys)
 |.any,_,M=>.ok (M,())
 |.d t,v,M=>match asD D t v with
  |.ok x=>.ok (M,(x,()))
  |.frz s=>.frz s
  |.bad=>.bad
 |.own k,.own s,M=>frU (zg8 n k s M)
 |.own k,.nils,M=>frU (yrx n k M)
 |.ptr k off,.ptr s off',M=>if off=off' then frU (zg8 n k s M)else .bad
 |.bp k,.bp s 0,M=>frU (zg8 n k s M)
 |.map k,.map s,M=>frU (zg8 n k s M)
 |.mc t,.mc t' es,M=>match zvs t' t es with
  |some es=>.ok (M,(mks es,(mvs es,())))
  |none=>.bad
 |.mc _,.map s,_=>.frz s
 |.nilp,.nilp,M=>.ok (M,())
 |.nilf,.nilf,M=>.ok (M,())
 |.nili,.nili,M=>.ok (M,())
 |.nils,.nils,M=>.ok (M,())
 |.fn f a b,.fn f' a' b',M=>if f=f' then (match zyw n a a' M with
  |.ok (M,x)=>match zyw n b b' M with
   |.ok (M,y)=>.ok (M,HL.app x y)
   |.frz s=>.frz s
   |.bad=>.bad
  |.frz s=>.frz s
  |.bad=>.bad)else .bad
 |.iface t s,.iface t' v,M=>if t=t' then y9x n s v M else .bad
 |.agg cs,.agg vs,M=>zyw n cs vs M
 |.tup cs,.tup vs,M=>zyw n cs vs M
 |.ref cs off,.ref vs off',M=>if off=off' then zyw n cs vs M else .bad
 |.dp k off,.dp s i off',M=>if off=off' then (match zg8 n k s M with
  |some M=>.ok (M,(i,()))
  |none=>.bad)else .bad
 |.ap k t off,.ap s t' i x off',M=>if off=off' then (match y4a t' t x with
  |some x=>(match zg8 n k s M with
   |some M=>.ok (M,(i,(x,())))
   |none=>.bad)
  |none=>.bad)else .bad
 |_,_,_=>.bad
def zyw(n:Nat):(l:List Sh)->List (TV D.T)->z8s D.T->FR (z8s D.T×HL D.T (Sh.z04 l))
 |[],[],M=>.ok (M,())
 |sh::l,v::vs,M=>match y9x n sh v M with
  |.ok (M,x)=>match zyw n l vs M with
   |.ok (M,y)=>.ok (M,HL.app x y)
   |.frz s=>.frz s
   |.bad=>.bad
  |.frz s=>.frz s
  |.bad=>.bad
 |_,_,_=>.bad
end
mutual
def zq2(m:Nat->Nat):(sh:Sh)->HL D.T sh.tys->TV D.T
 |.any,_=>.any
 |.d t,x=>D.tv t x.1
 |.own k,_=>.own (m k)
 |.ptr k off,_=>.ptr (m k) off
 |.bp k,_=>.bp (m k) 0
 |.map k,_=>.map (m k)
 |.mc t,x=>.mc t (List.zip x.1 x.2.1)
 |.nilp,_=>.nilp
 |.nilf,_=>.nilf
 |.nili,_=>.nili
 |.nils,_=>.nils
 |.fn f a b,x=>.fn f (z1u m a (HL.fst _ x)) (z1u m b (HL.snd _ x))
 |.iface t s,x=>.iface t (zq2 m s x)
 |.agg cs,x=>.agg (z1u m cs x)
 |.tup cs,x=>.tup (z1u m cs x)
 |.ref cs off,x=>.ref (z1u m cs x) off
 |.dp k off,x=>.dp (m k) x.1 off
 |.ap k t off,x=>.ap (m k) t x.1 x.2.1 off
def z1u(m:Nat->Nat):(l:List Sh)->HL D.T (Sh.z04 l)->List (TV D.T)
 |[],_=>[]
 |sh::l,x=>zq2 m sh (HL.fst _ x)::z1u m l (HL.snd _ x)
end
def y5y(n:Nat)(ts:TS D.T):(o:OSh)->Src D.T->z8s D.T->FR (z8s D.T×HL D.T o.tys)
 |.cells cs,.slot s,M=>match fnd ts.o s with
  |some (.cells vs)=>zyw D n cs vs M
  |_=>.bad
 |.st i,.slot s,M=>match fnd ts.o s with
  |some (.cells vs)=>match zb3 D (D.fl i) vs with
   |.ok x=>.ok (M,(D.make i x,()))
   |.frz s=>.frz s
   |.bad=>.bad
  |_=>.bad
 |.acc ty t w,.slot s,M=>match fnd ts.o s with
  |some (.acc ty' t' xs w')=>if ty=ty'∧(w=true->w'=true)then (match zer t' t xs with|some xs=>.ok (M,(xs,()))|none=>.bad)else .bad
  |_=>.bad
 |.acc _ _ _,.nil,M=>.ok (M,([],()))
 |.siter,.slot s,M=>match fnd ts.o s with
  |some (.siter l pos)=>.ok (M,(l,(pos,())))
  |_=>.bad
 |.rig,.slot s,M=>match fnd ts.o s with
  |some .rig=>.ok (M,())
  |_=>.bad
 |.mp ty t,.slot s,M=>match fnd ts.o s with
  |some (.mp ty' t' es)=>if ty=ty' then (match zvs t' t es with|some es=>.ok (M,(mks es,(mvs es,())))|none=>.bad)else .bad
  |_=>.bad
 |.mit t,.slot s,M=>match fnd ts.o s with
  |some (.mit t' _ es)=>(match zvs t' t es with|some es=>.ok (M,(mks es,(mvs es,())))|none=>.bad)
  |_=>.bad
 |.bld ty k,.slot s,M=>match fnd ts.o s with
  |some (.bld ty' b)=>if ty=ty' then (match b with
   |some q=>frU (zg8 n k q M)
   |none=>frU (yrx n k M))else .bad
  |_=>.bad
 |.deep ty q,.slot s,M=>match fnd ts.o s with
  |some (.deep ty' q' xs h)=>if ty=ty' then (match h with
   |none=>(match zer (.st q') (.st q) xs with
    |some xs=>.ok (M,(xs,()))
    |none=>.bad)
   |some _=>.frz s)else .bad
  |_=>.bad
 |.deep _ _,.nil,M=>.ok (M,([],()))
 |.deeph ty q f k,.slot s,M=>match fnd ts.o s with
  |some (.deep ty' q' xs h)=>if ty=ty' then (match h with
   |some p=>if f=p.2.1 then (match zer (.st q') (.st q) xs with
    |some xs=>(match zg8 n k p.2.2 M with
     |some M=>.ok (M,(xs,(p.1,())))
     |none=>.bad)
    |none=>.bad)else .bad
   |none=>.bad)else .bad
  |_=>.bad
 |_,_,_=>.bad
def ye5(n:Nat)(ts:TS D.T):(os:List OSh)->Nat->z8s D.T->FR (z8s D.T×HL D.T (z03 os))
 |[],_,M=>.ok (M,())
 |o::os,k,M=>match fnd M k with
  |some src=>match y5y D n ts o src M with
   |.ok (M,x)=>match ye5 n ts os (k+1) M with
    |.ok (M,y)=>.ok (M,HL.app x y)
    |.frz s=>.frz s
    |.bad=>.bad
   |.frz s=>.frz s
   |.bad=>.bad
  |none=>.bad
def ypp(n:Nat)(ts:TS D.T):(l:List (Nat×Sh))->z8s D.T->FR (z8s D.T×HL D.T (tysT l))
 |[],M=>.ok (M,())
 |p::l,M=>match fnd ts.t p.1 with
  |some v=>match y9x D n p.2 v M with
   |.ok (M,x)=>match ypp n ts l M with
    |.ok (M,y)=>.ok (M,HL.app x y)
    |.frz s=>.frz s
    |.bad=>.bad
   |.frz s=>.frz s
   |.bad=>.bad
  |none=>.bad
def zuv(m:Nat->Nat):(o:OSh)->HL D.T o.tys->TO D.T
 |.cells cs,x=>.cells (z1u D m cs x)
 |.st i,x=>.cells (D.leaves (D.fl i) (D.get i x.1))
 |.acc ty t w,x=>.acc ty t x.1 w
 |.siter,x=>.siter x.1 x.2.1
 |.rig,_=>.rig
 |.mp ty t,x=>.mp ty t (List.zip x.1 x.2.1)
 |.mit t,x=>.mit t none (List.zip x.1 x.2.1)
 |.bld ty k,_=>.bld ty (some (m k))
 |.deep ty q,x=>.deep ty q x.1 none
 |.deeph ty q f k,x=>.deep ty q x.1 (some (x.2.1,f,m k))
def z55(m:Nat->Nat):(os:List OSh)->Nat->HL D.T (z03 os)->List (Nat×TO D.T)
 |[],_,_=>[]
 |o::os,k,x=>(m k,zuv D m o (HL.fst _ x))::z55 m os (k+1) (HL.snd _ x)
def yqa(m:Nat->Nat):(l:List (Nat×Sh))->HL D.T (tysT l)->List (Nat×TV D.T)
 |[],_=>[]
 |p::l,x=>(p.1,zq2 D m p.2 (HL.fst _ x))::yqa m l (HL.snd _ x)
end
structure LSh where
 ts:List (Nat×Sh)
 os:List OSh
 pin:Nat
 nt:Nat
 gs:List Nat:=[]
def LSh.tys(l:LSh):List DTy:=tysT l.ts++z03 l.os
section
variable (D : Dat)
def LSh.bld(l:LSh)(x:HL D.T l.tys):TS D.T :=
 ⟨yqa D (λk=>k) l.ts (HL.fst _ x),z55 D (λk=>k) l.os 0 (HL.snd _ x),l.os.length,l.nt,[],l.gs.map some⟩
def pins{T}:Nat->z8s T
 |0=>[]
 |n+1=>(n,.slot n)::pins n
def yun{T}(n:Nat):List Nat->List (Option Nat)->z8s T->Option (z8s T)
 |[],[],M=>some M
 |k::ks,some s::ss,M=>match zg8 n k s M with
  |some M=>yun n ks ss M
  |none=>none
 |_,_,_=>none
def LSh.fit(l:LSh)(ts:TS D.T):FR (HL D.T l.tys) :=
 if ts.nt=l.nt∧ts.d.isEmpty=true then (match ypp D l.os.length ts l.ts (pins l.pin)with
  |.ok (M,x)=>match yun l.os.length l.gs ts.g M with
   |some M=>(match ye5 D l.os.length ts l.os 0 M with
    |.ok (_,y)=>.ok (HL.app x y)
    |.frz s=>.frz s
    |.bad=>.bad)
   |none=>.bad
  |.frz s=>.frz s
  |.bad=>.bad)else .bad
def LSh.enter{R}(l:LSh)(k:HL D.T l.tys->Option R):Nat->TS D.T->Option R
 |0,_=>none
 |f+1,ts=>match l.fit D ts with
  |.ok x=>k x
  |.frz s=>match isHole ts s with
   |true=>ts.fold D (yap 9 ts s) λts'=>LSh.enter l k f ts'
   |false=>match ts.freeze D s with
    |some ts'=>LSh.enter l k f ts'
    |none=>none
  |.bad=>none
structure Ent where
 f:Nat
 p:Nat
 args:List Sh
 aos:List OSh
 outs:List Sh
 ros:List OSh
 pan:Sh
 pos:List OSh
 pure:Bool
 go:{R:Type}->HL D.T (Sh.z04 args++z03 aos)->(HL D.T (Sh.z04 outs++z03 ros)->Option R)->(HL D.T (pan.tys++z03 pos)->Option R)->Option R
 ren:List (Nat×Nat):=[]
 kc:List (Nat×Nat):=[]
def Ent.fit(e:Ent D)(vs:List (TV D.T))(ts:TS D.T):FR (z8s D.T×HL D.T (Sh.z04 e.args++z03 e.aos)) :=
 match zyw D e.aos.length e.args vs []with
 |.ok (M,x)=>match ye5 D e.aos.length ts e.aos 0 M with
  |.ok (M,y)=>.ok (M,HL.app x y)
  |.frz s=>.frz s
  |.bad=>.bad
 |.frz s=>.frz s
 |.bad=>.bad
def zbx(M:z8s D.T)(p nx k:Nat):Nat :=
 if k<p then (match fnd M k with|some (.slot s)=>s|_=>0)else nx+(k-p)
def zjo:z8s D.T->List (Nat×TO D.T)
 |[]=>[]
 |(_,.slot s)::l=>(s,.gone)::zjo l
 |(_,.nil)::l=>zjo l
def zdp(M:z8s D.T)(p:Nat)(ts:TS D.T)(os)(y:HL D.T (z03 os)):TS D.T :=
 {ts with o:=z55 D (zbx D M p ts.nx) os 0 y++(zjo D M++ts.o),nx:=ts.nx+(os.length-p)}
def zem(M:z8s D.T)(p nx:Nat):List (Nat×Nat)->TS D.T->TS D.T
 |[],ts=>ts
 |q::l,ts=>match fnd M q.1 with
  |some (.slot s)=>zem M p nx l (ts.zdi D (TV.ren D s (zbx D M p nx q.2)))
  |_=>zem M p nx l ts
def zb6(M:z8s D.T)(old:TS D.T):List (Nat×Nat)->TS D.T->TS D.T
 |[],ts=>ts
 |q::l,ts=>match fnd M q.1 with
  |some (.slot s)=>(match fnd old.o s,fnd ts.o s with
   |some (.cells olds),some (.cells news)=>(match olds[q.2]? with
    |some v=>zb6 M old l (ts.set D s (.cells (news.set q.2 v)))
    |none=>zb6 M old l ts)
   |_,_=>zb6 M old l ts)
  |_=>zb6 M old l ts
def ypf(M:z8s D.T)(ts:TS D.T):List (Nat×Nat)->Bool
 |[]=>true
 |q::l=>(match fnd M q.1 with
  |some (.slot s)=>(match fnd ts.o s with
   |some (.cells olds)=>(match olds[q.2]? with
    |some (.own _)=>ypf M ts l
    |_=>false)
   |_=>false)
  |_=>false)
def altK{R:Type}(pan:Sh)(k kp:TV D.T->TS D.T->Option R):TV D.T->TS D.T->Option R:=match pan with
 |.tup _=>k
 |_=>kp
def yff:List (TV D.T)->TV D.T
 |[v]=>v
 |vs=>.tup vs
def z05g{R:Type}(f:Nat)(vs:List (TV D.T))(ts:TS D.T)(k kp:TV D.T->TS D.T->Option R)(kf:Nat->Option R):Option R:=none
def zuc{R}(f:Nat)(vs:List (TV D.T))(ts:TS D.T)(k kp:TV D.T->TS D.T->Option R)(kf:Nat->Option R):List (Ent D)->Option R
 |[]=>z05g D f vs ts k kp kf
 |e::r=>match Nat.beq e.f f with
  |false=>zuc f vs ts k kp kf r
  |true=>match e.fit D vs ts with
   |.bad=>zuc f vs ts k kp kf r
   |.frz s=>kf s
   |.ok (M,x)=>if ypf D M ts e.kc=true∧e.p<=e.aos.length∧e.p<=e.ros.length∧e.p<=e.pos.length∧(List.range e.p).all (λk=>match fnd M k with|some (.slot _)=>true|_=>false)then
      e.go x (λy=>k (yff D (z1u D (zbx D M e.p ts.nx) e.outs (HL.fst _ y))) (zem D M e.p ts.nx e.ren (zb6 D M ts e.kc (zdp D M e.p ts e.ros (HL.snd _ y)))))
       (λy=>altK D e.pan k kp (zq2 D (zbx D M e.p ts.nx) e.pan (HL.fst _ y)) (zdp D M e.p ts e.pos (HL.snd _ y)))
      else none
end
def Sh.z00s:Sh->Bool
 |.d t=>t.flat
 |_=>false
def pBor{R:Type}(D:Dat)(f:Nat)(vs:List (TV D.T))(ts:TS D.T)(k:TV D.T->TS D.T->Option R)(kf:Option R):Option R:=kf
def yxz{R}(D)(f:Nat)(vs:List (TV D.T))(ts:TS D.T)(k:TV D.T->TS D.T->Option R)(kf:Option R):List (Ent D)->Option R
 |[]=>pBor D f vs ts k kf
 |e::r=>match Nat.beq e.f f&&e.pure&&e.outs.all Sh.z00s with
  |true=>(match e.fit D (TV.ywe D ts vs) ts with
   |.ok mx=>e.go mx.2 (λy=>k (yff D (z1u D (λk=>k) e.outs (HL.fst _ y))) ts) (λ_=>none)
   |_=>yxz D f vs ts k kf r)
  |false=>yxz D f vs ts k kf r
section
variable (P : Program) (D : Dat) (tbl : List (Ent D))
def yhc{R}(op:Op)(k kp:TV D.T->TS D.T->Option R):Nat->TS D.T->Option R
 |0,_=>none
 |fuel+1,ts=>
  let kf:=λs=>match isHole ts s with
   |true=>ts.fold D (yap 9 ts s) λts'=>yhc op k kp fuel ts'
   |false=>(match ts.freeze D s with
    |some ts'=>yhc op k kp fuel ts'
    |none=>none)
  match op with
  |.load t a=>(match ts.ev a with
   |some (.dp s i off)=>yuf D P ts t s i off k kf
   |_=>tOp P D ts op k kf)
  |.call c=>match c.callee with
   |.value x=>match ts.ev x,ts.evs c.args.toList with
    |some (.fn f a b),some vs=>(match (TV.yd9 (a++vs++b)).find? (z032 ts)with
     |some _=>(match (TV.yd9 (a++vs++b)).find? (isHole ts)with
      |some s=>kf s
      |none=>yxz D f (a++vs++b) ts k (zuc D f (a++vs++b) ts k kp kf tbl) tbl)
     |none=>zuc D f (a++vs++b) ts k kp kf tbl)
    |_,_=>none
   |_=>tOp P D ts op k kf
  |.panic x=>match ts.ev x with
   |some (.iface t v)=>kp (.iface t v) ts
   |_=>none
  |.defer c=>match c.callee with
   |.value x=>match ts.ev x,ts.evs c.args.toList with
    |some (.fn f a b),some vs=>(match Nat.blt f 4000000000 with
     |true=>k .any {ts with d:=(f,a++vs++b)::ts.d}
     |false=>none)
    |_,_=>none
   |_=>none
  |.binOp o t x y _=>match ts.ev x,ts.ev y with
   |some .nili,some .nili=>(match isC x||isC y,P.underlying t with
    |true,some (.interface _)=>(match o with
     |.eql=>k (.bool true) ts
     |.neq=>k (.bool false) ts
     |_=>none)
    |_,_=>none)
   |_,_=>tOp P D ts op k kf
  |.alloc t=>match zeroV P t,P.info? t with
   |some (.agg [.nilp,.nils]),some i=>(match z05h P t&&Nat.beq i.size 2 with
    |true=>k (.bp ts.nx 0) (ts.new D (.bld t none))
    |false=>tOp P D ts op k kf)
   |_,_=>tOp P D ts op k kf
  |.convert s d x=>match ts.ev x with
   |some (.sl (.int .u8) xs _)=>(match P.underlying s,P.underlying d with
    |some (.slice e),some .string=>(match P.underlying e with
     |some (.int .u8)=>z82 (yby xs) λy=>k (.str y) ts
     |_=>none)
    |_,_=>none)
   |_=>tOp P D ts op k kf
  |.range t x=>match ts.ev x with
   |some (.map q)=>kf q
   |some (.mc τ es)=>(match P.underlying t with
    |some (.map _ _)=>k (.ptr ts.nx 0) (ts.new D (.mit τ none es))
    |_=>none)
   |_=>tOp P D ts op k kf
  |.next x false=>match ts.ev x with
   |some (.ptr s 0)=>(match fnd ts.o s with
    |some (.mit τ _ es)=>y8h es (λa y r=>k (.tup [.bool true,.str a,D.leaf τ y]) (ts.set D s (.mit τ (some (a,y)) r))) (k (.tup [.bool false]) ts)
    |_=>none)
   |_=>none
  |.entry x=>match ts.ev x with
   |some (.ptr s 0)=>(match fnd ts.o s with
    |some (.mit τ (some p) _)=>k (.tup [.str p.1,D.leaf τ p.2]) ts
    |_=>none)
   |_=>none
  |_=>tOp P D ts op k kf
def ycm{R}(all:List Oper)(o:Oper)(ts:TS D.T)(go skip:TS D.T->Option R):Option R :=
 match o.guard with
 |none=>go ts
 |some (j,want)=>match (all[j]?).bind (·.dst)with
  |none=>none
  |some d=>match fnd ts.t d with
   |some (.bool b)=>pIf b (if want then go {ts with t:=(d,.bool true)::ts.t}else skip {ts with t:=(d,.bool true)::ts.t})
     (if want then skip {ts with t:=(d,.bool false)::ts.t}else go {ts with t:=(d,.bool false)::ts.t})
   |some (.tup _)=>skip ts
   |_=>none
def cpB(all:List Oper)(o:Oper):Option (Nat×Operand×Operand):=match o.op,o.dst with
 |.slice t x (some lo) none none,some d=>if all.any (λq=>match q.op with
  |.call c=>(match c.callee with
   |.builtin .copy=>c.args.toList.any λa=>(match a with
    |.tmp i=>Nat.beq i d
    |_=>false)
   |_=>false)
  |_=>false)then some (t,x,lo)else none
 |_,_=>none
def tPC{R}(all:List Oper)(o:Oper)(k:TV D.T->Option R)(ts:TS D.T):Option R:=match cpB all o with
 |some (t,x,lo)=>(match ts.ev x,ts.ev lo with
  |some x,some lo=>tCut P D ts t x lo k (tP P D ts o.op k λ_=>none)
  |_,_=>none)
 |none=>tP P D ts o.op k λ_=>none
def litB(all:List Oper)(o:Oper):Bool:=match o.op,o.dst with
 |.buildSlice _ _ _,some d=>all.any λq=>(match q.op with
  |.assign (.tmp i)=>Nat.beq i d
  |_=>false)
 |_,_=>false
def tLit{R:Type}(ts:TS D.T)(op:Op)(k:TV D.T->TS D.T->Option R)(kf:Option R):Option R:=match op with
 |.buildSlice t len ps=>(match P.underlying t,y29 ts ps.toList with
  |some (.slice e),some qs=>(match zh4 P D t len qs with
   |.ok (.sl τ xs 1)=>k (.own ts.nx) (ts.new D (.acc e τ xs true))
   |_=>kf)
  |_,_=>kf)
 |_=>kf
def z00c(o:Oper):Bool:=match o.op,o.dst with
 |.buildSlice _ _ _,some d=>tbl.any λe=>Nat.beq e.f 5000000000&&Nat.beq e.p d
 |_,_=>false
def z01k{R}(all:List Oper)(o:Oper)(k kp:TV D.T->TS D.T->Option R)(ts:TS D.T):Option R:=match cpB all o with
 |some (t,x,lo)=>(match ts.ev x,ts.ev lo with
  |some x,some lo=>tCut P D ts t x lo (λv=>k v ts) (yhc P D tbl o.op k kp 9 ts)
  |_,_=>none)
 |none=>match litB all o||z00c D tbl o with
  |true=>tLit P D ts o.op k (yhc P D tbl o.op k kp 9 ts)
  |false=>yhc P D tbl o.op k kp 9 ts
def zvu{R}(all:List Oper)(kn:TS D.T->Option R)(kp:TV D.T->TS D.T->Option R):List Oper->TS D.T->Option R
 |[],ts=>kn ts
 |o::rest,ts=>pOp o<|ycm D all o ts
  (λts=>z01k P D tbl all o (λv ts=>match ts.put D o.dst v with|some ts=>zvu all kn kp rest ts|none=>none) kp ts)
  (λts=>match ts.put D o.dst (.tup [])with|some ts=>zvu all kn kp rest ts|none=>none)
def yv7(f:Nat):Bool:=tbl.any λe=>Nat.beq e.f f&&e.pure
def z06d(op:Op):Bool :=
 match op with
 |.alloc _| .box _ _| .store _ _ _| .makeMap _ _| .mapUpdate _ _ _ _| .insert _ _ _ _| .range _ _| .next _ _| .panic _=>false
 |.call c=>match c.callee with
  |.builtin .len| .builtin .min| .builtin .max=>true
  |.value (.func f)=>yv7 D tbl f
  |_=>false
 |_=>true
def zgl{R}(all:List Oper)(kn:TS D.T->Option R):List Oper->TS D.T->Option R
 |[],ts=>kn ts
 |o::rest,ts=>pOp o<|ycm D all o ts
  (λts=>match o.op with
   |.call c=>match c.callee with
    |.value x=>match ts.ev x,ts.evs c.args.toList with
     |some (.fn f a b),some vs=>(match (TV.yd9 (a++vs++b)).find? (z032 ts)with
      |some _=>yxz D f (a++vs++b) ts (λv _=>match ts.put D o.dst v with|some ts=>zgl all kn rest ts|none=>none) (zuc D f (a++vs++b) ts (λv _=>match ts.put D o.dst v with|some ts=>zgl all kn rest ts|none=>none) (λ_ _=>none) (λ_=>none) (tbl.filter (·.pure))) tbl
      |none=>zuc D f (a++vs++b) ts (λv _=>match ts.put D o.dst v with|some ts=>zgl all kn rest ts|none=>none) (λ_ _=>none) (λ_=>none) (tbl.filter (·.pure)))
     |_,_=>none
    |_=>tP P D ts o.op (λv=>match ts.put D o.dst v with|some ts=>zgl all kn rest ts|none=>none) (λ_=>none)
   |_=>tPC P D all o (λv=>match ts.put D o.dst v with|some ts=>zgl all kn rest ts|none=>none) ts)
  (λts=>match ts.put D o.dst (.tup [])with|some ts=>zgl all kn rest ts|none=>none)
def yvv:List Oper->Nat
 |[]=>0
 |o::r=>if z06d D tbl o.op then yvv r+1 else 0
def TV.ytr{T}:TV T->Bool
 |.any| .own _| .osl _ _| .map _| .bp _ _=>false
 |_=>true
def TV.isOwn{T}:TV T->Bool
 |.own _=>true
 |_=>false
def z1y{T}(ts:TS T)(s:Nat):Bool:=match fnd ts.o s with
 |some .gone=>false
 |some _=>true
 |none=>false
def plainO{T}(ts:TS T)(x:Operand):Option (List Nat):=match ts.ev x with
 |some v=>(match v.ytr with
  |true=>some []
  |false=>none)
 |none=>none
def ownO{T}(ts:TS T)(x:Operand):Option (List Nat):=match ts.ev x with
 |some (.own s)=>(match fnd ts.o s with
  |some (.acc _ _ _ _)=>some [s]
  |some (.deep _ _ _ _)=>some [s]
  |_=>none)
 |_=>plainO ts x
abbrev Rd:=Nat×Option Nat
def whole(l:List Nat):List Rd:=l.map λs=>(s,none)
def rdK{T}(P:Program)(ts:TS T)(op:Op):Option (List Rd):=match op with
 |.load t a=>(match ts.ev a with
  |some (.ptr s off)=>(match Nat.beq (P.cellsOf t) 1 with
   |true=>some [(s,some off)]
   |false=>some [(s,none)])
  |some (.ap s _ _ _ _)=>some [(s,none)]
  |some (.dp s _ _)=>(match fnd ts.o s with
   |some (.deep _ _ _ _)=>some [(s,none)]
   |_=>none)
  |some (.ref _ _)=>some []
  |_=>none)
 |.indexAddr _ x _=>(ownO ts x).map whole
 |.slice _ x _ _ _=>(plainO ts x).map whole
 |.call c=>(match c.callee,c.args.toList with
  |.builtin .len,[x]=>(ownO ts x).map whole
  |.builtin .min,_=>some []
  |.builtin .max,_=>some []
  |_,_=>none)
 |.makeSlice _ _ _| .move _| .assign _| .pick _ _ _| .nilCheck _| .binOp _ _ _ _ _| .unOp _ _ _| .convert _ _ _| .makeInterface _ _| .makeFunc _ _ _| .fieldAddr _ _ _| .field _ _ _| .index _ _ _| .typeAssert _ _ _ _| .extract _ _| .build _ _| .buildSlice _ _ _=>some []
 |_=>none
def appW{T}(nx:Nat):Option (TV T)->Option (TV T)->Option Nat
 |_,some (.bsl _ _)=>none
 |some (.sl _ _ _),_=>some nx
 |some .nils,_=>some nx
 |_,_=>none
def wrK{T}(ts:TS T)(op:Op):Option Nat:=match op with
 |.alloc _=>some ts.nx
 |.box _ _=>some ts.nx
 |.store _ a _=>(match ts.ev a with
  |some (.ptr s _)=>some s
  |_=>none)
 |.call c=>(match c.callee,c.args.toList with
  |.builtin .append,[s,x]=>appW ts.nx (ts.ev s) (ts.ev x)
  |_,_=>none)
 |_=>none
def ynh{T}(ts:TS T)(op:Op):Option Nat:=match wrK ts op with
 |some s=>some s
 |none=>(match op with
  |.store _ a _=>(match ts.ev a with
   |some (.ap s _ _ _ _)=>(match z1y ts s with
    |true=>some s
    |false=>none)
   |_=>none)
  |.call c=>(match c.callee,c.args.toList with
   |.builtin .append,[s,_]=>(match ts.ev s with
    |some (.own s)=>(match fnd ts.o s with
     |some (.acc _ _ _ _)=>some s
     |some (.deep _ _ _ _)=>some s
     |_=>none)
    |some .nils=>some ts.nx
    |_=>none)
   |_,_=>none)
  |_=>none)
abbrev Rds:=List (Nat×Option (List Rd))
abbrev Wrs:=List (Nat×Option Nat)
def yyi(all:List Oper)(i:Nat)(w:Option Nat)(rds:Rds):Bool:=rds.all λp=>ylg all p.1 i||(match p.2,w with
 |some [],_=>true
 |some R,some s=>R.all λq => !Nat.beq q.1 s
 |_,_=>false)
def yb2(all:List Oper)(i:Nat)(wrs:Wrs):Bool:=wrs.all λp=>ylg all p.1 i
def rdOk(all:List Oper)(i:Nat)(R:List Rd)(wrs:Wrs):Bool:=wrs.all λp=>ylg all p.1 i||(match R,p.2 with
 |[],_=>true
 |R,some s=>R.all λq => !Nat.beq q.1 s
 |_,_=>false)
def ypk(w:Option Nat)(rds:Rds):Rds:=match w with
 |some _=>rds
 |none=>rds.map λp=>(p.1,match p.2 with|some []=>some []|_=>none)
def z04z{T}(ts:TS T)(rds:Rds):Rds:=rds.map λp=>(p.1,match p.2 with
 |some R=>(match R.all (λq=>z1y ts q.1)with
  |true=>some R
  |false=>none)
 |none=>none)
def yet(w:Option Nat)(wrs:Wrs):Wrs:=match w with
 |some _=>wrs
 |none=>wrs.map λp=>(p.1,none)
def z04n(all:List Oper)(i:Nat)(rest:List Nat):Bool:=rest.all λj=>ylg all i j
def z017(all:List Oper)(done:List Nat)(j:Nat):Bool := !done.any (Nat.beq j)&&(match all[j]? with
 |some o=>o.after.toList.all λe => !Region.binds .any e||done.any (Nat.beq e.on)
 |none=>false)
def sched(all:List Oper)(quiet:Op->Bool):Nat->List Nat->List Nat
 |0,_=>[]
 |n+1,done=>match (List.range all.length).find? λj=>z017 all done j&&(match all[j]? with|some o=>quiet o.op|none=>false)with
  |some j=>j::sched all quiet n (j::done)
  |none=>match (List.range all.length).find? λj=>z017 all done j with
   |some j=>j::sched all quiet n (j::done)
   |none=>[]
def z05i(kc:List (Nat×Nat))(k:Nat)(c:Option Nat):Bool:=match c with
 |some c=>kc.any λz=>Nat.beq z.1 k&&Nat.beq z.2 c
 |none=>false
def yye{T}(all:List Oper)(i:Nat)(rds:Rds)(kc:List (Nat×Nat))(M:z8s T):Bool:=rds.all λp=>ylg all p.1 i||(match p.2 with
 |some R=>R.all λq=>M.all λm=>match m.2 with
  |.slot s => !Nat.beq q.1 s||z05i kc m.1 q.2
  |.nil=>true
 |none=>false)
def kcC(e:Ent D):List (Nat×Nat):=match e.pan with
 |.tup _=>[]
 |_=>e.kc
def z02v{R:Type}(f:Nat)(vs:List (TV D.T))(ts:TS D.T)(chk:List (Nat×Nat)->z8s D.T->Bool)(k kp:TV D.T->TS D.T->Option R):Option R:=none
def y6t{R}(f:Nat)(vs:List (TV D.T))(ts:TS D.T)(chk:List (Nat×Nat)->z8s D.T->Bool)(k kp:TV D.T->TS D.T->Option R):List (Ent D)->Option R
 |[]=>z02v D f vs ts chk k kp
 |e::r=>match Nat.beq e.f f with
  |false=>y6t f vs ts chk k kp r
  |true=>match e.fit D vs ts with
   |.ok (M,x)=>if chk (kcC D e) M=true∧ypf D M ts e.kc=true∧e.p<=e.aos.length∧e.p<=e.ros.length∧e.p<=e.pos.length∧(List.range e.p).all (λk=>match fnd M k with|some (.slot _)=>true|_=>false)then
      e.go x (λy=>k (yff D (z1u D (zbx D M e.p ts.nx) e.outs (HL.fst _ y))) (zem D M e.p ts.nx e.ren (zb6 D M ts e.kc (zdp D M e.p ts e.ros (HL.snd _ y)))))
       (λy=>altK D e.pan k kp (zq2 D (zbx D M e.p ts.nx) e.pan (HL.fst _ y)) (zdp D M e.p ts e.pos (HL.snd _ y)))
      else none
   |_=>y6t f vs ts chk k kp r
def z05d(τ:DTy):TV D.T->Option (List (τ.S D.T))
 |.nils=>some []
 |.sl t xs _=>zer t τ xs
 |_=>none
def fl12(n:Nat):Bool:=match n with
 |1=>true
 |2=>true
 |_=>false
def z00f{R}(t u:Nat)(s x:TV D.T)(k:TV D.T->Option R):Option R :=
 match s with
 |.sl t' xs fl=>(match fl12 fl with
  |true=>(match P.underlying t,P.underlying u with
   |some (.slice e),some du=>(match P.info? e,D.ty e with
    |some i,some τ=>(match i.zero with
     |some z=>(match zx1 du&&decide (0<i.size)&&decide (i.bytes<=524288)&&z.cells.size==i.size&&Nat.beq (D.len τ) i.size with
      |true=>(match zer t' τ xs,z05d D τ x with
       |some xs,some ys=>z82 (ext xs ys) λzs=>k (.sl τ zs 0)
       |_,_=>none)
      |false=>none)
     |none=>none)
    |_,_=>none)
   |_,_=>none)
  |false=>none)
 |_=>none
def appB(op:Op):Bool:=match op with
 |.call c=>(match c.callee with
  |.builtin .append=>true
  |_=>false)
 |_=>false
def z064(all:List Oper)(i:Nat):Bool:=(List.range all.length).any λj => !Nat.beq i j&&(match all[j]? with|some o=>yx3 o.op|none=>false) && !ylg all i j && !ylg all j i
def ze9{R}(all:List Oper)(kn:TS D.T->Option R)(kp:TV D.T->TS D.T->Option R):List Nat->Rds->Wrs->TS D.T->Option R
 |[],_,_,ts=>kn ts
 |i::rest,rds,wrs,ts=>match all[i]? with
 |none=>none
 |some o=>pOp o<|ycm D all o ts
  (λts=>match yx3 o.op with
   |true=>(match appB o.op&&z064 all i with
    |true=>(match o.op with
     |.call c=>(match c.callee,c.args.toList,c.argTypes.toList with
      |.builtin .append,[s,x],[t,u]=>(match ts.ev s,ts.ev x with
       |some s,some x=>z00f P D t u s x (λv=>match ts.put D o.dst v with
        |some ts2=>ze9 all kn kp rest ((i,some [])::rds) wrs ts2
        |none=>none)
       |_,_=>none)
      |_,_,_=>none)
     |_=>none)
    |false=>(match yyi all i (ynh ts o.op) rds&&yb2 all i wrs with
    |true=>tOp P D ts o.op (λv ts'=>match ts'.put D o.dst v with
     |some ts2=>ze9 all kn kp rest (ypk (wrK ts o.op) rds) ((i,wrK ts o.op)::yet (wrK ts o.op) wrs) ts2
     |none=>none) (λ_=>none)
    |false=>none))
   |false=>(match z00c D tbl o with
    |true=>(match yyi all i (some ts.nx) rds&&yb2 all i wrs with
     |true=>tLit P D ts o.op (λv ts'=>match ts'.put D o.dst v with
      |some ts2=>ze9 all kn kp rest rds ((i,some ts.nx)::wrs) ts2
      |none=>none) none
     |false=>none)
    |false=>match rdK P ts o.op with
    |some R=>(match rdOk all i R wrs&&R.all (λq=>z1y ts q.1)with
     |true=>tP P D ts o.op (λv=>match ts.put D o.dst v with
      |some ts2=>ze9 all kn kp rest ((i,some R)::rds) wrs ts2
      |none=>none) (λ_=>none)
     |false=>none)
    |none=>(match o.op with
     |.call c=>(match c.callee with
      |.value x=>(match ts.ev x,ts.evs c.args.toList with
       |some (.fn f a b),some vs=>(match yv7 D tbl f && !vs.any TV.isOwn with
        |true=>zuc D f (a++vs++b) ts (λv _=>match ts.put D o.dst v with
         |some ts2=>ze9 all kn kp rest ((i,some [])::rds) wrs ts2
         |none=>none) (λ_ _=>none) (λ_=>none) (tbl.filter (·.pure))
        |false=>(match z04n all i rest&&yb2 all i wrs with
         |true=>y6t D f (a++vs++b) ts (yye all i rds) (λv ts'=>match ts'.put D o.dst v with
          |some ts2=>ze9 all kn kp rest (z04z ts2 rds) ((i,none)::yet none wrs) ts2
          |none=>none) (λz ts'=>kp z {ts' with t:=[]}) (tbl.filter λe => !e.pure)
         |false=>none))
       |_,_=>none)
      |_=>none)
     |_=>none)))
  (λts=>match ts.put D o.dst (.tup [])with
   |some ts2=>ze9 all kn kp rest ((i,some [])::rds) wrs ts2
   |none=>none)
def dry1(ts:TS D.T)(op:Op):Option (TV D.T):=match op with
 |.move x=>ts.ev x
 |.assign x=>ts.ev x
 |.nilCheck x=>ts.ev x
 |.fieldAddr _ _ _=>tP P D ts op some (λ_=>none)
 |.binOp .add _ _ _ _=>tP P D ts op some (λ_=>none)
 |.binOp .sub _ _ _ _=>tP P D ts op some (λ_=>none)
 |.indexAddr _ x i=>(match ts.ev x,ts.ev i with
  |some (.own s),some (.int _ n)=>some (.dp s n 0)
  |_,_=>none)
 |.load _ a=>(match ts.ev a with
  |some (.ptr s off)=>(match fnd ts.o s with
   |some (.cells cs)=>cs[off]?
   |_=>none)
  |some (.dp s _ off)=>(match fnd ts.o s with
   |some (.deep _ _ _ (some p))=>(match Nat.beq p.2.1 off with
    |true=>some (.own p.2.2)
    |false=>none)
   |_=>none)
  |_=>none)
 |_=>none
def dryO:List Oper->TS D.T->Option (Nat×Int×Nat)
 |[],_=>none
 |o::r,ts=>
  let go:=λ_:Unit=>match ts.put D o.dst (match o.guard with
   |some _=>.any
   |none=>(match dry1 P D ts o.op with
    |some v=>v
    |none=>.any))with
   |some ts'=>dryO r ts'
   |none=>none
  match o.op with
  |.load _ a=>(match ts.ev a with
   |some (.dp s i off)=>(match fnd ts.o s with
    |some (.deep _ q _ none)=>(match D.ow q off with
     |some _=>some (s,i,off)
     |none=>go ())
    |_=>go ())
   |_=>go ())
  |_=>go ()
def ypj{R}(ops:List Oper):Nat->TS D.T->(TS D.T->Option R)->Option R
 |0,ts,k=>k ts
 |n+1,ts,k=>match dryO P D ops ts with
  |some q=>ts.opn D q.1 q.2.1 q.2.2 λ_ ts=>ypj ops n ts k
  |none=>k ts
def z05o(ops:Array Oper):Nat:=match ops.toList.any (z00c D tbl)with
 |true=>0
 |false=>yvv D tbl ops.toList
def y6h{R}(ops:Array Oper)(draw:Bool)(ts:TS D.T)(kn:TS D.T->Option R)(kp:TV D.T->TS D.T->Option R):Option R :=
 if draw then
  let n:=z05o D tbl ops
  if P.follows .mixedOrders then
   (if n=ops.size then (if Region.lexB .any ops then zgl P D tbl ops.toList kn ops.toList ts else none)
   else (if Region.lexTailB .any ops n then (ypj P D ops.toList 4 ts λts=>zgl P D tbl ops.toList (λts=>zvu P D tbl ops.toList kn kp (ops.toList.drop n) ts) (ops.toList.take n) ts)
   else (let l:=sched ops.toList (λop => !yx3 op&&(match op with| .call c=>(match c.callee with| .value (.func f)=>yv7 D tbl f| .value _=>false|_=>true)|_=>true)) ops.size []
    if y5l .any ops l (Array.replicate ops.size false)&&Nat.beq l.length ops.size&&(List.range ops.size).all (λj=>l.any (Nat.beq j))then (ypj P D ops.toList 4 ts λts=>ze9 P D tbl ops.toList kn kp l [] [] ts)else none)))
  else none
 else zvu P D tbl ops.toList kn kp ops.toList ts
end
inductive AC where
 |skip
 |region (id:Nat) (ops:Array Oper) (draw:Bool)
 |seq (a b:AC)
 |cond (c:Operand) (a b:AC)
 |block (id:Nat) (a:AC)
 |loop (a:AC)
 |exit (id:Nat)
 |ret
 |lab (l:Nat) (a:AC)
 |rng (lf:Nat) (g:Operand) (p:Nat) (a b:AC)
 |other (c:Code)
def AC.erase:AC->Code
 |.skip=>.skip
 |.region id ops d=>.region id ops d
 |.seq a b=>.seq a.erase b.erase
 |.cond c a b=>.cond c a.erase b.erase
 |.block id a=>.block id a.erase
 |.loop a=>.loop a.erase
 |.exit id=>.exit id
 |.ret=>.ret
 |.lab _ a=>a.erase
 |.rng _ g p a b=>.rangeFunc g #[p] a.erase b.erase
 |.other c=>c
def AC.labels:AC->List Nat
 |.seq a b=>a.labels++b.labels
 |.cond _ a b=>a.labels++b.labels
 |.block _ a=>a.labels
 |.loop a=>a.labels
 |.lab l a=>l::a.labels
 |_=>[]
def AC.zke:AC->List Nat
 |.seq a b=>a.zke++b.zke
 |.cond _ a b=>a.zke++b.zke
 |.block _ a=>a.zke
 |.loop a=>a.zke
 |.lab _ a=>a.zke
 |.rng lf _ _ _ _=>[lf]
 |_=>[]
def y4v(f:List (Nat×Nat))(i:Nat)(a:AC):AC :=
 match fnd f i with
 |some l=>.lab l a
 |none=>a
def ann(f:List (Nat×Nat)):Code->Nat->AC×Nat
 |.skip,i=>(y4v f i .skip,i+1)
 |.region id ops d,i=>(y4v f i (.region id ops d),i+1)
 |.seq a b,i=>
  let x:=ann f a (i+1)
  let y:=ann f b x.2
  (y4v f i (.seq x.1 y.1),y.2)
 |.cond c a b,i=>
  let x:=ann f a (i+1)
  let y:=ann f b x.2
  (y4v f i (.cond c x.1 y.1),y.2)
 |.block id a,i=>
  let x:=ann f a (i+1)
  (y4v f i (.block id x.1),x.2)
 |.loop a,i=>
  let x:=ann f a (i+1)
  (y4v f i (.loop x.1),x.2)
 |.exit id,i=>(y4v f i (.exit id),i+1)
 |.ret,i=>(y4v f i .ret,i+1)
 |.rangeFunc g ps a b,i=>match fnd f (i+1000000),ps with
  |some lf,⟨[p]⟩ =>
   let x:=ann f a (i+1)
   let y:=ann f b x.2
   (y4v f i (.rng lf g p x.1 y.1),y.2)
  |_,_=>(.other (.rangeFunc g ps a b),i+1)
 |c,i=>(.other c,i+1)
structure Lb(D:Dat)(R:Type) where
 sh:LSh
 go:HL D.T sh.tys->Option R
def jump(D){R}(z0s:List (Nat×Lb D R))(l:Nat)(ts:TS D.T):Option R :=
 match fnd z0s l with
 |some lb=>lb.sh.enter D lb.go 9 ts
 |none=>none
structure Ks(T:Nat->Type)(R:Type) where
 kn:TS T->Option R
 kx:List (Nat×(TS T->Option R))
 kr:TS T->Option R
 kp:TV T->TS T->Option R
section
variable (P : Program) (D : Dat) (tbl : List (Ent D)) {R : Type} (J : Nat → TS D.T → Option R)
def z01x(ts:TS D.T):List (TV D.T)->Option Nat
 |[]=>none
 |v::l=>match v with
  |.own k=>(match fnd ts.o k with
   |some (.acc _ _ _ _)=>some k
   |_=>z01x ts l)
  |_=>z01x ts l
def usedB(r:List Oper)(dst:Option Nat):Bool:=match dst with
 |some d=>r.any λq=>(match q.op with
  |.call c=>(match c.callee with
   |.value (.func f)=>yv7 D tbl f&&c.args.toList.any λa=>(match a with
    |.tmp i=>Nat.beq i d
    |_=>false)
   |_=>false)
  |_=>false)
 |none=>false
def preS:List Oper->TS D.T->Option Nat
 |[],_=>none
 |o::r,ts=>match o.op with
  |.slice _ x _ _ _=>(match ts.ev x with
   |some (.own k)=>(match fnd ts.o k with
    |some (.deep _ _ _ _)=>some k
    |_=>none)
   |_=>none)
  |.buildSlice _ _ _=>preS r ts
  |.fieldAddr _ _ _| .load _ _| .move _=>(match tP1 P D ts o.op with
   |.ok v=>(match ysq D ts (match v with| .agg cells=>cells|_=>[])with
    |some k=>some k
    |none=>(match z01x D ts (match usedB D tbl r o.dst with|true=>(match v with| .agg cells=>cells|_=>[])|false=>[])with
     |some k=>some k
     |none=>(match ts.put D o.dst v with
      |some ts=>preS r ts
      |none=>none)))
   |_=>none)
  |.call _=>preS r ts
  |_=>none
def pre1(ops:Array Oper)(ts:TS D.T):TS D.T:=match preS P D tbl ops.toList ts with
 |some s=>(match ts.freeze D s with
  |some ts'=>ts'
  |none=>ts)
 |none=>ts
def pre(ops:Array Oper)(d:Bool)(ts:TS D.T):TS D.T:=match d with
 |true=>pre1 P D tbl ops (pre1 P D tbl ops ts)
 |false=>ts
def run:AC->TS D.T->Ks D.T R->Option R
 |.skip,ts,K=>K.kn ts
 |.region _ ops d,ts,K=>y6h P D tbl ops d (pre P D tbl ops d ts) K.kn K.kp
 |.seq a b,ts,K=>run a ts {K with kn:=λts=>run b ts K}
 |.cond c a b,ts,K=>match ts.ev c with
  |some (.bool v)=>(match c with
   |.tmp t=>pIf v (run a {ts with t:=(t,.bool true)::ts.t} K) (run b {ts with t:=(t,.bool false)::ts.t} K)
   |_=>pIf v (run a ts K) (run b ts K))
  |_=>none
 |.block id a,ts,K=>run a ts {K with kx:=(id,K.kn)::K.kx}
 |.loop _,_,_=>none
 |.exit id,ts,K=>match fnd K.kx id with
  |some k=>k ts
  |none=>none
 |.ret,ts,K=>K.kr ts
 |.lab l _,ts,_=>J l ts
 |.rng _ _ _ _ _,_,_=>none
 |.other _,_,_=>none
def z023(a b:B8):Option Unit:=if a=b then some ()else none
def capS(s:B8):Option Unit:=if s.length<=4611686018427387904 then some ()else none
def TS.back{T}(ts ts':TS T):TS T:={ts' with t:=ts.t,d:=ts.d,nt:=ts.nt}
def TS.mark{T}(ts:TS T):TS T:={ts with d:=(4000000000,[])::ts.d}
def ysw(l lf:Nat)(g:Operand)(p:Nat)(a b:AC)(K:Ks D.T R)(ts:TS D.T):Option R :=
 match a.labels,b.labels,calm a.erase&&calm b.erase with
 |[],[],true=>(match ts.ev g with
  |some (.fn f [] [.ptr k 0])=>(match Nat.beq f lf,fnd ts.o k with
   |true,some (.cells [.str r])=>z82 (capS r) λ_=>pIf (noS r) (K.kn ts.mark) (match TS.put D {ts with d:=[]} (some p) (.str (lnA r))with
    |some ts1=>run P D tbl J a (ts1.set D k (.cells [.str (lnB r)])) ⟨λts2=>run P D tbl J b ts2 ⟨λts'=>(match fnd ts'.o k with
      |some (.cells [.str r'])=>z82 (z023 r' (lnB r)) λ_=>J l (ts.back ts')
      |_=>none),K.kx.map (λq=>(q.1,λts'=>q.2 (ts.back ts').mark)),λts'=>K.kr (ts.back ts').mark,λ_ _=>none⟩,[],λ_=>none,λ_ _=>none⟩
    |none=>none)
   |_,_=>none)
  |_=>none)
 |_,_,_=>none
def z01w(l:Nat)(a:AC)(K:Ks D.T R):TS D.T->Option R:=λts=>
 match a with
 |.loop b=>run P D tbl J b ts {K with kn:=J l}
 |.rng lf g p a b=>ysw P D tbl J l lf g p a b K ts
 |a=>run P D tbl J a ts K
def AC.at(l:Nat):AC->Ks D.T R->(TS D.T->Option R)->Option (TS D.T->Option R)
 |.seq a b,K,_=>match AC.at l a {K with kn:=λts=>run P D tbl J b ts K} (λ_=>none)with
  |some x=>some x
  |none=>AC.at l b K (λ_=>none)
 |.cond _ a b,K,_=>match AC.at l a K (λ_=>none)with
  |some x=>some x
  |none=>AC.at l b K (λ_=>none)
 |.block id a,K,_=>AC.at l a {K with kx:=(id,K.kn)::K.kx} (λ_=>none)
 |.loop a,K,kl=>AC.at l a {K with kn:=kl} (λ_=>none)
 |.lab l' a,K,_=>match Nat.beq l' l with
  |true=>some (z01w P D tbl J l' a K)
  |false=>AC.at l a K (J l')
 |_,_,_=>none
end
def yxy{α:Type}:List α->Nat->List (Nat×α)
 |[],_=>[]
 |a::l,k=>(k,a)::yxy l (k+1)
def entry(D:Dat)(args)(aos)(nt:Nat)(gs:List Nat)(x:HL D.T (Sh.z04 args++z03 aos)):TS D.T :=
 ⟨yxy (z1u D (λk=>k) args (HL.fst _ x)) 0,z55 D (λk=>k) aos 0 (HL.snd _ x),aos.length,nt,[],gs.map some⟩
def zxd(P:Program)(D:Dat)(ts:TS D.T):List ResultVar->Option (List (TV D.T))
 |[]=>some []
 |.tmp t::rs=>match fnd ts.t t,zxd P D ts rs with
  |some v,some vs=>some (v::vs)
  |_,_=>none
 |.cell a t::rs=>match fnd ts.t a with
  |some p=>match yva P D ts t p,zxd P D ts rs with
   |some v,some vs=>some (v::vs)
   |_,_=>none
  |none=>none
def zwx{R}(D:Dat)(l:LSh)(pack:HL D.T l.tys->R):Ks D.T R :=
 ⟨l.enter D (λx=>some (pack x)) 9,[],l.enter D (λx=>some (pack x)) 9,λ_ _=>none⟩
def TS.y7c{T}(ts:TS T):TS T:=match ts.d with
 |[(f,[])]=>(match Nat.beq f 4000000000 with
  |true=>{ts with d:=[]}
  |false=>ts)
 |_=>ts
def yp9{R}(D:Dat)(l:LSh)(pack:HL D.T l.tys->R):Ks D.T R :=
 ⟨λts=>l.enter D (λx=>some (pack x)) 9 ts.y7c,[],λts=>l.enter D (λx=>some (pack x)) 9 ts.y7c,λ_ _=>none⟩
section
variable (D : Dat)
def ytj(pan:Sh)(pos)(p:Nat)(z:TV D.T)(ts:TS D.T):Option (HL D.T (pan.tys++z03 pos)) :=
 match ts.d with
 |[]=>match y9x D pos.length pan z (pins p)with
  |.ok (M,x)=>match ye5 D pos.length ts pos 0 M with
   |.ok (_,y)=>some (HL.app x y)
   |_=>none
  |_=>none
 |_=>none
def y3r:Option Sh->List DTy
 |none=>[]
 |some s=>s.tys
structure zvx where
 f:Nat
 args:List Sh
 aos:List OSh
 m:Option Sh
 ros:List OSh
 go:HL D.T (Sh.z04 args++z03 aos)->HL D.T (y3r m)->Option (HL D.T (z03 ros))
def zvx.ent(de:zvx D):Ent D:={f:=de.f,p:=de.aos.length,args:=de.args,aos:=de.aos,outs:=[],ros:=de.ros,pan:=.nilp,pos:=[],pure:=false,go:=λ_ _ _=>none}
def ym3:(m:Option Sh)->Option (TV D.T)->Option (HL D.T (y3r m))
 |none,none=>some ()
 |some s,some z=>match y9x D 0 s z []with
  |.ok (_,x)=>some x
  |_=>none
 |_,_=>none
def y6w{R}(f:Nat)(vs:List (TV D.T))(m:Option (TV D.T))(ts:TS D.T)(k:TS D.T->Option R):List (zvx D)->Option R
 |[]=>none
 |de::r=>match Nat.beq de.f f with
  |false=>y6w f vs m ts k r
  |true=>match ym3 D de.m m with
   |none=>y6w f vs m ts k r
   |some mx=>match de.ent.fit D vs ts with
    |.ok (M,x)=>if de.aos.length<=de.ros.length∧(List.range de.aos.length).all (λk=>match fnd M k with|some (.slot _)=>true|_=>false)then
       z82 (de.go x mx) λy=>k (zdp D M de.aos.length ts de.ros y)else none
    |_=>y6w f vs m ts k r
def zgn{R}(des:List (zvx D))(k:TS D.T->Option R)(kp:TV D.T->TS D.T->Option R):List (Nat×List (TV D.T))->Option (TV D.T)->TS D.T->Option R
 |[],none,ts=>k ts
 |[],some z,ts=>kp z ts
 |(f,vs)::r,m,ts=>match Nat.blt f 4000000000 with
  |true=>y6w D f vs m ts (λts'=>zgn des k kp r none {ts' with d:=r}) des
  |false=>none
def panK{X R}(pan:Sh)(pos)(p:Nat)(packp:HL D.T (pan.tys++z03 pos)->X)(z:TV D.T)(ts:TS D.T):Option (Res X R):=match ytj D pan pos p z ts with
 |some y=>some (.pan (packp y))
 |none=>none
def yvj{X R}(des:List (zvx D))(l:LSh)(pack:HL D.T l.tys->R)(pan:Sh)(pos)(p:Nat)(packp:HL D.T (pan.tys++z03 pos)->X):Ks D.T (Res X R) :=
 ⟨λts=>zgn D des (l.enter D (λx=>some (.ok (pack x))) 9) (panK D pan pos p packp) ts.d none ts,[],
  λts=>zgn D des (l.enter D (λx=>some (.ok (pack x))) 9) (panK D pan pos p packp) ts.d none ts,
  λz ts=>zgn D des (l.enter D (λx=>some (.ok (pack x))) 9) (panK D pan pos p packp) ts.d (some z) ts⟩
def yv4{R}(des:List (zvx D))(l:LSh)(pack:HL D.T l.tys->R):Ks D.T R :=
 ⟨λts=>zgn D des (l.enter D (λx=>some (pack x)) 9) (λ_ _=>none) ts.d none ts,[],
  λts=>zgn D des (l.enter D (λx=>some (pack x)) 9) (λ_ _=>none) ts.d none ts,
  λz ts=>zgn D des (l.enter D (λx=>some (pack x)) 9) (λ_ _=>none) ts.d (some z) ts⟩
def runS{R}(P:Program)(tbl:List (Ent D))(J:Nat->TS D.T->Option R)(mv:TV D.T):AC->TS D.T->Ks D.T R->Option R
 |.seq (.region _ ops false) b,ts,K=>match ops.toList with
  |o::rest=>match isRec o with
   |true=>match ts.put D o.dst mv with
    |some ts=>zvu P D tbl ops.toList (λts=>run P D tbl J b ts K) K.kp rest ts
    |none=>none
   |false=>none
  |[]=>none
 |_,_,_=>none
end
set_option linter.unusedSimpArgs false
theorem zz9{α}(i)(a)(r:List (Nat×α))(j):fnd ((i,a)::r) j=if i=j then some a else fnd r j:=by
 simp[fnd]
 cases h:Nat.beq i j with
 |true=>simp_all
 |false=>rw[Qbr (λe=>by simp_all)]
theorem zlp{α}(f:α->α):∀(l) (j),fnd (l.map λp=>(p.1,f p.2)) j=(fnd l j).map f
 |[],j=>rfl
 |(i,a)::r,j=>by
  rw[List.map_cons,zz9,zz9];split;rfl;exact zlp f r j
def HL.nth{T}:(l:List DTy)->HL T l->Nat->Option ((t:DTy)×t.S T)
 |[],_,_=>none
 |t::_,x,0=>some ⟨t,x.1⟩
 |_::l,x,j+1=>HL.nth l x.2 j
theorem HL.zkl{T}:∀(l) (x:HL T l) (j),j<l.length->∃p,HL.nth l x j=some p∧l[j]? = some p.1
 |[],_,j,h=>by simp at h
 |t::_,x,0,_=>⟨⟨t,x.1⟩,rfl,rfl⟩
 |_::l,x,j+1,h=>by
  obtain⟨p,h1,h2⟩:=HL.zkl l x.2 j (by simpa using h);exact⟨p,h1,by simpa using h2⟩
theorem HL.zg4{T}:∀(l) (x) (j) (p:(t:DTy)×t.S T),HL.nth l x j=some p->j<l.length∧l[j]? = some p.1
 |[],_,j,p,h=>by simp[HL.nth]at h
 |t::_,x,0,p,h=>by simp[HL.nth]at h;subst h;simp
 |_::l,x,j+1,p,h=>by
  obtain⟨h1,h2⟩:=HL.zg4 l x.2 j p h;exact⟨by simpa using h1,by simpa using h2⟩
structure Dat.Ok(P:Program)(D:Dat):Prop where
 enc:∀i x,D.enc i x = .agg (D.els (D.fl i) (D.get i x))
 getMake:∀i x,D.get i (D.make i x)=x
 flat:∀i t,t∈D.fl i->(match t with| .st _=>False| .nat=>False|_=>True)
 ty:∀e t,D.ty e=some t->t ≠ .nat
 kin:∀i x (Dm:Nat->Nat->Prop),V.kin Dm (D.enc i x)
section
variable {D : Dat}
theorem yai:∀(l) (x),(D.els l x).length=l.length
 |[],_=>rfl
 |t::l,x=>by simp[Dat.els,yai l x.2]
theorem ykf:∀(l) (x) (j),(D.els l x)[j]? = (HL.nth l x j).map λp=>D.el p.1 p.2
 |[],_,j=>by simp[Dat.els,HL.nth]
 |t::l,x,0=>by simp[Dat.els,HL.nth]
 |t::l,x,j+1=>by simpa[Dat.els,HL.nth]using ykf l x.2 j
theorem zeh:∀(l) (x),(D.leaves l x).length=l.length
 |[],_=>rfl
 |t::l,x=>by simp[Dat.leaves,zeh l x.2]
theorem zgq:∀(l) (x) (j),(D.leaves l x)[j]? = (HL.nth l x j).map λp=>D.leaf p.1 p.2
 |[],_,j=>by simp[Dat.leaves,HL.nth]
 |t::l,x,0=>by simp[Dat.leaves,HL.nth]
 |t::l,x,j+1=>by simpa[Dat.leaves,HL.nth]using zgq l x.2 j
inductive DR (D:Dat):(t:DTy)->t.S D.T->V->Prop where
 |bool (b:Bool):DR D .bool b (.bool b)
 |int (k:IntKind) (n:Int):DR D (.int k) n (.int k n)
 |str (s:B8):DR D .str s (.str s)
 |nat (n:Nat):DR D .nat n .any
 |nil (t:DTy):DR D (.sl t) ([]:List (t.S D.T)) .nils
 |sl (t:DTy) (xs:List (t.S D.T)) (ws:List V) (full:Bool) (hl:ws.length=xs.length) (h:∀(j:Nat) (x:t.S D.T) (w:V),xs[j]? = some x->ws[j]? = some w->DR D t x w):DR D (.sl t) xs (.sl (D.len t) ws full)
 |st (i:Nat) (x:D.T i) (vs:List V) (hl:vs.length=(D.fl i).length) (h:∀(j:Nat) (p:(t:DTy)×t.S D.T) (v:V),HL.nth (D.fl i) (D.get i x) j=some p->vs[j]? = some v->DR D p.1 p.2 v):DR D (.st i) x (.agg vs)
 |enc (i:Nat) (x:D.T i):DR D (.st i) x (D.enc i x)
variable {P : Program} (hD : D.Ok P)
include hD
theorem yr3(t)(x):(D.el t x).cells.length=D.len t:=by
 cases t with
 |st i=>exact(congrArg (λv=>v.cells.length) (hD.enc i x)).trans (yai _ _)
 |_=>rfl
theorem DR.cells{t x v}(h:DR D t x v):v.cells.length=D.len t:=by
 cases h with
 |enc i x=>exact yr3 hD (.st i) x
 |st i x vs hl h=>simpa[Dat.len]using hl
 |_=>rfl
omit hD in
theorem DR.elsl(t:DTy)(xs:List (t.S D.T))(h:∀x,DR D t x (D.el t x)):DR D (.sl t) xs (.sl (D.len t) (xs.map (D.el t)) false) :=
 .sl t xs _ false (by simp) λj x w hx hw=>by
   grind
omit hD in
theorem DR.el:∀(t) (x),DR D t x (D.el t x)
 |.bool,b=>.bool b
 |.int k,n=>.int k n
 |.str,s=>.str s
 |.nat,n=>.nat n
 |.sl t,xs=>DR.elsl t xs (DR.el t)
 |.st i,x=>.enc i x
end
structure Slot where
 v:V
 k:Option Nat
 ws:List V
 fp:List Nat:=[]
def Slot.has(sl:Slot)(i:Nat):Prop:=sl.k=some i∨i∈sl.fp
def y8t{T}:(t:DTy)->t.S T->PV
 |.bool,b=>.bool b
 |.int k,n=>.int k n
 |.str,s=>.str s
 |_,_=>.bool false
theorem z040(D:Dat):∀{t},t.flat=true->∀x:t.S D.T,(y8t t x).v=D.el t x
 |.bool,_,_=>rfl
 |.int _,_,_=>rfl
 |.str,_,_=>rfl
section
variable (D : Dat) (ρ : List Slot) (lv : Nat)
mutual
def VR:TV D.T->V->Prop
 |.any,_=>True
 |.bool b,v=>v = .bool b
 |.int k n,v=>v = .int k n
 |.str s,v=>v = .str s
 |.nilp,v=>v = .nilp
 |.nils,v=>v = .nils
 |.mapn,v=>v = .mapn
 |.nilf,v=>v = .nilf
 |.nili,v=>v = .nili
 |.sl t xs fl,v=>DR D (.sl t) xs v∧(1<=fl->∃ws,v = .sl (D.len t) ws true)∧(fl=2->xs=[])
 |.own s,v=>∃sl,ρ[s]? = some sl∧v=sl.v∧v.leaf=true
 |.osl s lo,v=>∃sl j ver,ρ[s]? = some sl∧sl.k=some j∧sl.v = .hs lv j ver 0 sl.ws.length false∧0<=lo∧lo.toNat<=sl.ws.length∧(v = .hs lv j ver lo.toNat (sl.ws.length-lo.toNat) false∨(lo.toNat=sl.ws.length∧∃sz,v = .sl sz [] false))
 |.ptr s off,v=>∃sl i,ρ[s]? = some sl∧sl.k=some i∧v = .ptr lv i off
 |.bp s off,v=>∃sl i,ρ[s]? = some sl∧sl.k=some i∧v = .ap lv i 0 0 off
 |.map s,v=>∃sl i,ρ[s]? = some sl∧sl.k=some i∧v = .map lv i
 |.mc t es,v=>t.flat=true∧v = .mapc (es.map λp=>(.str p.1,y8t t p.2))
 |.ref cs off,v=>∃vs,v = .ref vs off∧VRL cs vs
 |.ap s t i x off,v=>∃sl w,ρ[s]? = some sl∧0<=i∧sl.ws[i.toNat]? = some w∧DR D t x w ∧
  (match sl.k with
  |none=>v = .ref w.cells off
  |some j=>∃ver n,sl.v = .hs lv j ver 0 n false∧v = .ap lv j ver i.toNat off)
 |.fn f a b,v=>∃as bs,v = .fn f as bs∧VRL a as∧VRL b bs
 |.iface t x,v=>∃y,v = .iface t y∧VR x y
 |.agg cs,v=>∃vs,v = .agg vs∧VRL cs vs
 |.tup cs,v=>∃vs,v = .tup vs∧VRL cs vs
 |.dp s i off,v=>∃sl j ver m,ρ[s]? = some sl∧sl.v = .hs lv j ver 0 m false∧0<=i∧i.toNat<m∧v = .ap lv j ver i.toNat off
 |.bsl q cs,v=>∃vs,v = .sl (D.len (.st q)) vs true∧VRL cs vs
def VRL:List (TV D.T)->List V->Prop
 |[],vs=>vs=[]
 |c::cs,vs=>∃v r,vs=v::r∧VR c v∧VRL cs r
end
end
section
variable {D : Dat} {ρ : List Slot} {lv : Nat}
theorem VRL.length:∀{cs vs},VRL D ρ lv cs vs->cs.length=vs.length
 |[],vs,h=>by subst h;rfl
 |c::cs,vs,h=>by
  obtain⟨v,r,rfl,_,h2⟩:=h;simp[VRL.length h2]
theorem VRL.get:∀{cs vs},VRL D ρ lv cs vs->∀(j:Nat) (c),cs[j]? = some c->∃v,vs[j]? = some v∧VR D ρ lv c v
 |[],vs,h,j,c,hj=>by simp at hj
 |c::cs,vs,h,0,d,hj=>by
  simp[VRL]at h
  grind
 |c::cs,vs,h,j+1,d,hj=>by
  obtain⟨v,r,rfl,h1,h2⟩:=h;obtain⟨u,hu,hr⟩:=VRL.get h2 j d (by simpa using hj);exact⟨u,by simpa using hu,hr⟩
theorem VRL.of:∀{cs vs},cs.length=vs.length->(∀(j:Nat) (c) (v),cs[j]? = some c->vs[j]? = some v->VR D ρ lv c v)->VRL D ρ lv cs vs
 |[],[],_,_=>by simp[VRL]
 |[],v::vs,h,_=>by simp at h
 |c::cs,[],h,_=>by simp at h
 |c::cs,v::vs,h,k=>by
  exact⟨v,vs,rfl,k 0 c v rfl rfl,VRL.of (by simpa using h) λj c' v' hc hv=>k (j+1) c' v' (by simpa using hc) (by simpa using hv)⟩
theorem VRL.y1r{cs vs}(h:VRL D ρ lv cs vs){j:Nat}{c v}(hc:cs[j]? = some c)(hv:vs[j]? = some v):VR D ρ lv c v:=by
 obtain⟨u,hu,hr⟩:=h.get j c hc
 grind
theorem VRL.take{cs vs}(h:VRL D ρ lv cs vs)(n):VRL D ρ lv (cs.take n) (vs.take n) :=
 .of (by simp[h.length]) λj c v hc hv=>by
   rw[Qaw]at hc hv;split at hc;rw[Qbq ‹_›]at hv;exact h.y1r hc hv;cases hc
theorem VRL.drop{cs vs}(h:VRL D ρ lv cs vs)(n):VRL D ρ lv (cs.drop n) (vs.drop n) :=
 .of (by simp[h.length]) λj c v hc hv=>by
   rw[Qbb]at hc hv;exact h.y1r hc hv
theorem VRL.append{a b x y}(h:VRL D ρ lv a x)(k:VRL D ρ lv b y):VRL D ρ lv (a++b) (x++y) :=
 .of (by simp[h.length,k.length]) λj c v hc hv=>by
   rw[Qba]at hc hv;rw[<-h.length]at hv;split at hc;rw[Qbq ‹_›]at hv;exact h.y1r hc hv;rw[Qbr ‹_›]at hv;exact k.y1r hc hv
theorem VRL.kzt{a b x y}(h:VRL D ρ lv a x)(k:VRL D ρ lv b y)(off):VRL D ρ lv (zjh a off b) (kzt x off y):=by
 unfold zjh Go.Ab.kzt;rw[k.length];exact((h.take off).append k).append (h.drop _)
theorem lookup_append{ρ e:List Slot}{s:Nat}{sl}(h:ρ[s]? = some sl):(ρ++e)[s]? = some sl:=by
 grind
mutual
theorem VR.more(e:List Slot):∀{x:TV D.T}{v:V},VR D ρ lv x v->VR D (ρ++e) lv x v
 |.any,_,_=>by simp only[VR]
 |.bool b,_,h=>by simpa only[VR]using h
 |.int k n,_,h=>by simpa only[VR]using h
 |.str s,_,h=>by simpa only[VR]using h
 |.nilp,_,h=>by simpa only[VR]using h
 |.nils,_,h=>by simpa only[VR]using h
 |.mapn,_,h=>by simpa only[VR]using h
 |.nilf,_,h=>by simpa only[VR]using h
 |.nili,_,h=>by simpa only[VR]using h
 |.sl t xs fl,_,h=>by simpa only[VR]using h
 |.own s,_,h=>by simp only[VR]at h ⊢;obtain⟨sl,h1,h2⟩:=h;exact⟨sl,lookup_append h1,h2⟩
 |.osl s lo,_,h=>by simp only[VR]at h ⊢;obtain⟨sl,j,ver,h1,h2⟩:=h;exact⟨sl,j,ver,lookup_append h1,h2⟩
 |.ptr s off,_,h=>by simp only[VR]at h ⊢;obtain⟨sl,i,h1,h2⟩:=h;exact⟨sl,i,lookup_append h1,h2⟩
 |.bp s off,_,h=>by simp only[VR]at h ⊢;obtain⟨sl,i,h1,h2⟩:=h;exact⟨sl,i,lookup_append h1,h2⟩
 |.map s,_,h=>by simp only[VR]at h ⊢;obtain⟨sl,i,h1,h2⟩:=h;exact⟨sl,i,lookup_append h1,h2⟩
 |.mc t es,_,h=>by simpa only[VR]using h
 |.ref cs off,_,h=>by simp only[VR]at h ⊢;obtain⟨vs,h1,h2⟩:=h;exact⟨vs,h1,VRL.more e h2⟩
 |.ap s t i x off,_,h=>by simp only[VR]at h ⊢;obtain⟨sl,w,h1,h2⟩:=h;exact⟨sl,w,lookup_append h1,h2⟩
 |.fn f a b,_,h=>by simp only[VR]at h ⊢;obtain⟨as,bs,h1,h2,h3⟩:=h;exact⟨as,bs,h1,VRL.more e h2,VRL.more e h3⟩
 |.iface t x,_,h=>by simp only[VR]at h ⊢;obtain⟨y,h1,h2⟩:=h;exact⟨y,h1,VR.more e h2⟩
 |.agg cs,_,h=>by simp only[VR]at h ⊢;obtain⟨vs,h1,h2⟩:=h;exact⟨vs,h1,VRL.more e h2⟩
 |.tup cs,_,h=>by simp only[VR]at h ⊢;obtain⟨vs,h1,h2⟩:=h;exact⟨vs,h1,VRL.more e h2⟩
 |.dp s i off,_,h=>by simp only[VR]at h ⊢;obtain⟨sl,j,ver,m,h1,h2⟩:=h;exact⟨sl,j,ver,m,lookup_append h1,h2⟩
 |.bsl q cs,_,h=>by simp only[VR]at h ⊢;obtain⟨vs,h1,h2⟩:=h;exact⟨vs,h1,VRL.more e h2⟩
theorem VRL.more(e:List Slot):∀{cs:List (TV D.T)}{vs:List V},VRL D ρ lv cs vs->VRL D (ρ++e) lv cs vs
 |[],_,h=>by simpa only[VRL]using h
 |c::cs,_,h=>by simp only[VRL]at h ⊢;obtain⟨v,r,h1,h2,h3⟩:=h;exact⟨v,r,h1,VR.more e h2,VRL.more e h3⟩
end
theorem VR.cells{x v}(h:VR D ρ lv x v)(hs:x.kzh=true):VRL D ρ lv x.cells v.cells:=by
 have one:∀{x:TV D.T}{v:V},VR D ρ lv x v->v.cells=[v]->x.cells=[x]->VRL D ρ lv x.cells v.cells:=λ{x v} h h1 h2=>by
  rw[h1,h2];simp[VRL];grind
 cases x <;> simp[TV.kzh,TV.leaf,Bool.false_eq_true]at hs
 case agg cs=>simp[VR]at h;obtain⟨vs,rfl,h2⟩:=h;exact h2
 case sl t xs fl=>exact one h (by simp[VR]at h;obtain⟨h,_⟩:=h;cases h <;> rfl) rfl
 case own s=>
  refine one h ?_ rfl;simp[VR]at h;obtain⟨sl,_,_,h⟩:=h
  cases v <;> first|rfl|(simp[V.leaf]at h)
 case ap s t i x off=>
  refine one h ?_ rfl;simp only[VR]at h;obtain⟨sl,w,h1,h2,h3,h4,h5⟩:=h;split at h5;subst h5;rfl;obtain⟨ver,n,_,h5⟩:=h5;subst h5;rfl
 case fn f a b=>refine one h ?_ rfl;simp[VR]at h;obtain⟨as,bs,rfl,_⟩:=h;rfl
 case iface t x=>refine one h ?_ rfl;simp[VR]at h;obtain⟨y,rfl,_⟩:=h;rfl
 case ref cs off=>refine one h ?_ rfl;simp[VR]at h;obtain⟨y,rfl,_⟩:=h;rfl
 case osl s lo=>refine one h ?_ rfl;simp[VR]at h;obtain⟨y,i,ver,_,_,_,_,_,h⟩:=h;rcases h with rfl|⟨_,sz,rfl⟩ <;> rfl
 case ptr s off=>refine one h ?_ rfl;simp[VR]at h;obtain⟨y,i,_,_,rfl⟩:=h;rfl
 case map s=>refine one h ?_ rfl;simp[VR]at h;obtain⟨y,i,_,_,rfl⟩:=h;rfl
 case mc t es=>refine one h ?_ rfl;simp[VR]at h;obtain⟨_,rfl⟩:=h;rfl
 case bp s off=>refine one h ?_ rfl;simp[VR]at h;obtain⟨y,i,_,_,rfl⟩:=h;rfl
 case dp s i off=>refine one h ?_ rfl;simp[VR]at h;obtain⟨y,j,ver,m,_,_,_,_,rfl⟩:=h;rfl
 case bsl q cs=>refine one h ?_ rfl;simp[VR]at h;obtain⟨vs,rfl,_⟩:=h;rfl
 all_goals (refine one h ?_ rfl;subst h;rfl)
theorem VR.kzh{x v}(h:VR D ρ lv x v)(hs:x.kzh=true):v.kzh=true:=by
 have one:∀{v:V},v.leaf=true->v.kzh=true:=λ{v} h=>by cases v <;> first|rfl|exact h
 cases x <;> simp[TV.kzh,TV.leaf,Bool.false_eq_true]at hs
 case agg cs=>simp[VR]at h;obtain⟨vs,rfl,h2⟩:=h;rfl
 case sl t xs fl=>simp[VR]at h;obtain⟨h,_⟩:=h;cases h <;> rfl
 case own s=>grind[VR]
 case ap s t i x off=>
  simp only[VR]at h;obtain⟨sl,w,h1,h2,h3,h4,h5⟩:=h;split at h5;subst h5;rfl;obtain⟨ver,n,_,h5⟩:=h5;subst h5;rfl
 case fn f a b=>simp[VR]at h;obtain⟨as,bs,rfl,_⟩:=h;rfl
 case iface t x=>simp[VR]at h;obtain⟨y,rfl,_⟩:=h;rfl
 case ref cs off=>simp[VR]at h;obtain⟨y,rfl,_⟩:=h;rfl
 case osl s lo=>simp[VR]at h;obtain⟨y,i,ver,_,_,_,_,_,h⟩:=h;rcases h with rfl|⟨_,sz,rfl⟩ <;> rfl
 case ptr s off=>simp[VR]at h;obtain⟨y,i,_,_,rfl⟩:=h;rfl
 case map s=>simp[VR]at h;obtain⟨y,i,_,_,rfl⟩:=h;rfl
 case mc t es=>simp[VR]at h;obtain⟨_,rfl⟩:=h;rfl
 case bp s off=>simp[VR]at h;obtain⟨y,i,_,_,rfl⟩:=h;rfl
 case dp s i off=>simp[VR]at h;obtain⟨y,j,ver,m,_,_,_,_,rfl⟩:=h;rfl
 case bsl q cs=>simp[VR]at h;obtain⟨vs,rfl,_⟩:=h;rfl
 all_goals (subst h;rfl)
theorem VR.zc4(v):VR D ρ lv (TV.zc4 v) (Go.Ab.zc4 v):=by
 unfold TV.zc4 Go.Ab.zc4;split <;> simp[VR]
theorem VRL.map{α:Type}(f)(g)(h:∀x,VR D ρ lv (f x) (g x)):∀l:List α,VRL D ρ lv (l.map f) (l.map g)
 |[]=>by simp[VRL]
 |x::l=>by exact⟨_,_,rfl,h x,VRL.map f g h l⟩
theorem VR.ofC(v):VR D ρ lv (TV.ofC v) (ofConst v):=by
 cases v with
 |agg cs=>
  simp[TV.ofC,ofConst];split;simp only[VR];exact⟨_,rfl,VRL.map _ _ VR.zc4 _⟩
  simp[VR]
 |tuple cs=>exact⟨_,rfl,VRL.map _ _ VR.zc4 _⟩
 |iface t v=>exact⟨_,rfl,VR.zc4 _⟩
 |_=>grind[TV.ofC,ofConst,VR.zc4]
theorem VR.leaf{t x v}(h:DR D t x v):VR D ρ lv (D.leaf t x) v:=by
 cases t with
 |bool=>cases h;simp[Dat.leaf,VR]
 |int k=>cases h;simp[Dat.leaf,VR]
 |str=>cases h;simp[Dat.leaf,VR]
 |nat=>simp[Dat.leaf,VR]
 |st i=>simp[Dat.leaf,VR]
 |sl t=>grind[Dat.leaf,VR]
variable {P : Program} (hD : D.Ok P)
include hD
theorem DR.agg{i}{x:D.T i}{v}(h:DR D (.st i) x v):∃vs,v = .agg vs∧vs.length=(D.fl i).length∧∀(j) (p) (u),HL.nth (D.fl i) (D.get i x) j=some p->vs[j]? = some u->DR D p.1 p.2 u:=by
 cases h with
 |st _ _ vs hl h=>grind
 |enc=>exact⟨_,hD.enc i x,yai _ _,λj p u hp hu=>by
  grind[ykf,DR.el]⟩
theorem VR.tv{t x v}(h:DR D t x v):VR D ρ lv (D.tv t x) v:=by
 cases t with
 |st i=>
  obtain⟨vs,rfl,h1,h2⟩:=DR.agg hD h;refine⟨vs,rfl,.of (by rw[zeh,h1]) λj c u hc hu =>?_⟩;rw[zgq,Qaf]at hc;obtain⟨p,hp,rfl⟩:=hc
  exact .leaf (h2 j p u hp hu)
 |bool=>exact VR.leaf h
 |int k=>exact VR.leaf h
 |str=>exact VR.leaf h
 |nat=>exact VR.leaf h
 |sl t=>exact VR.leaf h
omit hD in
theorem y1m{T a b x}{y:List (B8×b.S T)}(h:zvs a b x=some y):∃e:a=b,y=e▸x:=by
 grind[zvs]
omit hD in
theorem yea{α β:Type}:∀l:List (α×β),List.zip (l.map (·.1)) (l.map (·.2))=l
 |[]=>rfl
 |p::l=>by
  simp_all[List.zip]
omit hD in
theorem z8t{T a b x}{y:List (b.S T)}(h:zer a b x=some y):∃e:a=b,y=e▸x:=by
 grind[zer]
omit hD in
theorem zlv{t c x v}(h:zj4 D t c = .ok x)(hv:VR D ρ lv c v):DR D t x v:=by
 unfold zj4 at h;split at h;cases h;simp[VR]at hv;subst hv;exact .bool _;split at h
 rename_i hk;injection h with h;subst h;subst hk;simp[VR]at hv;subst hv;exact .int _ _
 cases h;cases h;simp[VR]at hv;subst hv;exact .str _;rename_i t t' xs fl
 cases hl:zer t' t xs with
 |none=>rw[hl]at h;cases h
 |some y=>
  rw[hl]at h;cases h;obtain⟨rfl,rfl⟩:=z8t hl;simp[VR]at hv;exact hv.1
 cases h;simp[VR]at hv;subst hv;exact .nil _;cases h;cases h
omit hD in
theorem znp:∀{l cs x vs},zb3 D l cs = .ok x->VRL D ρ lv cs vs->vs.length=l.length∧∀(j) (p) (u),HL.nth l x j=some p->vs[j]? = some u->DR D p.1 p.2 u
 |[],[],x,vs,h,hv=>by simp[VRL]at hv;grind
 |[],c::cs,x,vs,h,hv=>by simp[zb3]at h
 |t::l,[],x,vs,h,hv=>by simp[zb3]at h
 |t::l,c::cs,x,vs,h,hv=>by
  obtain⟨v,r,rfl,h1,h2⟩:=hv;simp[zb3]at h;split at h;rename_i y hy;split at h;rename_i ys hys;cases h;obtain⟨k1,k2⟩:=znp hys h2;refine⟨by simp[k1],λj p u hp hu =>?_⟩
  cases j with
  |zero=>grind[HL.nth,zlv]
  |succ j=>exact k2 j p u hp (by simpa using hu)
  cases h;cases h;cases h;cases h
theorem zj0{t c x v}(h:asD D t c = .ok x)(hv:VR D ρ lv c v):DR D t x v:=by
 unfold asD at h;split at h;rename_i i cs;split at h;rename_i y hy;cases h;simp[VR]at hv;obtain⟨vs,rfl,hv⟩:=hv;obtain⟨k1,k2⟩:=znp hy hv;exact .st i _ vs k1 (by rw[hD.getMake];exact k2);cases h;cases h;cases h;exact zlv h hv
theorem y2f{t}:∀{cs xs vs},ylk D t cs = .ok xs->VRL D ρ lv cs vs->vs.length=xs.length∧∀(j:Nat) (x) (w),xs[j]? = some x->vs[j]? = some w->DR D t x w
 |[],xs,vs,h,hv=>by simp[VRL]at hv;simp only[ylk]at h;grind
 |c::cs,xs,vs,h,hv=>by
  obtain⟨v,r,rfl,h1,h2⟩:=hv;simp[ylk]at h;split at h;rename_i y hy;split at h;rename_i ys hys;cases h;obtain⟨k1,k2⟩:=y2f hys h2
  grind[zj0]
  cases h;cases h;cases h;cases h
end
end
end Go.Ab
namespace Go.Ab
open Go
set_option linter.unusedVariables false
set_option linter.unusedSimpArgs false
structure Fr where
 lv:Nat
 E:Nat->Nat->Option kzg
 e0:Nat->Nat->Option kzg
 L0:List (Option kzg)
 out:Nat->Prop
 pin:List Slot
 gv:List V
theorem yqy{T S}(g:T->S)(k):∀ms:List (B8×T),z8a (ms.map λp=>(p.1,g p.2)) k=(z8a ms k).map g
 |[]=>rfl
 |p::ms=>by
  have ih:=yqy g k ms
  grind[z8a]
theorem ypn{T k x}:∀{ms:List (B8×T)},z8a ms k=some x->∃p∈ms,p.2=x
 |[],h=>by cases h
 |p::ms,h=>by
  unfold z8a at h;rw[List.find?_cons]at h;cases hk:k==p.1 <;> rw[hk]at h
  obtain⟨q,h1,h2⟩:=ypn (ms:=ms) (by unfold z8a;exact h)
  grind
  grind
theorem z01g{T S}(g:T->S)(k)(x)(ms):zc5 (ms.map λp=>(p.1,g p.2)) k (g x)=(zc5 ms k x).map λp=>(p.1,g p.2):=by
 unfold zc5;rw[List.findIdx?_map];show(match ms.findIdx? (λp=>k==p.1)with|none=>_|some j=>_)=_
 grind[List.map_set]
theorem z03c{T k x ms}{p:B8×T}(h:p∈zc5 ms k x):p=(k,x)∨p∈ms:=by
 grind[zc5]
inductive OM where
 |dat
 |own (ty:Nat)
 |el
def ywn:Option Nat->OM
 |none=>.dat
 |some ty=>.own ty
inductive DO (D:Dat) (lv:Nat) (L:List (Option kzg)):OM->(t:DTy)->t.S D.T->V->List Nat->Prop where
 |dat {t:DTy} {x:t.S D.T}{v:V}(h:DR D t x v):DO D lv L .dat t x v []
 |nil {ty:Nat} {t:DTy}{v:V}(h:DR D (.sl t) ([]:List (t.S D.T)) v) (hv:v = .nils∨v = .sl (D.len t) [] true):DO D lv L (.own ty) (.sl t) ([]:List (t.S D.T)) v []
 |own {ty:Nat} {t:DTy}{xs:List (t.S D.T)}{j ver:Nat}{cp:Option Nat}{ws:List V}{fps:List (List Nat)}(hL:L[j]? = some (some (.arr ver ty (D.len t) ws cp))) (hl:ws.length=xs.length) (hf:fps.length=xs.length)
  (he:∀(n:Nat) (x:t.S D.T) (w:V) (c:List Nat),xs[n]? = some x->ws[n]? = some w->fps[n]? = some c->DO D lv L .el t x w c):DO D lv L (.own ty) (.sl t) xs (.hs lv j ver 0 ws.length false) (j::fps.flatten)
 |el {i:Nat} {x:D.T i}{vs:List V}{cs:List (List Nat)}(hl:vs.length=(D.fl i).length) (hc:cs.length=(D.fl i).length)
  (h:∀(f:Nat) (p:(t:DTy)×t.S D.T) (u:V) (b:List Nat),HL.nth (D.fl i) (D.get i x) f=some p->vs[f]? = some u->cs[f]? = some b->DO D lv L (ywn (D.ow i f)) p.1 p.2 u b):DO D lv L .el (.st i) x (.agg vs) cs.flatten
 |elf {t:DTy} {x:t.S D.T}{v:V}(ht:∀i f,f<(D.fl i).length->t = .st i->D.ow i f=none) (h:DR D t x v):DO D lv L .el t x v []
section
variable (D : Dat) (ρ : List Slot) (lv : Nat) (L : List (Option kzg))
def z2h(h:Option (Int×Nat×Nat))(n f:Nat):Option Nat:=match h with
 |some (n',f',s)=>if n'.toNat=n∧f'=f then some s else none
 |none=>none
def EO(q)(h:Option (Int×Nat×Nat))(n:Nat)(x:D.T q)(w:V)(c:List Nat):Prop :=
 ∃(vs:List V) (cs:List (List Nat)),w = .agg vs∧vs.length=(D.fl q).length∧cs.length=(D.fl q).length∧c=cs.flatten ∧
  ∀(f) (p) (u) (b),HL.nth (D.fl q) (D.get q x) f=some p->vs[f]? = some u->cs[f]? = some b ->
   match z2h h n f with
   |some s=>b=[]∧(D.ow q f).isSome=true∧u.leaf=true∧∃sl',ρ[s]? = some sl'∧u=sl'.v
   |none=>DO D lv L (ywn (D.ow q f)) p.1 p.2 u b
def OR(sl:Slot):TO D.T->Prop
 |.cells cs=>∃i vs,sl.k=some i∧L[i]? = some (some (.cells vs))∧VRL D ρ lv cs vs
 |.acc ty t xs w=>sl.ws.length=xs.length∧(∀(j:Nat) (x) (v),xs[j]? = some x->sl.ws[j]? = some v->DR D t x v) ∧
  (match sl.k with
  |none=>(sl.v = .nils∧sl.ws=[])∨((sl.v = .sl (D.len t) sl.ws true∧t ≠ .int .u8)∧(w=true->sl.ws=[]))
  |some i=>∃ver cp,sl.v = .hs lv i ver 0 sl.ws.length false∧L[i]? = some (some (.arr ver ty (D.len t) sl.ws cp)))
 |.siter s pos=>∃i,sl.k=some i∧L[i]? = some (some (.siter s pos))
 |.mp ty t es=>∃(i:Nat) (ms:List (B8×(t.S D.T×V))),sl.k=some i∧es=ms.map (λp=>(p.1,p.2.1))∧(∀p∈ms,DR D t p.2.1 p.2.2)∧L[i]? = some (some (.map (ms.map λp=>(.str p.1,p.2.2))))
 |.mit t last es=>∃(i:Nat) (fs:List (B8×t.S D.T)) (vis:List Nat),sl.k=some i∧t.flat=true∧L[i]? = some (some (.mit (fs.map λp=>(.str p.1,y8t t p.2)) vis))∧(∀q∈vis,q<fs.length)∧es.Perm (((List.range fs.length).filter λq => !vis.contains q).filterMap λq=>fs[q]?)∧∀p,last=some p->∃(vis':List Nat) (j:Nat),vis=vis'++[j]∧fs[j]? = some p
 |.bld ty b=>∃i a c,sl.k=some i∧L[i]? = some (some (.arr 0 ty 2 [.agg [a,c]] (some 1)))∧(a = .nilp∨a = .ap lv i 0 0 0)∧VR D ρ lv (ymn b) c
 |.gone=>True
 |.rig=>sl.k=none∧sl.fp=[]∧sl.v.leaf=true
 |.deep ty q xs h=>sl.ws.length=xs.length∧(match sl.k with
  |none=>xs=[]∧(sl.v = .nils∨sl.v = .sl (D.len (.st q)) [] true)∧sl.fp=[]∧h=none
  |some j=>∃(ver:Nat) (cp:Option Nat) (fps:List (List Nat)),sl.v = .hs lv j ver 0 sl.ws.length false∧L[j]? = some (some (.arr ver ty (D.len (.st q)) sl.ws cp))∧fps.length=xs.length∧sl.fp=fps.flatten∧sl.fp.Nodup ∧
   (∀(n) (x) (w) (c),xs[n]? = some x->sl.ws[n]? = some w->fps[n]? = some c->EO D ρ lv L q h n x w c) ∧
   ∀n f s,h=some (n,f,s)->0<=n∧n.toNat<xs.length)
end
def TO.live{T}:TO T->Prop
 |.gone=>False
 |_=>True
def DfL(D:Dat)(ρ:List Slot)(lv:Nat):List (Nat×List (TV D.T))->List (Nat×List V)->Prop
 |[],ds=>ds=[]
 |p::r,ds=>∃vs s,ds=(p.1,vs)::s∧VRL D ρ lv p.2 vs∧DfL D ρ lv r s
theorem DfL.imp{D ρ ρ' lv}(f:List (TV D.T)->List (TV D.T))(hf:∀xs vs,VRL D ρ lv xs vs->VRL D ρ' lv (f xs) vs):∀{l ds},DfL D ρ lv l ds->DfL D ρ' lv (l.map λp=>(p.1,f p.2)) ds
 |[],ds,h=>h
 |p::r,ds,h=>by
  obtain⟨vs,s,h1,h2,h3⟩:=h;exact⟨vs,s,h1,hf _ _ h2,DfL.imp f hf h3⟩
theorem DfL.more{D ρ lv}(e){l ds}(h:DfL D ρ lv l ds):DfL D (ρ++e) lv l ds:=by
 have:=h.imp (ρ':=ρ++e) (λxs=>xs) (λxs vs k=>k.more e);simpa using this
structure TRr(D:Dat)(F:Fr)(ρ:List Slot)(ts:TS D.T)(σ:St):Prop where
 nx:ρ.length=ts.nx
 nt:σ.t.length=ts.nt
 tm:∀(j:Nat) (x:TV D.T),fnd ts.t j=some x->∃v,σ.t[j]? = some v∧VR D ρ F.lv x v
 ob:∀(s:Nat) (o:TO D.T),fnd ts.o s=some o->∃sl,ρ[s]? = some sl∧OR D ρ F.lv σ.H.L sl o
 inj:∀(s s':Nat) (o o':TO D.T) (sl sl':Slot) (i:Nat),fnd ts.o s=some o->fnd ts.o s'=some o'->o.live->o'.live->ρ[s]? = some sl->ρ[s']? = some sl'->sl.has i->sl'.has i->s=s'
 mine:∀(s:Nat) (o:TO D.T) (sl:Slot) (i:Nat),fnd ts.o s=some o->o.live->ρ[s]? = some sl->sl.has i->¬F.out i
 lv:σ.H.lv=F.lv
 E:σ.H.E=F.E
 e0:σ.e0=F.e0
 d:DfL D ρ F.lv ts.d σ.d
 out:∀i,F.out i->i<σ.H.L.length∧σ.H.L[i]? = F.L0[i]?
 pin:∀(j:Nat) (sl:Slot),F.pin[j]? = some sl->ρ[j]? = some sl
 fpl:∀(s:Nat) (o:TO D.T) (sl:Slot) (i:Nat),fnd ts.o s=some o->o.live->ρ[s]? = some sl->i∈sl.fp->sl.k≠some i∧∃a,σ.H.L[i]? = some (some a)
 g:∀(i s:Nat) (v:V),ts.g[i]? = some (some s)->F.gv[i]? = some v->VR D ρ F.lv (.own s) v
section
variable {P : Program} {D : Dat} {F : Fr} {ρ : List Slot} {ts : TS D.T} {σ : St} {lv : Nat}
theorem zfb{t off cs vs x}(hv:VRL D ρ lv cs vs)(h:tRd P t cs off=some x):∃v,rd P t vs off=some v∧VR D ρ lv x v:=by
 unfold tRd at h;unfold rd;split at h;cases h;rename_i heq;rw[heq];split at h;rename_i hl;cases h;refine⟨_,by simp only;rw[Qbq (by rw[<-hv.length];exact hl)],?_⟩;simp only[VR];exact⟨_,rfl,(hv.drop _).take _⟩;cases h;rename_i heq;rw[heq];split at h;rename_i hl;cases h;refine⟨_,by simp only;rw[Qbq (by rw[<-hv.length];exact hl)],?_⟩;simp only[VR];exact⟨_,rfl,(hv.drop _).take _⟩;cases h
 obtain⟨v,k1,k2⟩:=hv.get off x h
 grind
theorem TRr.ev(hR:TRr D F ρ ts σ){o x}(h:ts.ev o=some x):VR D ρ F.lv x (σ.ev o):=by
 cases o with
 |tmp t=>
  obtain⟨v,h1,h2⟩:=hR.tm t x h
  grind[St.ev]
 |const v=>simp[TS.ev,Qbn]at h;subst h;exact .ofC v
 |func f=>simp[TS.ev,Qbn]at h;subst h;exact⟨[],[],rfl,by simp[VRL],by simp[VRL]⟩
 |global g=>simp[TS.ev]at h
theorem TRr.evs(hR:TRr D F ρ ts σ):∀{l xs},ts.evs l=some xs->VRL D ρ F.lv xs (l.map σ.ev)
 |[],xs,h=>by grind[TS.evs,VRL]
 |o::l,xs,h=>by
  simp[TS.evs]at h;split at h;rename_i v vs hv hvs;cases h;simp only[VRL];exact⟨_,_,rfl,hR.ev hv,hR.evs hvs⟩;cases h
theorem TRr.get(hR:TRr D F ρ ts σ){i o}(h:σ.H.L[i]? = some (some o)):σ.H.get F.lv i=some o:=by
 unfold Heap.get;rw[Qbq hR.lv.symm,h];rfl
variable (hD : D.Ok P)
include hD
theorem VR.ymw{t x v}(h:DR D t x v):VRL D ρ lv (D.tv t x).cells v.cells:=by
 cases t with
 |nat=>cases h;simp only[Dat.tv,VRL];exact⟨_,_,rfl,by simp[VR],rfl⟩
 |st i=>exact(VR.tv hD h).cells rfl
 |bool=>exact(VR.tv hD h).cells rfl
 |int k=>exact(VR.tv hD h).cells rfl
 |str=>exact(VR.tv hD h).cells rfl
 |sl t=>exact(VR.tv hD h).cells rfl
theorem y7p(hR:TRr D F ρ ts σ){t a x va}(h:yva P D ts t a=some x)(ha:VR D ρ F.lv a va):∃v,zco P σ.H t va=some v∧VR D ρ F.lv x v:=by
 unfold yva at h;split at h;simp[VR]at ha;obtain⟨vs,rfl,hv⟩:=ha;exact zfb hv h;rename_i s off;split at h;rename_i cs ho;simp only[VR]at ha;obtain⟨sl,i,h1,h2,rfl⟩:=ha;obtain⟨sl',k1,k2⟩:=hR.ob s _ ho;rw[h1]at k1;cases k1;simp only[OR]at k2;obtain⟨i',vs,q1,q2,q3⟩:=k2;rw[h2]at q1;cases q1;simp[hR.get q2];exact zfb q3 h;cases h;rename_i s τ i y off;split at h;rename_i ty t' xs w ho;simp only[VR]at ha
 obtain⟨sl,u,h1,h2,h3,h4,h5⟩:=ha;obtain⟨sl',k1,k2⟩:=hR.ob s _ ho;rw[h1]at k1;cases k1;simp only[OR]at k2;obtain⟨q1,q2,q3⟩:=k2;have hc:=VR.ymw (ρ:=ρ) (lv:=F.lv) hD h4
 cases hk:sl.k with
 |none=>
  rw[hk]at h5;simp at h5;subst h5
  exact zfb hc h
 |some j=>
  rw[hk]at h5 q3;obtain⟨ver,n,e1,rfl⟩:=h5;obtain⟨ver',cp,e2,e3⟩:=q3;rw[e1]at e2;cases e2;simp[y0w,hR.get e3,h3,Option.bind_some];exact zfb hc h
 cases h;rename_i s off;split at h;rename_i ty b ho;simp only[VR]at ha;obtain⟨sl,i,h1,h2,rfl⟩:=ha;obtain⟨sl',k1,k2⟩:=hR.ob s _ ho;rw[h1]at k1;cases k1;simp only[OR]at k2;obtain⟨i',u,c,q1,q2,q3,q4⟩:=k2;rw[h2]at q1;cases q1
 have hv:VRL D ρ F.lv [.any,ymn b] [u,c]:=by
  simp only[VRL];exact⟨u,[c],rfl,by simp[VR],c,[],rfl,q4,rfl⟩
 obtain⟨v,w1,w2⟩:=zfb hv h;refine⟨v,?_,w2⟩;simp[y0w,hR.get q2,V.cells];exact w1;cases h;cases h
omit hD in
theorem y5u{s f x y vx}(h:y1s P s f x=some y)(hx:VR D ρ lv x vx):∃v,zbi P s f vx=some v∧VR D ρ lv y v:=by
 unfold y1s at h;unfold zbi;split at h;cases h;rename_i o ho;rw[ho];split at h;cases h;simp[VR]at hx ⊢;obtain⟨vs,rfl,hv⟩:=hx
 grind
 cases h;simp[VR]at hx ⊢;obtain⟨sl,i,h1,h2,rfl⟩:=hx
 grind
 cases h;simp[VR]at hx ⊢;obtain⟨sl,w,h1,h2,h3,h4,h5⟩:=hx
 cases hk:sl.k with
 |none=>rw[hk]at h5;simp at h5;subst h5;grind
 |some j=>rw[hk]at h5;obtain⟨ver,n,e1,rfl⟩:=h5;exact⟨_,rfl,sl,w,h1,h2,h3,h4,by grind⟩
 cases h;simp[VR]at hx ⊢;obtain⟨sl,i,h1,h2,rfl⟩:=hx
 grind
 cases h;simp[VR]at hx ⊢;obtain⟨sl,j,ver,m,h1,h2,h3,h4,rfl⟩:=hx
 grind
 cases h
omit hD in
theorem yk0{s f x y vx}(h:yu6 P s f x=some y)(hx:VR D ρ lv x vx):∃v,ybk P s f vx=some v∧VR D ρ lv y v:=by
 unfold yu6 at h;unfold ybk;split at h;rename_i fs hu;rw[hu];simp;split at h;rename_i fd hf;rw[hf];split at h;simp[VR]at hx;obtain⟨vs,rfl,hv⟩:=hx;exact zfb hv h;cases h;cases h;cases h
omit hD in
theorem ydz{i x y vx}(h:yc2 i x=some y)(hx:VR D ρ lv x vx):∃v,y4y i vx=some v∧VR D ρ lv y v:=by
 unfold yc2 at h;split at h;simp[VR]at hx;obtain⟨vs,rfl,hv⟩:=hx;exact hv.get i y h;cases h
omit hD in
theorem ytx{x y vx}(h:tNil x=some y)(hx:VR D ρ lv x vx):∃v,y64 vx=some v∧VR D ρ lv y v:=by
 unfold tNil at h;split at h;cases h;refine⟨vx,?_,hx⟩;simp[VR]at hx;obtain⟨sl,i,h1,h2,rfl⟩:=hx;rfl;cases h;refine⟨vx,?_,hx⟩;simp[VR]at hx;obtain⟨vs,rfl,hv⟩:=hx;rfl;cases h;refine⟨vx,?_,hx⟩;simp[VR]at hx;obtain⟨sl,w,h1,h2,h3,h4,h5⟩:=hx;split at h5;subst h5;rfl;obtain⟨ver,n,e1,rfl⟩:=h5;rfl;cases h;refine⟨vx,?_,hx⟩;simp[VR]at hx;obtain⟨sl,i,h1,h2,rfl⟩:=hx;rfl;cases h;refine⟨vx,?_,hx⟩
 simp[VR]at hx;obtain⟨sl,j,ver,m,h1,h2,h3,h4,rfl⟩:=hx;rfl;cases h;refine⟨vx,?_,hx⟩;simp[VR]at hx;obtain⟨as,bs,rfl,_⟩:=hx;rfl;cases h
omit hD in
theorem yxw{op x y vx}(h:tUn op x=some y)(hx:VR D ρ lv x vx):∃v,pUn op vx=some v∧VR D ρ lv y v:=by
 unfold tUn at h;split at h;cases h;simp[VR]at hx;subst hx;exact⟨_,rfl,by simp[VR]⟩;cases h;simp[VR]at hx;subst hx;exact⟨_,rfl,by simp[VR]⟩;cases h;simp[VR]at hx;subst hx;exact⟨_,rfl,by simp[VR]⟩;cases h
omit hD in
theorem ybj{s d x y vx}(h:ye9 P s d x=some y)(hx:VR D ρ lv x vx):∃v,zww P s d vx=some v∧VR D ρ lv y v:=by
 unfold ye9 at h;unfold zww;split at h;simp[VR]at hx;subst hx;split at h;rename_i h1 h2;cases h;simp only[h1,h2];exact⟨_,rfl,by simp[VR]⟩;cases h;simp[VR]at hx;subst hx;split at h;rename_i h1 h2;cases h;simp only[h1,h2];exact⟨_,rfl,by simp[VR]⟩;cases h;cases h
omit hD in
theorem y5e{u ok x y vx}(h:zvt P x u ok=some y)(hx:VR D ρ lv x vx):∃v,zk3 P vx u ok=some v∧VR D ρ lv y v:=by
 unfold zvt at h;unfold zk3;split at h;cases h;rename_i d t z hni hu;simp[VR]at hx;obtain⟨w,rfl,hw⟩:=hx;split at h;rename_i ht;cases h;rw[hu]
 cases d <;> first
  |exact(hni _ rfl).elim
  |(refine⟨_,by simp only;rw[Qbq ht],?_⟩
    cases ok;exact hw
    simp[VR,VRL];grind)
 cases h;cases h
omit hD in
theorem y0z{m xs vs y}(h:yae m xs=some y)(hx:VRL D ρ lv xs vs):∃v,zu2 m vs=some v∧VR D ρ lv y v:=by
 unfold yae at h;split at h;cases h;simp[VRL,VR]at hx;obtain⟨_,_,rfl,rfl,_,_,rfl,rfl,rfl⟩:=hx;exact⟨_,rfl,by simp[VR];cases m <;> rfl⟩;cases h;simp[VRL,VR]at hx;obtain⟨_,_,rfl,rfl,_,_,rfl,rfl,_,_,rfl,rfl,rfl⟩:=hx;exact⟨_,rfl,by simp[VR];cases m <;> rfl⟩;cases h
omit hD in
theorem TRr.parts(hR:TRr D F ρ ts σ):∀{l xs},y29 ts l=some xs->xs.map (·.1)=(l.map λp=>(p.1,σ.ev p.2)).map (·.1)∧VRL D ρ F.lv (xs.map (·.2)) ((l.map λp=>(p.1,σ.ev p.2)).map (·.2))
 |[],xs,h=>by grind[y29,VRL]
 |(i,o)::l,xs,h=>by
  simp[y29]at h;split at h;rename_i v vs hv hvs;cases h;obtain⟨h1,h2⟩:=hR.parts hvs;simp only[List.map_cons,VRL];exact⟨by rw[h1],_,_,rfl,hR.ev hv,h2⟩;cases h
omit hD in
theorem zvw{place}:∀{ps qs cs r vs},ps.map (·.1)=qs.map (·.1)->VRL D ρ lv (ps.map (·.2)) (qs.map (·.2))->VRL D ρ lv cs vs->yj5 place cs ps=some r->∃r',zxn place vs qs=some r'∧VRL D ρ lv r r'
 |[],[],cs,r,vs,_,_,hc,h=>by simp[yj5,Qbn]at h;subst h;exact⟨vs,rfl,hc⟩
 |[],q::qs,cs,r,vs,h1,_,_,_=>by simp at h1
 |p::ps,[],cs,r,vs,h1,_,_,_=>by simp at h1
 |(i,x)::ps,(i',v)::qs,cs,r,vs,h1,h2,hc,h=>by
  simp[List.cons.injEq]at h1;obtain⟨rfl,h1⟩:=h1;obtain⟨u,us,he,h2,h3⟩:=h2;cases he;simp only[yj5]at h;simp only[zxn];split at h;cases h;rename_i off size hp;split at h;rename_i hcond;simp[Qar]at hcond;have hcells:=h2.cells hcond.1.1;rw[hp];simp only;rw[Qbq (by simp[Qar];exact⟨⟨h2.kzh hcond.1.1,by rw[<-hcells.length];exact hcond.1.2⟩,by rw[<-hc.length];exact hcond.2⟩)]
  exact zvw h1 h3 (hc.kzt hcells off) h;cases h
omit hD in
theorem zk8{t x}(h:yjg P t=some x):∃v,zeroV P t=some v∧VR D ρ lv x v:=by
 unfold yjg at h;unfold zeroV;rw[Qaf]at h;obtain⟨z,hz,rfl⟩:=h;exact⟨_,by rw[hz];rfl,.ofC z⟩
omit hD in
theorem ym7{t ps qs y}(h1:ps.map (·.1)=qs.map (·.1))(h2:VRL D ρ lv (ps.map (·.2)) (qs.map (·.2)))(h:yst P t ps=some y):∃v,ybq P t qs=some v∧VR D ρ lv y v:=by
 unfold yst at h;unfold ybq;split at h;rename_i z hz;obtain⟨v,hv,hr⟩:=zk8 (ρ:=ρ) (lv:=lv) hz;simp[VR]at hr;obtain⟨vs,rfl,hr⟩:=hr;rw[hv];simp;split at h;rename_i fs hu;rw[hu];simp;split at h;rename_i places hp;rw[hp];rw[Qaf]at h;obtain⟨r,hr',rfl⟩:=h;obtain⟨r',k1,k2⟩:=zvw h1 h2 hr hr';exact⟨.agg r',by grind,by simp[VR];grind⟩;cases h;rename_i n e hu;rw[hu];simp only;split at h;rename_i hi;rw[Qbq hi]
 rw[Qaf]at h;obtain⟨r,hr',rfl⟩:=h;obtain⟨r',k1,k2⟩:=zvw h1 h2 hr hr';exact⟨.agg r',by grind,by simp[VR];grind⟩;cases h;cases h;cases h
omit hD in
theorem yto(hR:TRr D F ρ ts σ){t x y vx}(h:tLen P D ts t x=some y)(hx:VR D ρ F.lv x vx):∃v,zqd P σ.H t vx=some v∧VR D ρ F.lv y v:=by
 unfold tLen at h;split at h;split at h;rename_i hu;cases h;simp_all[VR];cases h;split at h;rename_i hu;cases h;simp_all[VR];cases h;split at h;rename_i hu;cases h;simp[VR]at hx;obtain⟨hx,_⟩:=hx
 cases hx with
 |nil=>simp_all[VR]
 |sl _ _ ws full hl hh=>simp_all[VR]
 cases h;split at h;rename_i hu ho;cases h;simp[VR]at hx;obtain⟨sl,h1,rfl,hleaf⟩:=hx;obtain⟨sl',k1,k2⟩:=hR.ob _ _ ho;rw[h1]at k1;cases k1;simp only[OR]at k2;obtain⟨q1,q2,q3⟩:=k2
 cases hk:sl.k with
 |none=>
  rw[hk]at q3
  rcases q3 with ⟨e1,e2⟩|⟨e1,e2⟩
  rw[e1,yju,hu];exact⟨_,rfl,by simp[VR];rw[<-q1,e2];rfl⟩;rw[e1.1,yv6,hu]
  exact⟨_,rfl,by simp[VR];rw[q1]⟩
 |some j=>
  rw[hk]at q3;obtain⟨ver,cp,e1,e2⟩:=q3;rw[e1];refine⟨.int .i64 sl.ws.length,?_,by simp[VR];rw[q1]⟩;simp[zqd,hu,hR.get e2,if_true]
 rename_i hu ho;cases h;simp[VR]at hx;obtain⟨sl,h1,rfl,hleaf⟩:=hx;obtain⟨sl',k1,k2⟩:=hR.ob _ _ ho;rw[h1]at k1;cases k1;simp only[OR]at k2;obtain⟨q1,q3⟩:=k2
 cases hk:sl.k with
 |none=>
  rw[hk]at q3;obtain⟨e1,e2,_⟩:=q3
  rcases e2 with e2|e2
  rw[e2,yju,hu];exact⟨_,rfl,by simp[VR];rw[e1];rfl⟩;rw[e2,yv6,hu]
  exact⟨_,rfl,by simp[VR];rw[e1];rfl⟩
 |some j=>
  rw[hk]at q3;obtain⟨ver,cp,fps,e1,e2,_⟩:=q3;rw[e1];refine⟨.int .i64 sl.ws.length,?_,by simp[VR];rw[q1]⟩;simp[zqd,hu,hR.get e2,if_true]
 cases h;split at h;rename_i hu;cases h;simp[VR]at hx;obtain⟨vs,rfl,_⟩:=hx;simp_all[VR];cases h;split at h;rename_i hu ho;cases h;simp only[VR]at hx;obtain⟨sl,i,h1,h2,rfl⟩:=hx;obtain⟨sl',k1,k2⟩:=hR.ob _ _ ho;rw[h1]at k1;cases k1;simp only[OR]at k2;obtain⟨i',ms,q1,q2,q4,q3⟩:=k2;rw[h2]at q1;cases q1;exact⟨_,by rw[z00d,hu];simp[hR.get q3];rfl,by simp[VR];rw[q2];simp⟩;cases h;cases h
omit hD in
theorem zjk:∀(ps) (k n),ps.map (·.1)=List.range' k n->zlt k ps=true
 |[],_,_,_=>rfl
 |(i,v)::r,k,n,h=>by
  cases n with
  |zero=>simp at h
  |succ n=>
   simp[List.range'_succ,List.cons.injEq]at h;simp[zlt,h.1,Bool.true_and];exact zjk r (k+1) n h.2
theorem zij{t len ps qs y}(h1:ps.map (·.1)=qs.map (·.1))(h2:VRL D ρ lv (ps.map (·.2)) (qs.map (·.2)))(h:zh4 P D t len ps = .ok y):∃v,zcp P t len qs=some v∧VR D ρ lv y v:=by
 unfold zh4 at h;unfold zcp;split at h;rename_i e hu;rw[hu];simp;split at h;rename_i z τ hz hτ;rw[hz];simp only;split at h;rename_i hc;simp only[Qag,beq_iff_eq,Qat]at hc;obtain⟨⟨⟨⟨⟨⟨⟨⟨c1,c2⟩,c3⟩,c4⟩,c5⟩,c6⟩,c7⟩,c8⟩,c9⟩:=hc;have hlen:=by have:=congrArg List.length h1;simpa using this
 split at h;rename_i q cells hrow;obtain⟨rfl,rfl⟩:=ys6 D hrow;cases h;have hql:=by omega
 have hall:∀p∈qs,p.2.kzh=true∧p.2.cells.length=P.cellsOf e:=λp hp=>by
  obtain⟨j,hj⟩:=Qbj hp;have hlt:j<[(0,TV.agg cells)].length:=by grind
  have hq:=c7 [(0,TV.agg cells)][j] (Qad hlt);have hr:VR D ρ lv [(0,TV.agg cells)][j].2 p.2:=h2.y1r (j:=j) (by grind) (by simp[hj]);exact⟨hr.kzh hq.1,by rw[<-(hr.cells hq.1).length];exact hq.2⟩
 have hcond:(z.kzh&&z.cells.length==P.cellsOf e&&decide (0<P.cellsOf e)&&(P.info? e).isSome&&qs.length==len&&zlt 0 qs&&qs.all (λp=>p.2.kzh&&p.2.cells.length==P.cellsOf e)&&decide (len * P.cellsOf e<=2 ^ 24))=true:=by
  simp[Qat]
  grind[zjk,List.range_eq_range']
 rw[Qbq hcond];refine⟨_,rfl,?_⟩;simp[Qbv]at c5;rw[Qbr (by omega),<-c9];simp[VR]
 grind
 rename_i hnorow;split at h;rename_i xs hxs;cases h;obtain⟨k1,k2⟩:=y2f hD hxs h2;have hql:=by omega
 have hall:∀p∈qs,p.2.kzh=true∧p.2.cells.length=P.cellsOf e:=λp hp=>by
  obtain⟨j,hj⟩:=Qbj hp;have hlt:j<ps.length:=by grind
  have hq:=c7 ps[j] (Qad hlt);have hr:VR D ρ lv ps[j].2 p.2:=h2.y1r (j:=j) (by simp[hlt]) (by simp[hj]);exact⟨hr.kzh hq.1,by rw[<-(hr.cells hq.1).length];exact hq.2⟩
 have hcond:(z.kzh&&z.cells.length==P.cellsOf e&&decide (0<P.cellsOf e)&&(P.info? e).isSome&&qs.length==len&&zlt 0 qs&&qs.all (λp=>p.2.kzh&&p.2.cells.length==P.cellsOf e)&&decide (len * P.cellsOf e<=2 ^ 24))=true:=by
  simp[Qat]
  grind[zjk,List.range_eq_range']
 rw[Qbq hcond];refine⟨_,rfl,?_⟩;simp[List.length_map]at k1;by_cases hl0:len=0;rw[Qbq hl0,Qbq hl0,<-c9];have:xs=[]:=Qao (by omega);subst this;simp only[VR];exact⟨.sl τ [] [] true rfl (by simp),λ_=>⟨[],rfl⟩,λ_=>trivial⟩;rw[Qbr hl0,Qbr hl0,<-c9];simp only[VR];exact⟨.sl τ xs _ true (by simpa using k1) k2,λ_=>⟨_,rfl⟩,by simp⟩;have hql:=by omega
 have hall:∀p∈qs,p.2.kzh=true∧p.2.cells.length=P.cellsOf e:=λp hp=>by
  obtain⟨j,hj⟩:=Qbj hp;have hlt:j<ps.length:=by grind
  have hq:=c7 ps[j] (Qad hlt);have hr:VR D ρ lv ps[j].2 p.2:=h2.y1r (j:=j) (by simp[hlt]) (by simp[hj]);exact⟨hr.kzh hq.1,by rw[<-(hr.cells hq.1).length];exact hq.2⟩
 have hcond:(z.kzh&&z.cells.length==P.cellsOf e&&decide (0<P.cellsOf e)&&(P.info? e).isSome&&qs.length==len&&zlt 0 qs&&qs.all (λp=>p.2.kzh&&p.2.cells.length==P.cellsOf e)&&decide (len * P.cellsOf e<=2 ^ 24))=true:=by
  simp[Qat]
  grind[zjk,List.range_eq_range']
 rw[Qbq hcond];split at h;rename_i s0 _ _ q cells;split at h;cases h;refine⟨_,rfl,?_⟩;simp[Qbv]at c5;rw[Qbr (by omega),<-c9];simp[VR]
 grind
 cases h;cases h;cases h;cases h;cases h;cases h;cases h
omit hD in
theorem FR.zos{α o}{a:α}(h:FR.of o = .ok a):o=some a:=by
 cases o with
 |none=>cases h
 |some b=>injection h with h;rw[h]
theorem yxm{t n c k1 k2 y}(h:tMk P D t n c = .ok y):∃v,zj2 P t (.int k1 n) (.int k2 c)=some v∧VR D ρ lv y v:=by
 unfold tMk at h;split at h
 case h_2=>cases h
 rename_i n c;split at h
 case h_2=>cases h
 rename_i e ht;split at h
 case h_2=>cases h
 rename_i i z τ hi hz hτ;split at h
 case h_2=>cases h
 rename_i hc;simp only[Qag]at hc;obtain⟨⟨⟨⟨⟨⟨c1,c2⟩,c3⟩,c4⟩,c5⟩,c6⟩,c7⟩:=hc;split at h
 case h_2=>cases h
 case h_3=>cases h
 rename_i x hx;cases h;obtain⟨v,b1,b2⟩:=zk8 (D:=D) (ρ:=ρ) (lv:=lv) hz;have hl:=(b2.cells c1).length;have hd:=zj0 hD hx b2;refine⟨.sl i.size (List.replicate n v) (Nat.beq n c),?_,?_⟩;simp[zj2,ht,hi,b1]
 have hb:(v.kzh&&Nat.beq v.cells.length i.size&&Nat.blt 0 i.size&&Nat.ble n c&&Nat.ble c 1000000&&Nat.ble i.bytes 100000)=true:=by
  simp only[Qag];exact⟨⟨⟨⟨⟨b2.kzh c1,by rw[<-hl];exact c2⟩,c3⟩,c4⟩,c5⟩,c6⟩
 rw[hb];rw[<-Qaj c7];refine⟨.sl _ _ _ _ (by simp) λj a w h1 h2 =>?_,λh=>by omega,λh=>by cases h⟩
 simp_all[Qbi]
theorem yjm(hR:TRr D F ρ ts σ){op x}(h:tP1 P D ts op = .ok x):∃v,pv P σ.H σ.ev op=some v∧VR D ρ F.lv x v:=by
 unfold tP1 at h;unfold pv;split at h;exact⟨_,rfl,hR.ev (FR.zos h)⟩;exact⟨_,rfl,hR.ev (FR.zos h)⟩;split at h;rename_i ha;exact y7p hD hR (FR.zos h) (hR.ev ha);cases h;split at h;rename_i ha;exact ytx (FR.zos h) (hR.ev ha);cases h;split at h;rename_i ha;exact yxw (FR.zos h) (hR.ev ha);cases h;split at h;rename_i ha;exact ybj (FR.zos h) (hR.ev ha);cases h;split at h;rename_i ha;split at h;rename_i hc;cases h
 exact⟨_,by simp only[zic];rw[Qbq hc],by simp only[VR];exact⟨_,rfl,hR.ev ha⟩⟩;cases h;cases h;split at h;rename_i ha hb;cases h;exact⟨_,rfl,by simp only[VR];exact⟨_,_,rfl,hR.evs ha,hR.evs hb⟩⟩;cases h;split at h;rename_i ha;exact y5u (FR.zos h) (hR.ev ha);cases h;split at h;rename_i ha;exact yk0 (FR.zos h) (hR.ev ha);cases h;split at h;rename_i ha;exact y5e (FR.zos h) (hR.ev ha);cases h;split at h
 rename_i ha;exact ydz (FR.zos h) (hR.ev ha);cases h;split at h;rename_i ha;obtain⟨h1,h2⟩:=hR.parts ha;exact ym7 h1 h2 (FR.zos h);cases h;split at h;rename_i ha;obtain⟨h1,h2⟩:=hR.parts ha;exact zij hD h1 h2 (ysn _ h);cases h;split at h;rename_i ha hb;have e1:=hR.ev ha;have e2:=hR.ev hb
 simp_all[VR,yxm]
 cases h;unfold zda;split at h;rename_i hcal;split at h;rename_i o t hargs htys;split at h;rename_i ha;simp[hcal,hargs,htys];exact yto hR (FR.zos h) (hR.ev ha);cases h;cases h;rename_i hcal;split at h;rename_i ha;simp[hcal];exact y0z (FR.zos h) (hR.evs ha);cases h;rename_i hcal;split at h;rename_i ha;simp[hcal];exact y0z (FR.zos h) (hR.evs ha);cases h;cases h;cases h
end
set_option linter.unusedSectionVars false
def zub(H:Heap):Heap:=⟨H.lv,[],λ_ _=>none⟩
def noGh(g:Gh):Gh:={g with dom:=λ_ _=>False}
theorem zng(H)(l i):(zub H).get l i=none:=by
 unfold Heap.get zub;split <;> simp
theorem yv2{g H b}:¬Own g (zub H) b:=λ⟨l,i,o,ho,_⟩=>by rw[zng]at ho;cases ho
theorem yx4{W g H}(h:Good W g H):Good W (noGh g) (zub H) :=
 ⟨λl i o ho=>(by rw[zng]at ho;cases ho),λl i o ho=>(by rw[zng]at ho;cases ho),λl i o l' i' o' ho=>(by rw[zng]at ho;cases ho),λl i hd=>hd.elim,λl i o ho=>(by rw[zng]at ho;cases ho),h.zns.y86 (λb hb=>(yv2 hb).elim),h.base⟩
theorem z00r{W g H v u c}(hG:Good W g H)(h:VS H (λ_ _=>False) v u)(hr:Rel W g H v c):Rel W (noGh g) (zub H) u c :=
 VS.rel hG (λ_ _ h=>h.elim) (λ_ _ h=>h.elim) (λ_ _ h=>h.elim) (λ_ _ h=>h.elim) (λ_ _ h=>h.elim) (λb hb=>(yv2 hb).elim) (λi o _ hb=>yv2 hb) h hr
inductive VFl:V->Prop where
 |bool (b:Bool):VFl (.bool b)
 |int (k:IntKind) (n:Int):VFl (.int k n)
 |str (s:B8):VFl (.str s)
 |tup (vs:List V) (h:∀(j:Nat) (v:V),vs[j]? = some v->VFl v):VFl (.tup vs)
theorem VFl.rel{v}(h:VFl v){W W' g g' H H'}:∀{c},Rel W g H v c->Rel W' g' H' v c:=by
 induction h with
 |bool b=>intro c hc;cases hc;exact .bool _
 |int k n=>intro c hc;cases hc;exact .int _ _
 |str s=>intro c hc;cases hc;exact .str _
 |tup vs h ih=>
  intro c hc
  cases hc with
  |tup _ cs hn hr=>exact .tup vs cs hn λj v hj=>ih j v hj (hr j v hj)
theorem yn0{P f vs us r H}(hc:zpq P f us r)(h:VSL H (λ_ _=>False) vs us)(hr:VFl r):y0g P f vs H r H:=λW g cargs hG hA=>by
 have hlen:=h.length
 have hA':zk0 W (noGh g) (zub H) us cargs:=⟨hA.1.trans hlen,λj u hj=>by
  have hlt:=(Qaa.1 hj).1;have hv:vs[j]? = some (vs[j]'(by omega)):=Qab _
  exact z00r hG (h.get j _ u hv hj) (hA.2 j _ hv)⟩
 have grow:∀{W':World}{g':Gh},Step W (noGh g) (zub H) W' g' (zub H)->Grow W W':=λst=>⟨st.os,st.tape,st.output,st.size,λb hb=>st.block b hb yv2⟩
 rcases hc (zub H) W (noGh g) cargs (yx4 hG) hA' with ⟨e,hcalls⟩|⟨c,W',g',e,st,gd,rl⟩
 exact .inl ⟨e,hcalls.mono λe W' ⟨c,g',e1,st,gd,rl⟩=>⟨c,g,e1,(grow st).step,hG.grow (grow st),hr.rel rl⟩⟩;exact .inr ⟨c,W',g,e,(grow st).step,hG.grow (grow st),hr.rel rl⟩
section
variable {P : Program} {D : Dat} {F : Fr} {ρ : List Slot} {ts : TS D.T} {σ : St} {lv : Nat} {L : List (Option kzg)} {E : Nat → Nat → Option kzg}
theorem zjy{α:Type}{Q:Nat->α->Prop}:∀n:Nat,(∀j,j<n->∃a,Q j a)->∃l:List α,l.length=n∧∀j a,l[j]? = some a->Q j a
 |0,_=>⟨[],rfl,λj a h=>by simp at h⟩
 |n+1,h=>by
  obtain⟨l,h1,h2⟩:=zjy n λj hj=>h j (by omega)
  obtain⟨a,ha⟩:=h n (by omega);refine⟨l++[a],by simp[h1],λj b hb =>?_⟩
  grind
theorem DR.kin(hD:D.Ok P){t x v}(h:DR D t x v)(Dm):V.kin Dm v:=by
 induction h with
 |bool|int|str|nat|nil=>simp[V.kin]
 |sl t xs ws full hl h ih=>
  exact zff λw hw=>by
   obtain⟨j,hj⟩:=Qbj hw;have hlt:=(Qaa.1 hj).1
   exact ih j _ w (Qab (by omega)) hj
 |st i x vs hl h ih=>
  exact zff λw hw=>by
   obtain⟨j,hj⟩:=Qbj hw;have hlt:=(Qaa.1 hj).1;obtain⟨p,hp,_⟩:=HL.zkl (D.fl i) (D.get i x) j (by omega)
   exact ih j p w hp hj
 |enc i x=>exact hD.kin i x Dm
def Seen(H:Heap):OM->V->V->Prop
 |.el,v,u=>v.cells.length=u.cells.length∧∀(j:Nat) (a b),v.cells[j]? = some a->u.cells[j]? = some b->VS H (λ_ _=>False) a b
 |.dat,v,u=>VS H (λ_ _=>False) v u
 |.own _,v,u=>VS H (λ_ _=>False) v u
theorem DO.see(hD:D.Ok P){m:OM}{t:DTy}{x:t.S D.T}{v:V}{fp:List Nat}(h:DO D lv L m t x v fp) :
  ∃u,DR D t x u∧Seen ⟨lv,L,E⟩ m v u:=by
 induction h with
 |dat h=>exact⟨_,h,.keep _ (h.kin hD _)⟩
 |nil h hv=>exact⟨_,h,.keep _ (h.kin hD _)⟩
 | @own ty t xs j ver cp ws fps hL hl hf he ih=>
   obtain⟨us,e1,e2⟩:=zjy (Q:=λn u=>∀(x:t.S D.T) (w:V),xs[n]? = some x->ws[n]? = some w->DR D t x u∧w.cells.length=u.cells.length∧∀(j:Nat) (a b:V),w.cells[j]? = some a->u.cells[j]? = some b->VS ⟨lv,L,E⟩ (λ_ _=>False) a b) xs.length λn hn=>by
    obtain⟨u,h1,h2⟩:=ih n _ _ _ (Qab hn) (Qab (show n<ws.length by omega)) (Qab (show n<fps.length by omega));refine⟨u,λx w hx hw =>?_⟩
    rw[Qab hn]at hx;injection hx with hx;subst hx
    rw[Qab (show n<ws.length by omega)]at hw;injection hw with hw;subst hw
    exact⟨h1,h2⟩
   refine⟨.sl (D.len t) us false,.sl t xs us false e1 λn x u hx hu =>?_,?_⟩;have hn:=(Qaa.1 hx).1;exact(e2 n u hu x _ hx (Qab (show n<ws.length by omega))).1;refine .hs lv j ver ty (D.len t) 0 ws.length false ws us cp rfl ?_ (by omega) (λn w u hw hu =>?_) λn w u c a b hw hu ha hb =>?_
   show(if lv=lv then (L[j]?).join else _)=_;rw[Qbq rfl,hL];rfl;rw[Nat.zero_add]at hw;have hn:=(Qaa.1 hw).1;exact(e2 n u hu _ w (Qab (show n<xs.length by omega)) hw).2.1;rw[Nat.zero_add]at hw;have hn:=(Qaa.1 hw).1
   exact(e2 n u hu _ w (Qab (show n<xs.length by omega)) hw).2.2 c a b ha hb
 | @el i x vs cs hl hc h ih=>
   obtain⟨us,e1,e2⟩:=zjy (Q:=λf u=>∀(p:(t:DTy)×t.S D.T) (w:V),HL.nth (D.fl i) (D.get i x) f=some p->vs[f]? = some w->DR D p.1 p.2 u∧VS ⟨lv,L,E⟩ (λ_ _=>False) w u) (D.fl i).length λf hf=>by
    obtain⟨p,hp,_⟩:=HL.zkl (D.fl i) (D.get i x) f hf;obtain⟨u,h1,h2⟩:=ih f p _ _ hp (Qab (show f<vs.length by omega)) (Qab (show f<cs.length by omega));refine⟨u,λp' w hp' hw =>?_⟩
    rw[hp]at hp';injection hp' with hp';subst hp'
    rw[Qab (show f<vs.length by omega)]at hw;injection hw with hw;subst hw
    refine⟨h1,?_⟩
    cases how:D.ow i f with
    |none=>rw[how]at h2;exact h2
    |some ty=>rw[how]at h2;exact h2
   refine⟨.agg us,.st i x us e1 λf p u hp hu =>?_,?_⟩;have hf:=(HL.zg4 _ _ _ _ hp).1;exact(e2 f u hu p _ hp (Qab (show f<vs.length by omega))).1;refine⟨by show vs.length=us.length;omega,λf a b ha hb =>?_⟩;replace ha:vs[f]? = some a:=ha;replace hb:us[f]? = some b:=hb;have hf:=(Qaa.1 ha).1;obtain⟨p,hp,_⟩:=HL.zkl (D.fl i) (D.get i x) f (by omega)
   exact(e2 f b hb p a hp ha).2
 |elf ht h=>exact⟨_,h,rfl,λj a b ha hb=>by rw[ha]at hb;injection hb with hb;subst hb;exact .keep _ (zb7 (zsx (h.kin hD _)) j a ha)⟩
end
section
variable {P : Program} {D : Dat} {F : Fr} {ρ : List Slot} {ts : TS D.T} {σ : St} {lv : Nat}
mutual
theorem y1p:∀{d t:Nat}{x y:TV D.T}{vx vy:V}{b:Bool},yr0 P d t x y=some b->VR D ρ lv x vx->VR D ρ lv y vy->eqv P d t vx vy=some b
 |0,t,x,y,vx,vy,b,h,hx,hy=>by simp[yr0]at h
 |d+1,t,x,y,vx,vy,b,h,hx,hy=>by
  simp only[yr0]at h;split at h;simp only[VR]at hx hy;subst hx;subst hy;(simp only[eqv];split at h <;> first|(rename_i hu;simp only[hu];exact h)|cases h);simp only[VR]at hx hy;subst hx;subst hy;(simp only[eqv];split at h <;> first|(rename_i hu;simp only[hu];exact h)|cases h);simp only[VR]at hx hy;subst hx;subst hy;(simp only[eqv];split at h <;> first|(rename_i hu;simp only[hu];exact h)|cases h)
  simp only[VR]at hx hy;obtain⟨xs,rfl,hx⟩:=hx;obtain⟨ys,rfl,hy⟩:=hy;simp only[eqv];split at h;rename_i hu;simp only[hu];split at h;cases h;rename_i hs;rw[Qbr hs];exact zwv h hx hy;cases h;simp only[VR]at hx hy;subst hx;subst hy;(simp only[eqv];split at h <;> first|(rename_i hu;simp only[hu];exact h)|cases h)
  simp only[VR]at hx hy;subst hx;obtain⟨_,_,_,_,rfl⟩:=hy;(simp only[eqv];split at h <;> first|(rename_i hu;simp only[hu];exact h)|cases h);simp only[VR]at hx hy;subst hx;obtain⟨_,rfl,_⟩:=hy;(simp only[eqv];split at h <;> first|(rename_i hu;simp only[hu];exact h)|cases h)
  simp only[VR]at hx hy;subst hy;obtain⟨_,_,_,_,rfl⟩:=hx;(simp only[eqv];split at h <;> first|(rename_i hu;simp only[hu];exact h)|cases h);simp only[VR]at hx hy;subst hy;obtain⟨_,rfl,_⟩:=hx;(simp only[eqv];split at h <;> first|(rename_i hu;simp only[hu];exact h)|cases h);simp only[VR]at hx hy;subst hx;subst hy;(simp only[eqv];split at h <;> first|(rename_i hu;simp only[hu];exact h)|cases h)
  simp only[VR]at hx hy;subst hx;subst hy;(simp only[eqv];split at h <;> first|(rename_i hu;simp only[hu];exact h)|cases h);simp only[VR]at hx hy;subst hx;obtain⟨_,_,rfl,_⟩:=hy;(simp only[eqv];split at h <;> first|(rename_i hu;simp only[hu];exact h)|cases h);simp only[VR]at hx hy;subst hy;obtain⟨_,_,rfl,_⟩:=hx;(simp only[eqv];split at h <;> first|(rename_i hu;simp only[hu];exact h)|cases h)
  simp only[VR]at hx hy;subst hx;obtain⟨_,rfl,_⟩:=hy;(simp only[eqv];split at h <;> first|(rename_i hu;simp only[hu];exact h)|cases h);simp only[VR]at hx hy;subst hy;obtain⟨_,rfl,_⟩:=hx;(simp only[eqv];split at h <;> first|(rename_i hu;simp only[hu];exact h)|cases h);cases h
theorem zwv:∀{d:Nat}{fs:List Field}{xs ys:List (TV D.T)}{vx vy:List V}{b:Bool},yer P d fs xs ys=some b->VRL D ρ lv xs vx->VRL D ρ lv ys vy->yi2 P d fs vx vy=some b
 |0,fs,xs,ys,vx,vy,b,h,hx,hy=>by simp[yer]at h
 |d+1,[],xs,ys,vx,vy,b,h,hx,hy=>by simpa only[yi2,yer]using h
 |d+1,f::fs,xs,ys,vx,vy,b,h,hx,hy=>by
  simp only[yer]at h;simp only[yi2];split at h;rename_i hf;rw[Qbq hf];exact zwv h hx hy;rename_i hf;rw[Qbr hf];split at h;rename_i a c ha hc;obtain⟨va,k1,k2⟩:=zfb hx ha;obtain⟨vc,k3,k4⟩:=zfb hy hc;rw[k1,k3];split at h;rename_i r s hr hs;simp only[y1p hr k2 k4,zwv hs hx hy];exact h;cases h;cases h
end
theorem ypt{t x y vx vy b}(h:yr0 P 24 t x y=some b)(ho:(x.odd&&y36 P t x y)=true)(hx:VR D ρ lv x vx)(hy:VR D ρ lv y vy) :
  (∀k k' a c,vx = .int k a->vy = .int k' c->False)∧(∀a c,vx = .str a->vy = .str c->False)∧(vx.odd&&zlm P t vx vy)=true:=by
 simp[yr0]at h;split at h <;> (try simp[TV.odd,y36,Bool.true_and]at ho) <;> (try simp[VR]at hx hy)
 subst hx;subst hy;exact⟨by simp,by simp,rfl⟩;obtain⟨xs,rfl,hx⟩:=hx;obtain⟨ys,rfl,hy⟩:=hy
 grind[V.odd,zlm]
 subst hx;subst hy;exact⟨by simp,by simp,rfl⟩;subst hx;obtain⟨_,_,_,_,rfl⟩:=hy;exact⟨by simp,by simp,rfl⟩;subst hx;obtain⟨_,rfl,_⟩:=hy;exact⟨by simp,by simp,rfl⟩;subst hy;obtain⟨_,_,_,_,rfl⟩:=hx;exact⟨by simp,by simp,rfl⟩;subst hy;obtain⟨_,rfl,_⟩:=hx;exact⟨by simp,by simp,rfl⟩;subst hx;subst hy;exact⟨by simp,by simp,rfl⟩;subst hx;subst hy;exact⟨by simp,by simp,rfl⟩
 subst hx;obtain⟨_,_,rfl,_⟩:=hy;exact⟨by simp,by simp,rfl⟩;subst hy;obtain⟨_,_,rfl,_⟩:=hx;exact⟨by simp,by simp,rfl⟩;subst hx;obtain⟨_,rfl,_⟩:=hy;exact⟨by simp,by simp,rfl⟩;subst hy;obtain⟨_,rfl,_⟩:=hx;exact⟨by simp,by simp,rfl⟩;cases h
theorem z1p{α o β}{f:α->Option β}{r}(h:z82 o f=some r):∃x,o=some x∧f x=some r:=zqg h
theorem z001{t x y b}(h1:∀k k' a c,x = .int k a->y = .int k' c->False)(h2:∀a c,x = .str a->y = .str c->False)(h3:(x.odd&&zlm P t x y)=true)(h4:eqv P 24 t x y=some b):y7e P .eql t x y=some (.bool b):=by
 unfold y7e;split
 grind
 grind
 grind
theorem z00k{t x y b}(h1:∀k k' a c,x = .int k a->y = .int k' c->False)(h2:∀a c,x = .str a->y = .str c->False)(h3:(x.odd&&zlm P t x y)=true)(h4:eqv P 24 t x y=some b):y7e P .neq t x y=some (.bool (!b)):=by
 unfold y7e;split
 grind
 grind
 grind
theorem yse{R op t x y vx vy k}{r:R}(h:tBin P op t x y k=some r)(hx:VR D ρ lv x vx)(hy:VR D ρ lv y vy) :
  ∃z v,y7e P op t vx vy=some v∧VR D ρ lv z v∧k z=some r:=by
 unfold tBin at h;split at h
 ·rename_i i a i' b;simp[VR]at hx hy;subst hx;subst hy;split at h;obtain⟨z,h1,h2⟩:=z1p h;unfold shl at h1;split at h1;cases h1;rename_i hb;cases h1;exact⟨_,_,by simp only[y7e];rw[Qbr hb],by simp[VR],h2⟩;obtain⟨z,h1,h2⟩:=z1p h;unfold shr at h1;split at h1;cases h1;rename_i hb;cases h1;exact⟨_,_,by simp only[y7e];rw[Qbr hb],by simp[VR],h2⟩
  ·rename_i hn1 hn2;split at h
   ·rename_i hi;subst hi
    have key:∀v,yb7 op i a b=some v->y7e P op t (.int i a) (.int i b)=some v:=λv hv=>by
     unfold y7e
     cases op <;> first|exact(hn1 rfl).elim|exact(hn2 rfl).elim|grind
    split at h
    all_goals first
     |(refine⟨_,_,key _ rfl,by simp[VR],h⟩;done)
     |skip
    obtain⟨z,h1,h2⟩:=z1p h;obtain⟨h3,rfl⟩:=z02f h1;exact⟨_,_,key _ (by simp only[yb7];rw[Qbr h3]),by simp[VR],h2⟩;obtain⟨z,h1,h2⟩:=z1p h;obtain⟨h3,rfl⟩:=yyz h1;exact⟨_,_,key _ (by simp only[yb7];rw[Qbr h3]),by simp[VR],h2⟩;cases h
   cases h
 rename_i a b;simp[VR]at hx hy;subst hx;subst hy;split at h;obtain⟨z,h1,h2⟩:=z1p h;obtain⟨h3,rfl⟩:=z035 h1;exact⟨_,_,by simp only[y7e,ytk];rw[Qbq h3],by simp[VR],h2⟩;exact⟨_,_,rfl,by simp[VR],h⟩;exact⟨_,_,rfl,by simp[VR],h⟩;exact⟨_,_,rfl,by simp[VR],h⟩;exact⟨_,_,rfl,by simp[VR],h⟩;exact⟨_,_,rfl,by simp[VR],h⟩;exact⟨_,_,rfl,by simp[VR],h⟩;cases h;split at h;split at h;rename_i ho;split at h;rename_i b hb
 obtain⟨h1,h2,h3⟩:=ypt hb ho hx hy;exact⟨_,_,z001 h1 h2 h3 (y1p hb hx hy),by simp[VR],h⟩;cases h;cases h;split at h;rename_i ho;split at h;rename_i b hb;obtain⟨h1,h2,h3⟩:=ypt hb ho hx hy;exact⟨_,_,z00k h1 h2 h3 (y1p hb hx hy),by simp[VR],h⟩;cases h;cases h;cases h
variable (hD : D.Ok P)
include hD
omit hD in
theorem ysy{t xs}{ws:List V}(hl:ws.length=xs.length)(h:∀(j:Nat) (x:t.S D.T) (w:V),xs[j]? = some x->ws[j]? = some w->DR D t x w){n y}(hy:ix xs n=some y):0<=n∧n.toNat<ws.length∧∃w,ws[n.toNat]? = some w∧DR D t y w:=by
 obtain⟨h1,h2⟩:=zje hy;have hlt:n.toNat<ws.length:=by grind
 exact⟨h1,hlt,ws[n.toNat],Qab hlt,h _ _ _ h2 (Qab hlt)⟩
omit hD in
theorem y0u{R r}:∀{len:Nat}{n} {f:Nat->Option R},0<=n->n<(len:Int)->y3s len n f=some r->∃m,m<len∧n=Int.ofNat m∧f m=some r
 |0,_,_,_,_,h=>by cases h
 |1,n,f,h0,h1,h=>⟨0,by omega,by grind,h⟩
 |len+2,n,f,h0,h1,h=>by
  simp[y3s]at h;rw[yag]at h;split at h
  grind
  rename_i hc;have hne:=by simpa using hc
  obtain⟨m,h2,h3,h4⟩:=y0u h0 (by omega) h
  grind
omit hD in
theorem y1j{R}{t len e:Nat}{ik H x vx k}{r:R}{m}(hu:P.underlying t=some (.array len e))(h:yal P len e x k m=some r)(hx:VR D ρ lv x vx) :
  ∃z v,yzo P H t vx (.int ik (Int.ofNat m))=some v∧VR D ρ lv z v∧k z=some r:=by
 unfold yal at h;split at h;rename_i hc;have hn0:=Int.natCast_nonneg m;have hlt:=Int.ofNat_lt.2 hc.1;split at h;rename_i cs off;simp[VR]at hx;obtain⟨vs,rfl,hv⟩:=hx;exact⟨_,.ref vs (off+m * P.cellsOf e),by simp_all[yzo],by simp[VR];grind,h⟩;rename_i s off;simp only[VR]at hx;obtain⟨sl,j,h1,h2,rfl⟩:=hx;exact⟨_,.ptr lv j (off+m * P.cellsOf e),by simp_all,by simp[VR];grind,h⟩;rename_i s τ i' x' off;simp only[VR]at hx
 obtain⟨sl,w,h1,h2,h3,h4,h5⟩:=hx
 cases hk:sl.k with
 |none=>
  rw[hk]at h5;simp at h5;subst h5
  exact⟨_,.ref w.cells (off+m * P.cellsOf e),by simp_all[yzo],by grind[VR],h⟩
 |some j=>
  rw[hk]at h5;obtain⟨ver,n,e1,rfl⟩:=h5;exact⟨_,.ap lv j ver i'.toNat (off+m * P.cellsOf e),by simp_all[yzo],by simp only[VR];exact⟨sl,w,h1,h2,h3,h4,by grind⟩,h⟩
 cases h;cases h
theorem y6l{R}(hR:TRr D F ρ ts σ){t x i vx vi k}{r:R}(h:y2g P D ts t x i k=some r)(hx:VR D ρ F.lv x vx)(hi:VR D ρ F.lv i vi) :
  ∃z v,yzo P σ.H t vx vi=some v∧VR D ρ F.lv z v∧k z=some r:=by
 unfold y2g at h;split at h;rename_i ik n;simp[VR]at hi;subst hi;split at h;rename_i e hu;split at h;rename_i he;split at h;rename_i τ xs fl;split at h;rename_i hz;obtain⟨y,hy,h⟩:=z1p h;simp[VR]at hx;obtain⟨hx,_⟩:=hx
 cases hx with
 |nil=>obtain⟨_,h2⟩:=zje hy;simp at h2
 |sl _ _ ws full hl hh=>
  obtain⟨h1,h2,w,h3,h4⟩:=ysy hl hh hy;refine⟨_,.ref w.cells 0,?_,?_,h⟩
  simp_all
  simp only[VR];exact⟨_,rfl,VR.ymw hD h4⟩
 cases h;rename_i s;split at h;rename_i ty τ xs w ho;split at h;rename_i hz;obtain⟨y,hy,h⟩:=z1p h;simp[VR]at hx;obtain⟨sl,h1,rfl,hleaf⟩:=hx;obtain⟨sl',k1,k2⟩:=hR.ob _ _ ho;rw[h1]at k1;cases k1;simp only[OR]at k2;obtain⟨q1,q2,q3⟩:=k2;obtain⟨p1,p2,u,p3,p4⟩:=ysy q1 q2 hy
 cases hk:sl.k with
 |none=>
  rw[hk]at q3
  rcases q3 with ⟨e1,e2⟩|⟨e1,e2⟩
  grind
  refine⟨_,.ref u.cells 0,?_,?_,h⟩
  simp_all
  grind[VR]
 |some j=>
  rw[hk]at q3;obtain⟨ver,cp,e1,e2⟩:=q3;refine⟨_,.ap F.lv j ver n.toNat 0,?_,?_,h⟩;rw[e1];unfold yzo;simp only;rw[Qbq p1,hu];simp only[hR.get e2];rw[Qbq ⟨trivial,hz,he,by omega⟩];simp
  grind[VR]
 cases h;rename_i ty q xs hh ho;split at h;rename_i hz;obtain⟨y,hy,h⟩:=z1p h;simp[VR]at hx;obtain⟨sl,h1,rfl,hleaf⟩:=hx;obtain⟨sl',k1,k2⟩:=hR.ob _ _ ho;rw[h1]at k1;cases k1;simp only[OR]at k2;obtain⟨q1,q3⟩:=k2;obtain⟨p1,p2⟩:=zje hy;have hlt:n.toNat<sl.ws.length:=by grind
 cases hk:sl.k with
 |none=>
  grind
 |some j=>
  rw[hk]at q3;obtain⟨ver,cp,fps,e1,e2,_⟩:=q3;refine⟨_,.ap F.lv j ver n.toNat 0,?_,?_,h⟩;rw[e1];unfold yzo;simp only;rw[Qbq p1,hu];simp[hR.get e2]
  grind
  grind[VR]
 cases h;cases h;cases h;cases h;rename_i len e hu;split at h;obtain⟨_,hr,h⟩:=z1p h;unfold inR at hr;split at hr;rename_i hc;obtain⟨m,hm,rfl,h2⟩:=y0u hc.1 hc.2 h;exact y1j hu h2 hx;cases hr;split at h;exact y1j hu h hx;cases h;cases h;cases h
omit hD in
theorem yqz{t}:∀{cs xs},ylk D t cs = .ok xs->xs.length=cs.length
 |[],xs,h=>by grind[ylk]
 |c::cs,xs,h=>by
  simp[ylk]at h;split at h;split at h;rename_i ys hys;cases h;simp[yqz hys];cases h;cases h;cases h;cases h
theorem ymj{R t x i vx vi k}{r:R}(h:yuk P D t x i k=some r)(hx:VR D ρ lv x vx)(hi:VR D ρ lv i vi) :
  ∃z v,y76 P t vx vi=some v∧VR D ρ lv z v∧k z=some r:=by
 unfold yuk at h;split at h;rename_i ik n;simp[VR]at hi;subst hi;split at h;rename_i s;simp[VR]at hx;subst hx;split at h;rename_i hu;obtain⟨b,hb,h⟩:=z1p h;obtain⟨h1,h2⟩:=zje hb;refine⟨_,.int .u8 b.toNat,?_,by simp[VR],h⟩
 simp_all[y76]
 cases h;rename_i cs;simp[VR]at hx;obtain⟨vs,rfl,hx⟩:=hx;split at h;rename_i len e hu;split at h;rename_i τ hτ;split at h;rename_i hc;obtain⟨c1,c2,c3,c4⟩:=hc;split at h;split at h;rename_i xs hxs;obtain⟨y,hy,h⟩:=z1p h;obtain⟨k1,k2⟩:=y2f hD hxs hx;obtain⟨p1,p2,u,p3,p4⟩:=ysy k1 k2 hy;have hlen:vs.length=len:=by rw[k1,yqz hxs,c1]
 refine⟨_,u,?_,VR.leaf p4,h⟩;unfold y76;simp only;rw[Qbq p1,hu];simp only;rw[Qbq ⟨by omega,c3⟩,c2,Nat.mul_one]
 grind[rd,TypeDesc.isAgg]
 cases h;cases h;cases h;cases h;cases h;cases h;cases h
omit hD in
theorem z01b{d n:Nat}{o l vo}(hd:d<=n)(h:yk1 D (d:Int) o=some l)(hv:∀x,o=some x->∃v,vo=some v∧VR D ρ lv x v)(hn:o=none->vo=none)(h0:0<=l)(hl:l<=n):bnd n d vo=some l.toNat:=by
 unfold yk1 at h;split at h;cases h;rw[hn rfl];simp[bnd];rename_i ik x;cases h;obtain⟨v,e1,e2⟩:=hv _ rfl
 simp_all[VR,bnd]
 cases h
omit hD in
theorem yk2{R t x lo hi vx vlo vhi k kf}{r:R}(h:yt4 P D t x lo hi k kf=some r)(hx:VR D ρ lv x vx)
  (hlo:∀y,lo=some y->∃v,vlo=some v∧VR D ρ lv y v) (hlo0:lo=none->vlo=none) (hhi:∀y,hi=some y->∃v,vhi=some v∧VR D ρ lv y v) (hhi0:hi=none->vhi=none) (H) :
  (∃z v,zhz P H t vx vlo vhi none=some v∧VR D ρ lv z v∧k z=some r)∨∃s,kf s=some r:=by
 unfold yt4 at h
 have bounds:∀{n:Nat}{l q:Int},yk1 D 0 lo=some l->yk1 D (n:Int) hi=some q->0<=l->l<=q->q<=n->zji n vlo vhi none=some (l.toNat,q.toNat,none):=λ{n l q} hl hq h1 h2 h3=>by
  simp[zji];rw[z01b (Qbp n) hq hhi hhi0 (by omega) h3];simp[Option.bind_some];rw[z01b (d:=0) (n:=q.toNat) (Qbo _) hl hlo hlo0 h1 (by omega)];rfl
 split at h;rename_i s;simp[VR]at hx;subst hx;split at h;rename_i hu;split at h;rename_i l q hl hq;obtain⟨y,hy,h⟩:=z1p h;obtain⟨h1,h2,h3,rfl,_⟩:=yp2 hy;left;exact⟨_,.str ((s.take q.toNat).drop l.toNat),by grind[zhz],by simp[VR],h⟩;cases h;cases h
 ·rename_i τ xs fl;simp[VR]at hx;obtain⟨hx,hf1,hf2⟩:=hx;split at h
  ·rename_i e hu;split at h
   ·rename_i hz;split at h
    ·rename_i l q hl hq;obtain⟨y,hy,h⟩:=z1p h;obtain⟨h1,h2,h3,rfl,_⟩:=yp2 hy;left
     cases hx with
     |nil=>
      refine⟨_,.nils,?_,?_,h⟩
      simp_all[zhz]
      simp only[VR];refine⟨by simp[List.drop_nil];exact .nil τ,λhfl =>?_,λhfl=>by simp⟩
      grind
     |sl _ _ ws full hlw hh=>
      refine⟨_,.sl (D.len τ) ((ws.take q.toNat).drop l.toNat) (full&&q.toNat==ws.length),?_,?_,h⟩
      rotate_left
      simp[VR];refine⟨.sl τ _ ((ws.take q.toNat).drop l.toNat) (full&&q.toNat==ws.length) (by simp[hlw]) λj x w hx hw =>?_,λhfl =>?_,λhfl =>?_⟩;rw[Qbb,Qaw]at hx hw;split at hx
      grind
      cases hx
      have hfl':hi=none∧1<=fl:=by
       grind
      obtain⟨ws',hw'⟩:=hf1 hfl'.2;cases hw'
      have hqn:q=xs.length:=by
       grind[yk1]
      simp_all
      grind
      simp_all[zhz]
    cases h
   cases h
  cases h
 exact .inr ⟨_,h⟩;cases h
omit hD in
theorem TRr.oev(hR:TRr D F ρ ts σ){o x}(h:oev D ts o=some x):(∀y,x=some y->∃v,o.map σ.ev=some v∧VR D ρ F.lv y v)∧(x=none->o.map σ.ev=none):=by
 cases o with
 |none=>simp[Go.Ab.oev,Qbn]at h;grind
 |some o=>
  simp[Go.Ab.oev,Qaf]at h;obtain⟨y,hy,rfl⟩:=h;exact⟨λz hz=>by cases hz;exact⟨_,rfl,hR.ev hy⟩,by simp⟩
omit hD in
theorem DR.flat{t}(ht:t.flat=true){x v}(h:DR D t x v):v=D.el t x:=by
 cases h <;> first|rfl|cases ht
theorem yh2{R}(hR:TRr D F ρ ts σ){t x key vx vk ok k}{r:R}(h:yn5 P D ts t x key ok k=some r)(hx:VR D ρ F.lv x vx)(hk:VR D ρ F.lv key vk) :
  ∃z v,zu5 P σ.H t vx vk ok=some v∧VR D ρ F.lv z v∧k z=some r:=by
 unfold yn5 at h;split at h;rename_i kt e s hu;simp[VR]at hk;subst hk;split at h;rename_i z hkt hz;obtain⟨vz,hz1,hz2⟩:=zk8 (ρ:=ρ) (lv:=F.lv) hz;split at h;rename_i q;split at h;rename_i ty τ es ho;simp only[VR]at hx;obtain⟨sl,i,h1,h2,rfl⟩:=hx;obtain⟨sl',k1,k2⟩:=hR.ob _ _ ho;rw[h1]at k1;cases k1;simp only[OR]at k2;obtain⟨i',ms,q1,q2,q4,q3⟩:=k2;rw[h2]at q1;cases q1;split at h;rename_i z0 hz0;have h0:=zj0 hD hz0 hz2
 obtain⟨l1,l2⟩:=ysu (P:=P) (f:=λx:τ.S D.T×V=>x.2) (m:=ms) hu hkt hz1 (hR.get q3) s (z0,vz) rfl;have eg:z8a es s=(z8a ms s).map Prod.fst:=by rw[q2];exact yqy Prod.fst s ms
 have hv:VR D ρ F.lv (D.tv τ ((z8a es s).getD z0)) ((z8a ms s).getD (z0,vz)).2:=by
  rw[eg]
  cases hm:z8a ms s with
  |none=>exact VR.tv hD h0
  |some p=>
   obtain⟨q,a1,a2⟩:=ypn hm
   grind[VR.tv]
 have hs:(z8a es s).isSome=(z8a ms s).isSome:=by grind
 cases ok
 grind
 exact⟨_,_,l2,by
  simp only[VR,VRL]
  exact⟨_,rfl,_,_,rfl,hv,_,_,rfl,by rw[hs],rfl⟩,h⟩
 cases h;cases h;cases h;cases h;cases h
omit hD in
theorem DO.datE{L t x v c}(h:DO D lv L .dat t x v c):DR D t x v:=by
 cases h with
 |dat h=>exact h
omit hD in
theorem zxz(q):∀(l) (x) (f j),(y34 D q l x f)[j]? = (HL.nth l x j).map λp=>match D.ow q (f+j)with|none=>D.leaf p.1 p.2|some _=>.any
 |[],_,_,j=>by simp[y34,HL.nth]
 |t::l,x,f,0=>by rfl
 |t::l,x,f,j+1=>by
  have:=zxz q l x.2 (f+1) j
  grind[y34,HL.nth]
omit hD in
theorem yrr{ρ0 ρ' L q n h x w c}(hE:EO D ρ0 lv L q h n x w c):VRL D ρ' lv (y34 D q (D.fl q) (D.get q x) 0) w.cells:=by
 obtain⟨vs,cs,rfl,h2,h3,h4,h5⟩:=hE;refine .of ?_ λj y v hy hv =>?_
 show(y34 D q (D.fl q) (D.get q x) 0).length=vs.length;rw[h2];apply Nat.le_antisymm;apply Nat.le_of_not_lt;intro hlt;have:=zxz (D:=D) q (D.fl q) (D.get q x) 0 (D.fl q).length;rw[Qab hlt]at this
 cases hn:HL.nth (D.fl q) (D.get q x) (D.fl q).length with
 |none=>grind
 |some p=>have:=(HL.zg4 _ _ _ _ hn).1;omega
 apply Nat.le_of_not_lt;intro hlt;obtain⟨p,hp,_⟩:=HL.zkl (D.fl q) (D.get q x) _ hlt;have:=zxz (D:=D) q (D.fl q) (D.get q x) 0 (y34 D q (D.fl q) (D.get q x) 0).length
 simp_all
 rw[zxz,Qaf]at hy;obtain⟨p,hp,rfl⟩:=hy;have hj:=(HL.zg4 _ _ _ _ hp).1;rw[Nat.zero_add]
 cases how:D.ow q j with
 |some ty=>simp[VR]
 |none=>
  have:=h5 j p v _ hp hv (Qab (show j<cs.length by omega));rw[how]at this;split at this
  grind
  exact VR.leaf this.datE
omit hD in
theorem zf9{R}(hR:TRr D F ρ ts σ){ρ' t s off i set k}{r:R}{va}(hset:∀f v sl w u,set=some (f,v)->ρ[s]? = some sl->sl.ws[i.toNat]? = some w->w.cells[f]? = some u->VR D ρ' F.lv v u)
  (h:zv4 P D ts t s i off set k=some r) (ha:VR D ρ F.lv (.dp s i off) va):∃x v,zco P σ.H t va=some v∧VR D ρ' F.lv x v∧k x=some r:=by
 unfold zv4 at h;split at h;rename_i ty q xs hh ho;obtain⟨y,hy,h⟩:=z1p h;split at h;rename_i x hx;simp only[VR]at ha;obtain⟨sl,j,ver,m,a1,a2,a3,a4,rfl⟩:=ha;obtain⟨sl',b1,b2⟩:=hR.ob s _ ho;rw[a1]at b1;cases b1;simp only[OR]at b2;obtain⟨c1,c2⟩:=b2;obtain⟨p1,p2⟩:=zje hy
 cases hk:sl.k with
 |none=>grind
 |some j'=>
  rw[hk]at c2;obtain⟨ver',cp,fps,d1,d2,d3,d4,d5,d6,d7⟩:=c2;rw[a2]at d1;cases d1;have hw:=Qab a4;have hE:=d6 i.toNat y _ _ p2 hw (Qab (show i.toNat<fps.length by omega));have hm:=yrr (ρ':=ρ') hE
  have hs:VRL D ρ' F.lv (setO (y34 D q (D.fl q) (D.get q y) 0) set) (sl.ws[i.toNat]'a4).cells:=by
   cases set with
   |none=>exact hm
   |some p=>
    obtain⟨f,v⟩:=p;refine .of (by simp[setO,hm.length]) λn c u hc hu =>?_
    simp[setO]at hc;rw[Qbd]at hc;split at hc;rename_i e;subst e;split at hc;injection hc with hc;grind;cases hc;exact hm.y1r hc hu
  obtain⟨v,v1,v2⟩:=zfb hs hx;refine⟨x,v,?_,v2,h⟩;simp[y0w,hR.get d2,hw,Option.bind_some];exact v1
 cases h;cases h
omit hD in
theorem ylh{R}(hR:TRr D F ρ ts σ){t s off i k}{r:R}{va}
  (h:yt5 P D ts t s i off k=some r) (ha:VR D ρ F.lv (.dp s i off) va):∃x v,zco P σ.H t va=some v∧VR D ρ F.lv x v∧k x=some r:=by
 unfold yt5 at h;split at h;rename_i ty q xs p ho;obtain⟨n,f',c⟩:=p;split at h;rename_i hff;have hff:=Qaj hff;subst hff;obtain⟨_,hs,h⟩:=z1p h
 have hni:n=i:=by
  grind[zlb]
 subst hni;refine zf9 hR (ρ':=ρ) (λf2 v sl w u' e hsl hw hu =>?_) h ha;injection e with e;cases e;obtain⟨sl',b1,b2⟩:=hR.ob s _ ho;rw[hsl]at b1;cases b1;simp only[OR]at b2;obtain⟨c1,c2⟩:=b2
 cases hk:sl.k with
 |none=>grind
 |some j'=>
  rw[hk]at c2;obtain⟨ver',cp',fps,d1,d2,d3,d4,d5,d6,d7⟩:=c2;have hlt:=(d7 _ _ _ rfl).2;obtain⟨vs,cs,g1,g2,g3,g4,g5⟩:=d6 n.toNat _ w _ (Qab hlt) hw (Qab (show n.toNat<fps.length by omega));subst g1;replace hu:vs[f']? = some u':=hu;have hfl:=(Qaa.1 hu).1;obtain⟨p,hp,_⟩:=HL.zkl (D.fl q) (D.get q xs[n.toNat]) f' (by omega)
  have:=g5 f' p u' _ hp hu (Qab (show f'<cs.length by omega))
  grind[z2h,VR]
 exact zf9 hR (ρ':=ρ) (λf v _ _ _ e=>by cases e) h ha;exact zf9 hR (ρ':=ρ) (λf v _ _ _ e=>by cases e) h ha
theorem ycs{R}(hR:TRr D F ρ ts σ){op k kf}{r:R}(h:tP P D ts op k kf=some r) :
  (∃x v,pv P σ.H σ.ev op=some v∧VR D ρ F.lv x v∧k x=some r)∨∃s,kf s=some r:=by
 unfold tP at h;split at h;rename_i c a b;split at h;rename_i t x y hc hx hy;have h1:=hR.ev hc;simp[VR]at h1;left;rw[yag]at h;split at h;rename_i ht;exact⟨x,_,by simp only[pv,h1];rw[Qbq ht],hR.ev hx,h⟩;rename_i ht;exact⟨y,_,by simp only[pv,h1];rw[Qbr ht],hR.ev hy,h⟩;cases h;split at h;rename_i hx hy;left;obtain⟨z,v,h1,h2,h3⟩:=yse h (hR.ev hx) (hR.ev hy);exact⟨z,v,h1,h2,h3⟩;cases h;split at h;rename_i hx hy;left
 obtain⟨z,v,h1,h2,h3⟩:=y6l hD hR h (hR.ev hx) (hR.ev hy);exact⟨z,v,h1,h2,h3⟩;cases h;split at h;rename_i hx hy;left;obtain⟨z,v,h1,h2,h3⟩:=ymj hD h (hR.ev hx) (hR.ev hy);exact⟨z,v,h1,h2,h3⟩;cases h;split at h;rename_i hx hy;left;obtain⟨z,v,h1,h2,h3⟩:=yh2 hD hR h (hR.ev hx) (hR.ev hy);exact⟨z,v,h1,h2,h3⟩;cases h;split at h;rename_i hx hlo hhi;obtain⟨a1,a2⟩:=hR.oev hlo;obtain⟨b1,b2⟩:=hR.oev hhi
 exact yk2 h (hR.ev hx) a1 a2 b1 b2 σ.H;cases h;split at h;rename_i hx;left;exact ylh hR h (hR.ev hx)
 grind[yjm]
 grind[yjm]
end
end Go.Ab
